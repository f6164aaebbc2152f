/-
  Bytes behind a state: the program's ((sha.State).Add).
-/
import Derived.Test.YtiidohaibbdgeaaDoorShaWith
import Derived.Test.YtiidohaibbdgeaaDoorShaText
import Derived.Deep.WholeRow
import Derived.Deep.Cut
import Derived.Deep.CutBlock
namespace Go.Proofs.YtiidohaibbdgeaaDoor
open Go.RowKit

/-- The cells of a state. -/
def stCells (s : Eight) (pc : Nat → BitVec 8) (n : Nat) : Array Value :=
  tabulate 74 fun i => if i = 0 then .bool true else if i < 9 then s.word (i - 1) else if i < 73 then B8 (pc (i - 9)) else .int .u64 (n : Int)

/-- The bytes of a slice. -/
def Reads (w : World) (B : Nat) (a : Option Addr) (xs : List (BitVec 8)) : Prop :=
  0 < xs.length → ∃ b o, a = some ⟨b, o, none⟩ ∧ b < B ∧ ∀ j, j < xs.length → w.cell? ⟨b, o + j, none⟩ = some (B8 (xs.getD j 0))
/-- The address of what is left of a slice. -/
def cutAddr (cap k : Nat) (a : Option Addr) : Option Addr := if cap = k then a else a.map (·.add k)

theorem Reads.below {w w' : World} {B : Nat} {a : Option Addr} {xs : List (BitVec 8)} (h : Reads w B a xs) (hb : Below B w w') : Reads w' B a xs := fun hn => by
  obtain ⟨b, o, ha, hB, hc⟩ := h hn
  exact ⟨b, o, ha, hB, fun j hj => (hb.cell (by exact hB)).trans (hc j hj)⟩
theorem Reads.cut {w : World} {B cap k : Nat} {a : Option Addr} {xs : List (BitVec 8)} (h : Reads w B a xs) (hc : xs.length ≤ cap) : Reads w B (cutAddr cap k a) (xs.drop k) := fun hn => by
  rw [List.length_drop] at hn
  obtain ⟨b, o, rfl, hB, hcell⟩ := h (by omega)
  refine ⟨b, o + k, ?_, hB, fun j hj => ?_⟩
  · rw [cutAddr, if_neg (by omega)]; simp [addr_add]
  · rw [List.length_drop] at hj
    have := hcell (k + j) (by omega)
    rw [Nat.add_assoc, this]
    simp [List.getD, List.getElem?_drop]

theorem slice_from {P : Program} {t e : TypeId} {i : TypeInfo} (ht : P.underlying t = some (.slice e)) (hi : P.info? e = some i) (hs : i.size = 1)
    (a : Option Addr) (n c : Nat) (kl : IntKind) (li : Int) (l m d : Nat) (el : li = l) (h : l ≤ n) (hm : m = n - l) (hd : d = c - l) (w : World) :
    (Instr.sliceAt t (.slice a n c) (some (.int kl li)) none none).run P w = .ok (.slice (cutAddr c l a) m d) w := by
  subst el hm hd
  have he : P.elem t = e := by simp [Program.elem, ht]
  rw [run_sliceAt_slice w t _ _ _ _ (by rw [he]; exact ht), run_slice_l w t _ _ _ (by rw [he]; exact ht) kl l (by omega) (by omega), he]
  simp [sizeOf, typeInfo, hi, hs, sliced, cutAddr]

theorem tabulate_splice (n : Nat) (f g : Nat → Value) (off k : Nat) (h : off + k ≤ n) :
    ((tabulate n f).toList.take off ++ ((tabulate k g).toList ++ (tabulate n f).toList.drop (off + k))).toArray = tabulate n fun i => if off ≤ i ∧ i < off + k then g (i - off) else f i := by
  apply Array.ext'
  apply List.ext_getElem?
  intro j
  simp only [tabulate, List.length_map, List.length_range, List.getElem?_append, List.length_take, List.getElem?_take, List.getElem?_drop, List.getElem?_map]
  by_cases h1 : j < off
  · rw [if_pos (by omega), if_pos h1]
    by_cases h3 : j < n
    · simp [h3]
      intro; omega
    · omega
  · rw [if_neg (by omega)]
    have e : min off n = off := by omega
    rw [e]
    by_cases h2 : j - off < k
    · rw [if_pos h2]
      simp [h2, (by omega : j < n), (by omega : off ≤ j ∧ j < off + k)]
    · rw [if_neg h2]
      have e2 : off + k + (j - off - k) = j := by omega
      rw [e2]
      by_cases h3 : j < n
      · simp [h3]; intro; omega
      · simp [h3]

def stZero : Array Value := tabulate 74 fun i => if i = 0 then .bool false else if i < 9 then U 0 else if i < 73 then B8 0 else .int .u64 0
theorem Tryd.info_state : (Tryd.prog.info? 124).map (fun i => (i.zero, i.size)) = some (some (.agg stZero), 74) := by kernel_rfl

theorem stCells_n (s : Eight) (pc : Nat → BitVec 8) (n : Nat) : (stCells s pc n)[73]? = some (.int .u64 (n : Int)) := by rw [stCells, tabulate_get (by omega)]; rfl
theorem stCells_size (s : Eight) (pc : Nat → BitVec 8) (n : Nat) : (stCells s pc n).size = 74 := tabulate_size _ _
theorem stCells_setn (s : Eight) (pc : Nat → BitVec 8) (n n' : Nat) : (stCells s pc n).setIfInBounds 73 (.int .u64 (n' : Int)) = stCells s pc n' := by
  rw [stCells, tabulate_set]
  refine tabulate_ext fun i hi => ?_
  by_cases h : i = 73
  · subst h; simp
  · rw [if_neg h]
    by_cases h0 : i = 0
    · simp [h0]
    · by_cases h9 : i < 9
      · simp [h0, h9]
      · simp only [h0, h9, (by omega : i < 73), if_true, if_false]
/-- Cells of a block, stored one behind the other. -/
def setAll (cs : Array Value) (o : Nat) : List Value → Array Value
  | [] => cs
  | v :: r => setAll (cs.setIfInBounds o v) (o + 1) r
theorem Blk.setCells {g : Nat} {t : TypeId} : ∀ (vs : List Value) {cs : Array Value} {w : World} (o : Nat), Blk w g t cs → Blk (w.setCells g o vs) g t (setAll cs o vs)
  | [], _, _, _, h => h
  | v :: r, _, _, o, h => by rw [World.setCells]; exact Blk.setCells r (o + 1) (h.set o v)
theorem Blk.setCells_far {g g' : Nat} {t : TypeId} (hne : g ≠ g') : ∀ (vs : List Value) {cs : Array Value} {w : World} (o : Nat), Blk w g t cs → Blk (w.setCells g' o vs) g t cs
  | [], _, _, _, h => h
  | v :: r, _, _, o, h => by rw [World.setCells]; exact Blk.setCells_far hne r (o + 1) (h.far (p := ⟨g', o, none⟩) hne v)
theorem Below.setCells {B g : Nat} {a : World} (hg : B ≤ g) : ∀ (vs : List Value) {w : World} (o : Nat), Below B a w → Below B a (w.setCells g o vs)
  | [], _, _, h => h
  | v :: r, _, o, h => by rw [World.setCells]; exact Below.setCells hg r (o + 1) (h.setCell (p := ⟨g, o, none⟩) hg v)
theorem stCells_words (s s' : Eight) (pc : Nat → BitVec 8) (n : Nat) : setAll (stCells s pc n) 1 s'.cells.toList = stCells s' pc n := by
  show setAll (stCells s pc n) 1 [U s'.a, U s'.b, U s'.c, U s'.d, U s'.e, U s'.f, U s'.g, U s'.h] = _
  simp only [setAll, stCells, tabulate_set]
  refine tabulate_ext fun i hi => ?_
  by_cases h9 : i < 9
  · match i, h9 with
    | 0, _ => rfl
    | 1, _ => rfl
    | 2, _ => rfl
    | 3, _ => rfl
    | 4, _ => rfl
    | 5, _ => rfl
    | 6, _ => rfl
    | 7, _ => rfl
    | 8, _ => rfl
  · iterate 8 rw [if_neg (by omega)]
    by_cases h0 : i = 0
    · rw [if_pos h0, if_pos h0]
    · rw [if_neg h0, if_neg h0, if_neg h9, if_neg h9]
theorem stCells_splice (s : Eight) (pc : Nat → BitVec 8) (n off k : Nat) (Y : List (BitVec 8)) (h : off + k ≤ 64) :
    ((stCells s pc n).toList.take (9 + off) ++ ((tabulate k fun j => B8 (Y.getD j 0)).toList ++ (stCells s pc n).toList.drop (9 + off + k))).toArray = stCells s (pcMore off k Y pc) n := by
  rw [stCells, tabulate_splice _ _ _ _ _ (by omega)]
  refine tabulate_ext fun i hi => ?_
  unfold pcMore
  by_cases h1 : 9 + off ≤ i ∧ i < 9 + off + k
  · rw [if_pos h1, if_neg (by omega), if_neg (by omega), if_pos (by omega), if_pos (by omega)]
    have e : i - (9 + off) = i - 9 - off := by omega
    rw [e]
  · rw [if_neg h1]
    by_cases h0 : i = 0
    · rw [if_pos h0, if_pos h0]
    · rw [if_neg h0, if_neg h0]
      by_cases h9 : i < 9
      · rw [if_pos h9, if_pos h9]
      · rw [if_neg h9, if_neg h9]
        by_cases h73 : i < 73
        · rw [if_pos h73, if_pos h73, if_neg (by omega)]
        · rw [if_neg h73, if_neg h73]
theorem stCells_range {w : World} {g : Nat} {t : TypeId} {s : Eight} {pc : Nat → BitVec 8} {n : Nat} (h : Blk w g t (stCells s pc n)) : w.rangeAt g 1 s.cells.toList := fun j v hj => by
  have hj8 : j < 8 := (List.getElem?_eq_some_iff.1 hj).1
  rw [h.cell, stCells, tabulate_get (by omega), if_neg (by omega), if_pos (by omega), ← hj, Nat.add_sub_cancel_left, Array.getElem?_toList, s.cells_get j hj8]
theorem stCells_piece {w : World} {g : Nat} {t : TypeId} {s : Eight} {pc : Nat → BitVec 8} {n : Nat} (h : Blk w g t (stCells s pc n)) (i : Nat) (hi : i < 64) : w.cell? ⟨g, 9 + i, none⟩ = some (B8 (pc i)) := by
  rw [h.cell, stCells, tabulate_get (by omega), if_neg (by omega), if_neg (by omega), if_pos (by omega), Nat.add_sub_cancel_left]
theorem stCells_there {w : World} {g : Nat} {t : TypeId} {s : Eight} {pc : Nat → BitVec 8} {n : Nat} (h : Blk w g t (stCells s pc n)) : w.there g 1 8 := fun j hj =>
  ⟨by rw [h.cell, stCells, tabulate_get (by omega)]; rfl, h.free _⟩

/-- 'copy' of bytes into a block that is known whole. -/
theorem wpList_copy_bytes {P : Program} {w : World} {ops : Array Oper} {rest : List Oper} {o : Oper} {a : Act} {Q : Exit → Act → World → Prop} (hgd : o.guard = none) (d s : Operand) (dT sT : TypeId)
    (ho : o.op = .call { callee := .builtin .copy, args := #[d, s], argTypes := #[dT, sT] }) (elem : TypeId) (hu : P.underlying dT = some (.slice elem)) (hsz : (P.info? elem).map (·.size) = some 1)
    (g off dLen dCap rb ro sLen sCap : Nat) (hd : a.eval d = .slice (some ⟨g, off, none⟩) dLen dCap) (hs : a.eval s = .slice (some ⟨rb, ro, none⟩) sLen sCap)
    (cur : Array Value) (t : TypeId) (hg : Blk w g t cur) (k : Nat) (Y : List (BitVec 8)) (hk : k = Nat.min sLen dLen) (hY : ∀ j, j < k → w.cell? ⟨rb, ro + j, none⟩ = some (B8 (Y.getD j 0))) (hfit : off + k ≤ cur.size)
    (cs : Array Value) (hcs : (cur.toList.take off ++ ((tabulate k fun j => B8 (Y.getD j 0)).toList ++ cur.toList.drop (off + k))).toArray = cs)
    (h : wpList P ops Q rest (a.put o.dst (.int .i64 (k : Int))) (w.setRow g cs)) : wpList P ops Q (o :: rest) a w := by
  have hl : (tabulate k fun j => B8 (Y.getD j 0)).toList.length = k := by simp [tabulate_size]
  refine wpList_copy_own hgd d s dT sT ho elem hu hsz g off dLen dCap ⟨rb, ro, none⟩ sLen sCap hd hs cur t hg (tabulate k fun j => B8 (Y.getD j 0)).toList (hl.trans hk) ?_ (by rw [hl]; exact hfit) ?_ (by rw [hl, hcs]; exact h)
  · intro j v hj
    have hjk : j < k := by rw [← hl]; exact (List.getElem?_eq_some_iff.1 hj).1
    have hv : (tabulate k fun j => B8 (Y.getD j 0))[j]? = some v := by simpa using hj
    rw [tabulate_get hjk] at hv
    injection hv with hv
    subst hv
    rw [addr_add]
    exact hY j hjk
  · intro v hv
    simp only [tabulate, List.mem_map, List.mem_range] at hv
    obtain ⟨j, _, rfl⟩ := hv
    rfl

theorem stCells_one (s : Eight) (pc : Nat → BitVec 8) (n : Nat) : (stCells s pc n).all (·.oneCell') = true := tabulate_one fun i _ => by
  split
  · rfl
  · split
    · rfl
    · split <;> rfl

def lenOf : Value → Nat | .slice _ n _ => n | _ => 0
/-- A state that stands for these bytes: what a call hands back. -/
def AddEnds (M : List (BitVec 8)) (w : World) (e : Ending) (w' : World) : Prop :=
  ∃ pc, e = .returned (.agg (stCells (pieces M (M.length / 64)) pc M.length)) ∧ PcOf M pc ∧ Below w.heap.size w w'

set_option maxRecDepth 100000 in
set_option maxHeartbeats 2000000 in
theorem add_any (m xs : List (BitVec 8)) (pc : Nat → BitVec 8) (a : Option Addr) (cap : Nat) (w : World) (hr : Reads w w.heap.size a xs) (hcap : xs.length ≤ cap) (hpc : PcOf m pc)
    (hlen : m.length + xs.length < 2305843009213693952) (hT : Tab w) :
    Calls Tryd.prog 87 #[.agg (stCells (pieces m (m.length / 64)) pc m.length), .slice a xs.length cap] w (AddEnds (m ++ xs) w) := by
  have g0 : (stCells (pieces m (m.length / 64)) pc m.length)[0]? = some (.bool true) := rfl
  obtain ⟨i5, hi5, _, hs5, _⟩ := info_parts Tryd.info_u8
  have hz := (zero_of_info Tryd.info_state).1
  have hr0 := Lib.hid hr
  have hT0 := Lib.hid hT
  have hpc0 := Lib.hid hpc
  clear hr hT hpc
  go_enter Tryd.func87, Tryd.ntmps87
  go_wp2
  generalize hw1 : World.alloc _ _ = w1
  have hK : Blk w1 w.heap.size 124 (stCells (pieces m (m.length / 64)) pc m.length) := by
    rw [← hw1]; exact (Blk.new w _ _).alloc _
  have hR : Blk w1 (w.heap.size + 1) 124 stZero := by
    rw [← hw1]
    have := Blk.new (w.alloc (.cells (stCells (pieces m (m.length / 64)) pc m.length) 124)) 124 stZero
    rw [World.size_alloc] at this
    exact this
  have hB : Below w.heap.size w w1 := by
    rw [← hw1]; exact ((Below.refl _ _).alloc (Nat.le_refl _) _).alloc (by simp) _
  clear hw1 hz g0
  go_loopw [1] (fun v wr => ∃ (c : Nat) (pc : Nat → BitVec 8) (ad : Option Addr) (cp : Nat), c ≤ xs.length ∧ v = .slice ad (xs.length - c) cp ∧ xs.length - c ≤ cp ∧ Reads wr w.heap.size ad (xs.drop c) ∧
      Blk wr w.heap.size 124 (stCells (pieces (m ++ xs.take c) ((m ++ xs.take c).length / 64)) pc (m ++ xs.take c).length) ∧ PcOf (m ++ xs.take c) pc ∧
      Blk wr (w.heap.size + 1) 124 stZero ∧ Below w.heap.size w wr) (fun v _ => lenOf v)
  case atStart => exact ⟨0, pc, a, cap, by omega, rfl, by omega, by simpa using hr0.out.below hB, by simpa using hK, by simpa using hpc0.out, hR, hB⟩
  case round =>
    obtain ⟨c, pc, ad, cp, hc, rfl, hcp, hrd, hKr, hpcr, hRr, hBr⟩ := hrel
    clear hK hR hB
    by_cases hlt : c < xs.length
    · have hl : (m ++ xs.take c).length = m.length + c := by simp; omega
      have hY : (xs.drop c).length = xs.length - c := by simp
      have hMM : ∀ k, (m ++ xs.take c) ++ (xs.drop c).take k = m ++ xs.take (c + k) := fun k => take_more m xs c k
      replace hMM := Lib.hid hMM
      generalize m ++ xs.take c = M at *
      generalize hYY : xs.drop c = Y at *
      replace hYY := Lib.hid hYY
      have hlM : M.length < 2305843009213693952 := by omega
      obtain ⟨k, hk⟩ : ∃ k, k = Nat.min (xs.length - c) (64 - M.length % 64) := ⟨_, rfl⟩
      have hk1 : k ≤ xs.length - c := by rw [hk]; exact Nat.min_le_left _ _
      have hk2 : k ≤ 64 - M.length % 64 := by rw [hk]; exact Nat.min_le_right _ _
      have hk3 : k = xs.length - c ∨ k = 64 - M.length % 64 := by rw [hk]; rcases Nat.le_total (xs.length - c) (64 - M.length % 64) with h | h <;> simp [h] <;> omega
      have hk0 : 0 < k := by omega
      replace hk := Lib.hid hk
      obtain ⟨rb, ro, rfl, hrB, hrc⟩ := hrd (by omega)
      have hn := stCells_n (pieces M (M.length / 64)) pc M.length
      have hcn : wr.cell? ⟨w.heap.size, 73, none⟩ = some (.int .u64 (M.length : Int)) := by rw [hKr.cell]; exact hn
      have hsl := sliceAt_from (P := Tryd.prog) Tryd.underlying122 hi5 hs5 w.heap.size 9 .u64 ((M.length : Int) % 64) (M.length % 64) (9 + M.length % 64) (64 - M.length % 64) (by omega) (by omega) rfl rfl wr
      have hlt' := Lib.hid hlt
      have hY' := Lib.hid hY
      have hl' := Lib.hid hl
      have hrc' := Lib.hid hrc
      clear hY hl hrc hn hk3
      have hsz : (Tryd.prog.info? 5).map (·.size) = some 1 := by rw [hi5]; simp [hs5]
      have hcut := fun wx => slice_from (P := Tryd.prog) Tryd.underlying35 hi5 hs5 (some ⟨rb, ro, none⟩) (xs.length - c) cp .i64 (k : Int) k (xs.length - (c + k)) (cp - k) rfl hk1 (by omega) rfl wx
      go_upto_region 7 with (
         refine wpList_copy_bytes rfl (.tmp 17) (.tmp 18) 35 35 rfl 5 Tryd.underlying35 hsz w.heap.size (9 + M.length % 64) (64 - M.length % 64) (64 - M.length % 64) rb ro (xs.length - c) cp rfl rfl (stCells (pieces M (M.length / 64)) pc M.length) 124 hKr k Y hk.out (fun j hj => hrc'.out j (by rw [hY'.out]; omega)) (by rw [stCells_size]; omega) _ (stCells_splice _ _ _ _ _ _ (by omega)) ?_
         generalize hw2 : World.setRow _ _ _ = w2
         have hK2 : Blk w2 w.heap.size 124 (stCells (pieces M (M.length / 64)) (pcMore (M.length % 64) k Y pc) M.length) := by rw [← hw2]; exact hKr.row _
         have hR2 : Blk w2 (w.heap.size + 1) 124 stZero := by rw [← hw2]; exact hRr.row_far (by omega) _
         have hB2 : Below w.heap.size w w2 := by rw [← hw2]; exact Below.setRow hBr (Nat.le_refl _) _
         have hrd2 : Reads w2 w.heap.size (some ⟨rb, ro, none⟩) Y := by rw [← hw2]; exact hrd.below (Below.setRow (Below.refl _ _) (Nat.le_refl _) _)
         have hcn2 : w2.cell? ⟨w.heap.size, 73, none⟩ = some (.int .u64 (M.length : Int)) := by rw [hK2.cell]; exact stCells_n _ _ _
         have hcf2 := hK2.free 73
         clear hw2)
      have hK3 := (hK2.set 73 (.int .u64 ((M.length : Int) + (k : Int))))
      have e3 : (Value.int .u64 ((M.length : Int) + (k : Int))) = .int .u64 ((M.length + k : Nat) : Int) := by simp
      rw [e3, stCells_setn] at hK3
      have hR3 : Blk (w2.setCell ⟨w.heap.size, 73, none⟩ (.int .u64 ((M.length : Int) + (k : Int)))) (w.heap.size + 1) 124 stZero := hR2.far (by simp) _
      have hB3 : Below w.heap.size w (w2.setCell ⟨w.heap.size, 73, none⟩ (.int .u64 ((M.length : Int) + (k : Int)))) := hB2.setCell (Nat.le_refl _) _
      have hrd3 : Reads (w2.setCell ⟨w.heap.size, 73, none⟩ (.int .u64 ((M.length : Int) + (k : Int)))) w.heap.size (some ⟨rb, ro, none⟩) Y := hrd2.below ((Below.refl w.heap.size w2).setCell (p := ⟨w.heap.size, 73, none⟩) (Nat.le_refl _) _)
      rw [← e3] at hK3
      clear e3
      generalize World.setCell w2 _ _ = w3 at *
      have hcn3 : w3.cell? ⟨w.heap.size, 73, none⟩ = some (.int .u64 ((M.length : Int) + (k : Int))) := by rw [hK3.cell]; exact stCells_n _ _ _
      have hkY : k ≤ Y.length := by rw [hY'.out]; exact hk1
      have hpc2 := add_pc hpcr hkY (by omega)
      have hlen2 : (M ++ Y.take k).length = M.length + k := by simp; omega
      have hrd4 := hrd3.cut (k := k) (cap := cp) (by rw [hY'.out]; exact hcp)
      have eY : xs.drop (c + k) = Y.drop k := by rw [← hYY.out, List.drop_drop]
      rw [hMM.out k] at hpc2 hlen2
      rw [← eY] at hrd4
      replace hlen2 := Lib.hid hlen2
      replace eY := Lib.hid eY
      by_cases hfull : M.length % 64 + k < 64
      · have hp := add_part hkY hfull
        rw [hMM.out k] at hp
        replace hp := Lib.hid hp
        go_wp2
        go_roundw
        case rel => exact ⟨c + k, pcMore (M.length % 64) k Y pc, cutAddr cp k (some ⟨rb, ro, none⟩), cp - k, by omega, rfl, by omega, hrd4, by rw [hp.out, hlen2.out]; exact hK3, hpc2, hR3, hB3⟩
        case measure => simp [lenOf]; omega
      · have hp := add_full hpcr hkY (by omega)
        rw [hMM.out k] at hp
        replace hp := Lib.hid hp
        have hT3 := hT0.out.grown hB3
        have hi63 : (Tryd.prog.info? 121).map (·.size) = some (pieces M (M.length / 64)).cells.toList.length := by kernel_rfl
        have hi63' : (Tryd.prog.info? 121).map (·.size) = some (press (pieces M (M.length / 64)) (pcMore (M.length % 64) k Y pc)).cells.size := by kernel_rfl
        replace hi63 := Lib.hid hi63
        replace hi63' := Lib.hid hi63'
        have hwc := with_any (pieces M (M.length / 64)) (pcMore (M.length % 64) k Y pc) w.heap.size 9 w3 (fun i hi => stCells_piece hK3 i hi) hT3
        replace hwc := Lib.hid hwc
        go_wp2_with (first
          | (refine wpList_load_mid rfl 121 _ rfl w.heap.size 1 rfl (pieces M (M.length / 64)).cells.toList _ (stCells_range hK3) Tryd.underlying121 rfl hi63.out ?_)
          | (go_at_call 90
             refine hwc.out.mono ?_
             rintro e w4 ⟨rfl, hB4⟩
             have hK4 := hK3.below hB4 hK3.lt
             have hR4 := hR3.below hB4 hR3.lt
             have hB4' : Below w.heap.size w w4 := hB3.trans (hB4.mono (Nat.le_of_lt hK3.lt))
             have hrd5 := hrd4.below (hB4.mono (Nat.le_of_lt hK3.lt)))
          | (refine wpList_store_mid rfl 121 _ _ rfl w.heap.size 1 (press (pieces M (M.length / 64)) (pcMore (M.length % 64) k Y pc)).cells rfl rfl (stCells_there hK4) hi63'.out (Eight.cells_one _) ?_))
        go_frame
        go_roundw
        case rel =>
          have hK5 := Blk.setCells (press (pieces M (M.length / 64)) (pcMore (M.length % 64) k Y pc)).cells.toList 1 hK4
          rw [stCells_words] at hK5
          exact ⟨c + k, pcMore (M.length % 64) k Y pc, cutAddr cp k (some ⟨rb, ro, none⟩), cp - k, by omega, rfl, by omega, hrd5.below (Below.setCells (Nat.le_refl _) _ 1 (Below.refl _ _)), by rw [hp.out, hlen2.out]; exact hK5, hpc2, Blk.setCells_far (by omega) _ 1 hR4,
            Below.setCells (Nat.le_refl _) _ 1 hB4'⟩
        case measure => simp [lenOf]; omega
    · obtain rfl : c = xs.length := by omega
      rw [List.take_length] at hKr hpcr
      have hi67 : (Tryd.prog.info? 124).map (·.size) = some (stCells (pieces (m ++ xs) ((m ++ xs).length / 64)) pc (m ++ xs).length).size := by rw [stCells_size]; kernel_rfl
      replace hi67 := Lib.hid hi67
      go_wp2_with (first
        | (refine wpList_load_row rfl 124 _ rfl w.heap.size rfl 124 _ (0, 0) _ hKr Tryd.underlying124 rfl hi67.out ?_)
        | (refine wpList_store_row rfl 124 _ _ rfl (w.heap.size + 1) _ rfl rfl 124 _ hRr hi67.out (by rw [stCells_size]; rfl) (stCells_one _ _ _) ?_))
      exact bodyPost_ret (v := .agg (stCells (pieces (m ++ xs) ((m ++ xs).length / 64)) pc (m ++ xs).length)) (results_cell_row rfl _ _ (w.heap.size + 1) 124 _ (0, 0) _ rfl (hRr.row _) Tryd.underlying124 rfl hi67.out) rfl ⟨pc, rfl, hpcr, Below.setRow hBr (by omega) _⟩
end Go.Proofs.YtiidohaibbdgeaaDoor
