/-
  The records of the frames that stand at the front, one by one (vault.whole's iterator).
-/
import Derived.Test.YtiidohaibbdgeaaDoorVRange
import Derived.Shelf.Abstract
import Derived.Shelf.RegionOpen
import Derived.WalkKit
import Derived.OwnWalkIn
import Derived.TacticsInMore
import Derived.LoopNIn
import Derived.LoopIn
namespace Go.Proofs.YtiidohaibbdgeaaDoor
open Go Go.RowKit

theorem wpQuiet_of_run {P : Program} {ops : Array Oper} {C : World → Prop} {Q : Act → Prop} {a : Act} {o : Oper} {rest : List Oper} (hgd : o.guard = none) (v : Value)
    (hrun : ∀ w, C w → (execOp a.eval o).run P w = .ok (.value v) w) (h : wpQuiet P ops C Q rest (a.put o.dst v)) : wpQuiet P ops C Q (o :: rest) a := by
  have hw : Region.wanted o (yielded ops a.tmps) = true := by simp [Region.wanted, hgd]
  refine wpQuiet_step fun K hK => ?_
  rw [if_pos hw]
  refine ⟨v, fun w hw' => ?_, hK _ h⟩
  unfold Oper.quietAt
  rw [hrun w hw']
  exact ⟨rfl, rfl⟩

/-- A record as a slice value. -/
structure RecV where
  a : Option Addr
  cap : Nat
  bs : Bs
  le : bs.length ≤ 32768
def RecV.val (x : RecV) : Value := .slice x.a x.bs.length x.cap
/-- Bytes in a block of bytes. -/
def U8At (w : World) (a : Option Addr) (xs : Bs) : Prop :=
  0 < xs.length → ∃ (b o : Nat) (cs : Array Value) (fr : Nat × Nat), a = some ⟨b, o, none⟩ ∧ w.heap[b]? = some (.cells cs 5 fr) ∧ ∀ j, j < xs.length → w.cell? ⟨b, o + j, none⟩ = some (B8 (xs.getD j 0))
/-- Blocks of bytes stay. -/
def U8Same (W W' : World) : Prop := ∀ (k : Nat) (cs : Array Value) (fr : Nat × Nat), W.heap[k]? = some (.cells cs 5 fr) → W'.heap[k]? = some (.cells cs 5 fr)
theorem U8At.same {w w' : World} {a : Option Addr} {xs : Bs} (h : U8At w a xs) (hs : U8Same w w') : U8At w' a xs := fun hn => by
  obtain ⟨b, o, cs, fr, ha, hb, hc⟩ := h hn
  have hb' := hs b cs fr hb
  refine ⟨b, o, cs, fr, ha, hb', fun j hj => ?_⟩
  rw [← hc j hj]
  simp only [World.cell?, hb, hb']
theorem U8At.bytes {w : World} {a : Option Addr} {xs : Bs} (h : U8At w a xs) (B : Nat) : BytesAt B w a xs := fun hn => by
  obtain ⟨b, o, cs, fr, ha, hb, hc⟩ := h hn
  exact ⟨b, o, ha, .of hb, hc⟩
theorem U8At.take {w : World} {a : Option Addr} {xs : Bs} (h : U8At w a xs) (n : Nat) : U8At w a (xs.take n) := fun hn => by
  rw [List.length_take] at hn
  obtain ⟨b, o, cs, fr, ha, hb, hc⟩ := h (by omega)
  refine ⟨b, o, cs, fr, ha, hb, fun j hj => ?_⟩
  rw [List.length_take] at hj
  rw [hc j (by omega)]
  simp [List.getD, show j < n by omega]
theorem U8At.drop {w : World} {a : Option Addr} {xs : Bs} {cap : Nat} (h : U8At w a xs) (n : Nat) (hc : xs.length ≤ cap) : U8At w (cutAddr cap n a) (xs.drop n) := fun hn => by
  rw [List.length_drop] at hn
  obtain ⟨b, o, cs, fr, rfl, hb, hcell⟩ := h (by omega)
  refine ⟨b, o + n, cs, fr, ?_, hb, fun j hj => ?_⟩
  · unfold cutAddr
    rw [if_neg (by omega)]
    simp [addr_add]
  · rw [List.length_drop] at hj
    rw [Nat.add_assoc, hcell (n + j) (by omega)]
    simp [List.getD, List.getElem?_drop]
theorem U8At.of_own {base : Nat} {w : World} {v : Value} {xs : Bs} (h : OwnBytes w base v xs) : ∃ a cap, v = .slice a xs.length cap ∧ (a = none → cap = 0) ∧ xs.length ≤ cap ∧ U8At w a xs := by
  rcases h.2 with ⟨rfl, h0⟩ | ⟨g, cap, cur, rfl, hg, hh, hc, hm, _⟩
  · exact ⟨none, 0, by rw [h0], fun _ => rfl, by omega, fun hn => by omega⟩
  · refine ⟨some ⟨g, 0, none⟩, cap, rfl, (fun h => by cases h), hc, fun hn => ⟨g, 0, cur, _, rfl, hh, fun j hj => ?_⟩⟩
    rw [Nat.zero_add, World.ownsRow.cellAt h j (by omega)]
    simp [List.getD, hj]
def RecV.at_ (w : World) (x : RecV) : Prop := (x.a = none → x.cap = 0) ∧ x.bs.length ≤ x.cap ∧ U8At w x.a x.bs
theorem RecV.at_.same {w w' : World} {x : RecV} (h : x.at_ w) (hs : U8Same w w') : x.at_ w' := ⟨h.1, h.2.1, h.2.2.same hs⟩

/-- What a round keeps: all that lay below n₀ but block gx; blocks of bytes. -/
def Kept3 (n₀ gx : Nat) (W W' : World) : Prop := W.heap.size ≤ W'.heap.size ∧ (∀ k, k < n₀ → k ≠ gx → W'.heap[k]? = W.heap[k]?) ∧ U8Same W W'
theorem Kept3.trans {n₀ gx : Nat} {A B C : World} (h : Kept3 n₀ gx A B) (k : Kept3 n₀ gx B C) : Kept3 n₀ gx A C :=
  ⟨Nat.le_trans h.1 k.1, fun i hi hg => (k.2.1 i hi hg).trans (h.2.1 i hi hg), fun i cs fr hi => k.2.2 i cs fr (h.2.2 i cs fr hi)⟩
theorem U8Same.of_below {W W' : World} (h : Below W.heap.size W W') : U8Same W W' := fun k _ _ hk => (h.block k (heap_lt hk)).trans hk
theorem Kept3.of_below {n₀ gx : Nat} {W W' : World} (h : Below W.heap.size W W') (hn : n₀ ≤ W.heap.size) : Kept3 n₀ gx W W' :=
  ⟨h.size, fun k hk _ => h.block k (Nat.lt_of_lt_of_le hk hn), U8Same.of_below h⟩
theorem Kept3.put {n₀ gx : Nat} {W : World} {l : Nat} {o o' : Obj} (hn : n₀ ≤ l) (ho : W.heap[l]? = some o) (hc : o.isCells = false) : Kept3 n₀ gx W (W.putObj l o') :=
  ⟨by simp, fun k hk _ => World.putObj_heap_other (by omega), fun k cs fr hk => (World.putObj_heap_other (fun e => by subst e; rw [ho] at hk; cases hk; cases hc)).trans hk⟩
theorem U8Same.trans {A B C : World} (h : U8Same A B) (k : U8Same B C) : U8Same A C := fun i cs fr hi => k i cs fr (h i cs fr hi)
theorem U8Same.set {W : World} {g : Nat} {cs : Array Value} {t : TypeId} {fr : Nat × Nat} (hg : W.heap[g]? = some (.cells cs t fr)) (ht : t ≠ 5) (i : Nat) (u : Value) : U8Same W (W.setCell ⟨g, i, none⟩ u) := fun k cs' fr' hk => by
  refine (Below.heap_setCell W ⟨g, i, none⟩ u k (fun e => ?_)).trans hk
  simp only at e
  subst e
  rw [hg] at hk
  injection hk with hk
  injection hk with _ h2
  exact ht h2
theorem cut_none {cap k : Nat} {a : Option Addr} (hn : a = none → cap = 0) (h : cutAddr cap k a = none) : cap - k = 0 := by
  unfold cutAddr at h
  split at h
  · omega
  · cases a with
    | none => have := hn rfl; omega
    | some ad => simp at h
theorem OthersSame.of_below {W W' : World} (h : Below W.heap.size W W') : OthersSame W W' := fun k _ hk _ => (h.block k (heap_lt hk)).trans hk
theorem OthersSame.set {W : World} {g : Nat} {cs : Array Value} {t : TypeId} {fr : Nat × Nat} (hg : W.heap[g]? = some (.cells cs t fr)) (i : Nat) (u : Value) : OthersSame W (W.setCell ⟨g, i, none⟩ u) := fun k o hk hc => by
  refine (Below.heap_setCell W ⟨g, i, none⟩ u k (fun e => ?_)).trans hk
  simp only at e
  subst e
  rw [hg] at hk
  cases hk
  cases hc

theorem first_short {b : Bs} {g k : Nat} (h : b.length < 36) : firstL b g k = none := by simp [firstL, h]
theorem first_long {b : Bs} {g k : Nat} (h : 32768 < numL (b.take 4) ∨ b.length < numL (b.take 4) + 36) : firstL b g k = none := by
  unfold firstL
  split
  · rfl
  · simp
theorem first_bad {b : Bs} {g k : Nat} (h : framedL g k (b.take (numL (b.take 4) + 4)) ≠ (b.drop (numL (b.take 4) + 4)).take 32) : firstL b g k = none := by
  unfold firstL
  split
  · rfl
  · split
    · rfl
    · simp
theorem first_good {b : Bs} {g k : Nat} (h0 : ¬ b.length < 36) (h1 : ¬ (32768 < numL (b.take 4) ∨ b.length < numL (b.take 4) + 36)) (h : framedL g k (b.take (numL (b.take 4) + 4)) = (b.drop (numL (b.take 4) + 4)).take 32) : firstL b g k = some ((b.take (numL (b.take 4) + 4)).drop 4) := by
  unfold firstL
  rw [if_neg h0, if_neg h1, if_pos h]

set_option maxRecDepth 100000 in
set_option maxHeartbeats 1000000 in
theorem sclone_any (xs : Bs) (a : Option Addr) (cap : Nat) (w : World) (hr : Reads w w.heap.size a xs) (hc : a = none → cap = 0) (hlen : xs.length ≤ 70368744177664) :
    Calls Tryd.prog 75 #[.slice a xs.length cap] w (OwnRet xs w) := by
  have hr0 := Lib.hid hr
  clear hr
  cases a with
  | none =>
    have h0 : xs = [] := by
      by_cases hl : 0 < xs.length
      · obtain ⟨b, o, he, _⟩ := hr0.out hl; cases he
      · exact List.eq_nil_of_length_eq_zero (by omega)
    subst h0
    have hc' := hc rfl
    subst hc'
    clear hc hr0
    have hnil : ∀ W, (binOp .eql 35 (.slice none 0 0) (.slice none 0 0)).run Tryd.prog W = .ok (.bool true) W := fun W => Lib.run_eql_slice_nil_nil W _ _ Tryd.underlying35
    go_enter Tryd.func75, Tryd.ntmps75
    go_wp2
    go_ret
    exact ⟨_, rfl, OwnBytes.nothing _ _, Below.refl _ _⟩
  | some ad =>
    clear hc
    have hnil : ∀ W, (binOp .eql 35 (.slice (some ad) xs.length cap) (.slice none 0 0)).run Tryd.prog W = .ok (.bool false) W := fun W => Lib.run_eql_slice_some_nil W _ _ _ Tryd.underlying35
    go_enter Tryd.func75, Tryd.ntmps75
    go_wp2_with (
      at_builtin
      refine wpList_grow_bytes rfl (.tmp 5) (.tmp 6) rfl w.heap.size _ [] rfl (OwnBytes.empty w) (some ad) cap w.heap.size xs rfl (hr0.out.below ((Below.refl _ _).alloc (Nat.le_refl _) _)) (fun h => by cases h) (by simp; omega) (by simp) w.heap.size w ((Below.refl _ _).alloc (Nat.le_refl _) _) (Nat.le_refl _) ?_
      intro v1 w1 hown1 _ hB1
      rw [List.nil_append] at hown1)
    go_ret
    exact ⟨_, rfl, hown1, hB1⟩

attribute [local go_sem] Oper.semAt_some

/-- Behind some records. -/
def WholeRel (g : Nat) (Y : Bs) (pre : List RecV) (Z : Bs) : Prop := ∃ d, Z.length < d ∧ pre.map (·.bs) ++ wholeL g d Z pre.length = recordsL g Y

theorem WholeRel.done {g : Nat} {Y : Bs} {pre : List RecV} {Z : Bs} (h : WholeRel g Y pre Z) (hf : firstL Z g pre.length = none) : pre.map (·.bs) = recordsL g Y := by
  obtain ⟨d, hd, he⟩ := h
  cases d with
  | zero => omega
  | succ d =>
    rw [wholeL, hf, List.append_nil] at he
    exact he
theorem WholeRel.next {g : Nat} {Y : Bs} {pre : List RecV} {Z : Bs} {x : RecV} (h : WholeRel g Y pre Z) (hf : firstL Z g pre.length = some x.bs) (hl : 36 ≤ Z.length) {m : Nat} (hm : x.bs.length = m) : WholeRel g Y (pre ++ [x]) (Z.drop (m + 36)) := by
  subst hm
  obtain ⟨d, hd, he⟩ := h
  cases d with
  | zero => omega
  | succ d =>
    rw [wholeL, hf] at he
    refine ⟨d, by rw [List.length_drop]; omega, ?_⟩
    simpa using he

set_option maxRecDepth 100000 in
set_option maxHeartbeats 1000000 in
theorem whole_iter (n₀ gx g : Nat) (Y : Bs) (hY : Y.length ≤ 4194304) (ya : Option Addr) (yc : Nat) (hyn : ya = none → yc = 0) (hyc : Y.length ≤ yc) (bb bg : Nat) (hbb : bb < n₀) (hbx : bb ≠ gx) (hbg : bg < n₀) (hgx : bg ≠ gx) (hne : bg ≠ bb)
    (hTn : 0 < n₀) (hTx : 0 ≠ gx) (hTb : 0 ≠ bb) (l n : Nat) (W : World) (J I : List RecV → World → Prop)
    (hJI : ∀ pre W, J pre W → I pre W) (hJ : ∀ pre A B, J pre A → OthersSame A B → I pre B → J pre B)
    (hI1 : ∀ pre A B, I pre A → Below A.heap.size A B → I pre B) (hI2 : ∀ pre A u, I pre A → I pre (A.setCell ⟨bb, 0, none⟩ u))
    (hR : Rounds Tryd.prog (n - 1) l (fun x : RecV => #[x.val]) (Kept3 n₀ gx) J 4194304) (h0 : J [] W) (hb : Blk W bb 35 #[.slice ya Y.length yc]) (hy : U8At W ya Y) (hg : Blk W bg 55 #[.int .u64 g]) (hT : Tab W) (hn0 : n₀ ≤ W.heap.size) :
    CallsIn Fence.wide n Tryd.prog 74 #[.func (.yield l) #[] #[], .pointer (some ⟨bb, 0, none⟩), .pointer (some ⟨bg, 0, none⟩)] W fun e W' => (∃ v, e = .returned v) ∧ ∃ xs : List RecV, (xs.map (·.bs) = recordsL g Y ∧ ∀ x ∈ xs, x.at_ W') ∧ J xs W' := by
  refine callsIn_of_wp Tryd.func74 rfl trivial ?_ rfl
  simp only [Tryd.ntmps74, List.size_toArray, List.length_cons, List.length_nil, Nat.reduceAdd, Nat.reduceSub, Array.replicate_succ, Array.replicate_zero, List.push_toArray, List.append_toArray, List.nil_append, List.cons_append]
  have hR0 := Lib.hid hR
  have hJ0 := Lib.hid hJ
  have hJI0 := Lib.hid hJI
  have hI10 := Lib.hid hI1
  have hI20 := Lib.hid hI2
  have hrel0 : WholeRel g Y [] Y := ⟨Y.length + 1, by omega, rfl⟩
  clear hR hJ hJI hI1 hI2
  gi_wp2
  gi_loopw [4] (fun i wr => ∃ (pre : List RecV) (Z : Bs) (za : Option Addr) (zc : Nat), i = .int .i64 pre.length ∧ Blk wr bb 35 #[.slice za Z.length zc] ∧ (za = none → zc = 0) ∧ Z.length ≤ zc ∧ U8At wr za Z ∧ Blk wr bg 55 #[.int .u64 g] ∧ J pre wr ∧ Hid (∀ x ∈ pre, x.at_ wr) ∧ Hid (WholeRel g Y pre Z) ∧ 36 * pre.length + Z.length ≤ Y.length ∧ Hid (Tab wr) ∧ n₀ ≤ wr.heap.size) (fun i _ => 4194304 - (intOf i).toNat)
  case atStart => exact ⟨[], Y, ya, yc, rfl, hb, hyn, hyc, hy, hg, h0, fun x hx => by simp at hx, hrel0, by simp, hT, hn0⟩
  case round =>
    obtain ⟨pre, Z, za, zc, rfl, hb1, hzn, hzc, hz, hg1, hJ1, hat, hrel, hlen, hT1, hn1⟩ := hrel
    clear hb hy hg hT hn0 h0 hrel0
    have c1 := hb1.cell 0
    have c1 : wr.cell? ⟨bb, 0, none⟩ = some (.slice za Z.length zc) := hb1.cell 0
    by_cases h36 : 36 ≤ Z.length
    · have hnum := numL_lt (Z.take 4)
      have hl4 : (Z.take 4).length = 4 := by rw [List.length_take]; omega
      rw [hl4] at hnum
      have hnm := fun wx hr => number_any (Z.take 4) (by omega) za zc wx hr
      rw [hl4] at hnm
      have hsl1 := fun wx => slice_first za Z.length zc 4 (by omega) 4 rfl .i64 wx
      have hfl := fun h => hrel.out.done (first_long (g := g) (k := pre.length) h)
      have hfb := fun h => hrel.out.done (first_bad (g := g) (k := pre.length) h)
      have hfg := fun h1 h => first_good (b := Z) (g := g) (k := pre.length) (by omega) h1 h
      have hrd := (hz.take 4).bytes 0
      obtain ⟨m, hm⟩ : ∃ m, m = numL (Z.take 4) := ⟨_, rfl⟩
      rw [← hm] at hnum hnm hfl hfb hfg
      have hm32 : m < 4294967296 := by omega
      have h36i : (36 : Int) ≤ (Z.length : Int) := by omega
      replace hnm := Lib.hid hnm
      clear hnum hl4 hm
      by_cases hlong : 32768 < m ∨ Z.length < m + 36
      · have hmap := hfl hlong
        clear hfl hfb hfg
        replace hmap := Lib.hid hmap
        rcases Nat.lt_or_ge 32768 m with hm1 | hm1
        · have hm1' : (32768 : Int) < (m : Int) := by omega
          clear hlong
          gi_wp2_with (refine ⟨trivial, fun h => absurd h (by decide), ?_⟩; gi_at_call 59; refine (callsIn_wide.2 (hnm.out _ hrd.reads)).mono ?_; rintro e w1 ⟨rfl, rfl⟩)
          refine bodyPost_ret (results_none rfl _ _ _) rfl ?_
          exact ⟨⟨_, rfl⟩, pre, ⟨hmap.out, hat.out⟩, hJ1⟩
        · have hm1' : decide ((32768 : Int) < (m : Int)) = false := decide_eq_false (by omega)
          have hm2' : (Z.length : Int) < (m : Int) + 36 := by omega
          clear hlong
          gi_wp2_with (refine ⟨trivial, fun h => absurd h (by decide), ?_⟩; gi_at_call 59; refine (callsIn_wide.2 (hnm.out _ hrd.reads)).mono ?_; rintro e w1 ⟨rfl, rfl⟩)
          refine bodyPost_ret (results_none rfl _ _ _) rfl ?_
          exact ⟨⟨_, rfl⟩, pre, ⟨hmap.out, hat.out⟩, hJ1⟩
      · have hm1 : m ≤ 32768 := by omega
        have hm2 : m + 36 ≤ Z.length := by omega
        have hm1' : decide ((32768 : Int) < (m : Int)) = false := decide_eq_false (by omega)
        have hm2' : decide ((Z.length : Int) < (m : Int) + 36) = false := decide_eq_false (by omega)
        have hfg' := hfg hlong
        clear hfl hfg hlong
        have hsl2 := fun wx => slice_first za Z.length zc (m + 4) (by omega) ((m : Int) + 4) (by omega) .u64 wx
        have hsl3 := fun wx => slice_mid za Z.length zc (m + 4) (m + 36) (by omega) (by omega) ((m : Int) + 4) ((m : Int) + 36) (by omega) (by omega) .u64 .u64 wx
        rw [show m + 36 - (m + 4) = 32 by omega] at hsl3
        replace hsl2 := Lib.hid hsl2
        replace hsl3 := Lib.hid hsl3
        have z1 := fun z : Grew wr.heap.size wr => Grew.cell c1 hb1.lt z
        gi_wp2_with (refine ⟨trivial, fun h => absurd h (by decide), ?_⟩; gi_at_call 59; refine (callsIn_wide.2 (hnm.out _ hrd.reads)).mono ?_; rintro e w1 ⟨rfl, rfl⟩)
        refine wpIn_wide.2 ?_
        refine wp_grow wr.heap.size (by kernel_rfl) (by kernel_rfl) ?_
        go_big_quiet_step (fail)
        go_big_quiet_step (fail)
        go_big_quiet_step (fail)
        refine wpQuiet_of_run rfl _ (fun wx _ => exec_piece rfl (hsl2.out wx)) ?_
        go_frame
        go_big_quiet_step (fail)
        go_big_quiet_step (fail)
        go_big_quiet_step (fail)
        go_big_quiet_step (fail)
        go_big_quiet_step (fail)
        refine wpQuiet_of_run rfl _ (fun wx _ => exec_piece rfl (hsl3.out wx)) ?_
        go_frame
        repeat (go_big_quiet_step (fail))
        refine wpQuiet_nil ?_
        rintro w2 ⟨zz, hzz⟩
        have hw2 : Below wr.heap.size wr w2 := by rw [hzz]; exact zz.2
        clear z1 hzz zz
        have hb2 := hb1.below hw2 hb1.lt
        have hg2 := hg1.below hw2 hg1.lt
        have hz2 := hz.same (U8Same.of_below hw2)
        have hT2 := hT1.out.grown hw2
        have cg2 : w2.cell? ⟨bg, 0, none⟩ = some (.int .u64 g) := hg2.cell 0
        have hfb' := hfb
        have hSl : (Z.take (m + 4)).length = m + 4 := by rw [List.length_take]; omega
        have hCl : ((Z.drop (m + 4)).take 32).length = 32 := by rw [List.length_take, List.length_drop]; omega
        have hXl : ((Z.take (m + 4)).drop 4).length = m := by rw [List.length_drop, hSl]; omega
        have hzS := hz2.take (m + 4)
        have hzX := hzS.drop (cap := zc) 4 (by omega)
        have hzC := (hz2.drop (m + 4) hzc).take 32
        have hne1 := fun h : firstL Z g pre.length = some ((Z.take (m + 4)).drop 4) => h
        obtain ⟨X, hX⟩ : ∃ X, X = (Z.take (m + 4)).drop 4 := ⟨_, rfl⟩
        rw [← hX] at hXl hzX hfg'
        have hfr := framed_any 0 g pre.length (by omega) (Z.take (m + 4)) (by omega) za zc hzn (by omega) w2 (Nat.zero_le _) (hzS.bytes 0) hT2
        rw [hSl] at hfr
        have hFl : (framedL g pre.length (Z.take (m + 4))).length = 32 := checkL_length _
        generalize framedL g pre.length (Z.take (m + 4)) = F at *
        generalize (Z.drop (m + 4)).take 32 = C at *
        have heq := fun (a b : Option Addr) (c d : Nat) (wx : World) hx hy => equal_any F C a b c d wx hx hy
        rw [hCl] at heq
        have hFl0 := Lib.hid hFl
        have hfg0 := Lib.hid hfg'
        have hfb0 := Lib.hid hfb'
        replace heq := Lib.hid heq
        replace hfr := Lib.hid hfr
        have hw2' := Nat.le_trans hn1 hw2.size
        clear hfg' hfb' hfb hnm hsl1 hsl2 hsl3 hFl hCl hSl hX hne1 hrd hz hb1 hg1 c1 h36i
        by_cases hFC : F = C
        · have hFC0 := Lib.hid hFC
          have hsl5 := fun wx => slice_rest za Z.length zc (m + 36) (by omega) ((m : Int) + 36) (by omega) .u64 wx
          have hsl4 := fun wx => slice_rest za (m + 4) zc 4 (by omega) 4 rfl .i64 wx
          rw [show m + 4 - 4 = m by omega] at hsl4
          have hcn : cutAddr zc 4 za = none → zc - 4 = 0 := cut_none hzn
          have hsc := fun wx hr => sclone_any X (cutAddr zc 4 za) (zc - 4) wx hr hcn (by omega)
          rw [hXl] at hsc
          have hXl0 := Lib.hid hXl
          replace hsc := Lib.hid hsc
          rw [decide_eq_true hFC] at heq
          clear hFC hXl hcn
          gi_wp2_with (first
            | (refine ⟨trivial, fun h => absurd h (by decide), ?_⟩; gi_at_call 69; refine (callsIn_wide.2 hfr.out).mono ?_; rintro e w3 ⟨a3, q3, rfl, hn3, hl3, hb3, hB3⟩)
            | (refine ⟨trivial, fun h => absurd h (by decide), ?_⟩; gi_at_call 57; refine (callsIn_wide.2 (heq.out _ _ _ _ w3 (hb3 0).reads ((hzC.same (U8Same.of_below hB3)).bytes 0).reads)).mono ?_; rintro e w4 ⟨rfl, rfl⟩)
            | (refine ⟨trivial, fun h => absurd h (by decide), ?_⟩; gi_at_call 75
               refine (callsIn_wide.2 (hsc.out w3 ((hzX.same (U8Same.of_below hB3)).bytes 0).reads)).mono ?_
               rintro e w5 ⟨v5, rfl, hown5, hB5⟩
               obtain ⟨a5, q5, rfl, hn5, hl5, hu5⟩ := U8At.of_own hown5
               have hw5 : Below wr.heap.size wr w5 := (hw2.trans (hB3.mono hw2.size)).trans (hB5.mono (Nat.le_trans hw2.size hB3.size))
               have hJ5 := hJ0.out pre wr w5 hJ1 (OthersSame.of_below hw5) (hI10.out pre wr w5 (hJI0.out pre wr hJ1) hw5)
               obtain ⟨fn, tmps, assign, body, hyy, hRr⟩ := hR0.out pre ⟨a5, q5, X, by rw [hXl0.out]; exact hm1⟩ w5 hJ5 (by omega)
               simp only [RecV.val] at hyy))
          refine ⟨fun h => absurd h (by decide), ?_⟩
          refine hRr.mono ?_
          rintro e W3 ⟨rfl, hJ3, hk3⟩
          have hX0 := hXl0.out
          have hb5 := (hb2.below hB3 hb2.lt).below hB5 (by have := hB3.size; have := hb2.lt; omega)
          have hg5 := (hg2.below hB3 hg2.lt).below hB5 (by have := hB3.size; have := hg2.lt; omega)
          have hbW : Blk W3 bb 35 #[.slice za Z.length zc] := by unfold Blk; rw [hk3.2.1 bb hbb hbx]; exact hb5
          have hgW : Blk W3 bg 55 #[.int .u64 g] := by unfold Blk; rw [hk3.2.1 bg hbg hgx]; exact hg5
          have cW : W3.cell? ⟨bb, 0, none⟩ = some (.slice za Z.length zc) := hbW.cell 0
          have fW := hbW.free 0
          gi_wp2
          have hw5' : U8Same wr W3 := (U8Same.of_below ((hw2.trans (hB3.mono hw2.size)).trans (hB5.mono (Nat.le_trans hw2.size hB3.size)))).trans hk3.2.2
          have hset : U8Same W3 (W3.setCell ⟨bb, 0, none⟩ (.slice (cutAddr zc (m + 36) za) (Z.length - (m + 36)) (zc - (m + 36)))) := U8Same.set hbW (by decide) 0 _
          have hos : OthersSame W3 (W3.setCell ⟨bb, 0, none⟩ (.slice (cutAddr zc (m + 36) za) (Z.length - (m + 36)) (zc - (m + 36)))) := OthersSame.set hbW 0 _
          have hJe := hJ0.out _ _ _ hJ3 hos (hI20.out _ _ _ (hJI0.out _ _ hJ3))
          have hX1 : (⟨a5, q5, X, by rw [hX0]; exact hm1⟩ : RecV).bs.length = m := hX0
          refine ⟨⟨pre ++ [⟨a5, q5, X, by rw [hX0]; exact hm1⟩], Z.drop (m + 36), cutAddr zc (m + 36) za, zc - (m + 36), ?_, ?_, cut_none hzn, ?_, ?_, ?_, hJe, ?_, ?_, ?_, ?_, ?_⟩, ?_⟩
          · simp
          · rw [List.length_drop]; exact hbW.set 0 _
          · rw [List.length_drop]; omega
          · exact ((((hz2.same (U8Same.of_below hB3)).same (U8Same.of_below hB5)).same hk3.2.2).drop (m + 36) hzc).same hset
          · exact hgW.far hne _
          · intro x hx
            rcases List.mem_append.mp hx with h | h
            · exact ((hat.out x h).same hw5').same hset
            · rw [List.mem_singleton] at h
              subst h
              exact RecV.at_.same ⟨hn5, hl5, (hu5.same hk3.2.2)⟩ hset
          · exact hrel.out.next (hfg0.out hFC0.out) (by omega) hX1
          · rw [List.length_append, List.length_drop]; simp only [List.length_cons, List.length_nil]; omega
          · obtain ⟨t, fr, h5⟩ := (hT2.grown hB3).grown hB5
            refine ⟨t, fr, ?_⟩
            exact (Below.heap_setCell W3 ⟨bb, 0, none⟩ _ _ hTb).trans ((hk3.2.1 _ hTn hTx).trans h5)
          · simp only [World.setCell, Array.size_modify]; exact Nat.le_trans hw2' (Nat.le_trans hB3.size (Nat.le_trans hB5.size hk3.1))
          · simp [intOf]; omega
        · have hFC0 := Lib.hid hFC
          have hdf : decide (F = C) = false := decide_eq_false hFC
          rw [hdf] at heq
          have hmap := hfb0.out hFC
          replace hmap := Lib.hid hmap
          clear hFC hdf
          gi_wp2_with (first
            | (refine ⟨trivial, fun h => absurd h (by decide), ?_⟩; gi_at_call 69; refine (callsIn_wide.2 hfr.out).mono ?_; rintro e w3 ⟨a3, q3, rfl, hn3, hl3, hb3, hB3⟩)
            | (refine ⟨trivial, fun h => absurd h (by decide), ?_⟩; gi_at_call 57; refine (callsIn_wide.2 (heq.out _ _ _ _ w3 (hb3 0).reads ((hzC.same (U8Same.of_below hB3)).bytes 0).reads)).mono ?_; rintro e w4 ⟨rfl, rfl⟩))
          refine ⟨trivial, ?_⟩
          gi_wp2
          refine ⟨fun _ h => (by cases h), ?_⟩
          gi_wp2
          refine bodyPost_ret (results_none rfl _ _ _) rfl ?_
          exact ⟨⟨_, rfl⟩, pre, ⟨hmap.out, fun x hx => (hat.out x hx).same (U8Same.of_below (hw2.trans (hB3.mono hw2.size)))⟩, hJ0.out pre wr w3 hJ1 (OthersSame.of_below (hw2.trans (hB3.mono hw2.size))) (hI10.out pre wr w3 (hJI0.out pre wr hJ1) (hw2.trans (hB3.mono hw2.size)))⟩
    · have h36' : decide ((36 : Int) ≤ (Z.length : Int)) = false := decide_eq_false (by omega)
      have hmap := hrel.out.done (first_short (by omega))
      replace hmap := Lib.hid hmap
      gi_wp2
      go_end0
      exact ⟨⟨_, rfl⟩, pre, ⟨hmap.out, hat.out⟩, hJ1⟩
end Go.Proofs.YtiidohaibbdgeaaDoor
