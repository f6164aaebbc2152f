/-
  The document's sum of bytes (scantlingref01.Sum).
-/
import Derived.Test.YtbmndibhalbioaaDoorRefText
namespace Go.Proofs.YtbmndibhalbioaaDoor
open Go.RowKit

theorem grow_cell {w w' : World} (h : Below w.heap.size w w') {p : Addr} {v : Value} (hc : w.cell? p = some v) : w'.cell? p = some v := (h.cell (block_lt_of_cell hc)).trans hc
/-- A list of values lies in a block, from its head on. -/
def Lies (w : World) (g n : Nat) (f : Nat → Value) : Prop := ∀ j, j < n → w.cell? ⟨g, j, none⟩ = some (f j)
theorem Lies.grow {w w' : World} {g n : Nat} {f : Nat → Value} (h : Lies w g n f) (hb : Below w.heap.size w w') : Lies w' g n f := fun j hj => grow_cell hb (h j hj)
theorem Lies.drewN {w : World} {g n : Nat} {f : Nat → Value} (h : Lies w g n f) (k : Nat) : Lies (w.drewN k) g n f := h
theorem Lies.far {w : World} {g n : Nat} {f : Nat → Value} (h : Lies w g n f) {p : Addr} (hp : p.block ≠ g) (v : Value) : Lies (w.setCell p v) g n f := fun j hj => by
  rw [World.cell?_setCell_other _ _ _ _ (fun e => hp (by rw [e]))]; exact h j hj
theorem Lies.of_own {w : World} {base g n cap : Nat} {e : TypeId} {f : Nat → Value} (h : w.ownsRow base e 1 (.slice (some ⟨g, 0, none⟩) n cap) n ((List.range n).map f)) : Lies w g n f := fun j hj => by
  rw [h.cellAt j (by omega)]; simp [hj]
theorem Lies.of_blk {w : World} {g n : Nat} {t : TypeId} {f : Nat → Value} (h : Blk w g t (tabulate n f)) : Lies w g n f := fun j hj => by rw [h.cell, tabulate_get hj]
theorem Lies.lt {w : World} {g n : Nat} {f : Nat → Value} (h : Lies w g n f) (hn : 0 < n) : g < w.heap.size := block_lt_of_cell (h 0 hn)
theorem Blk.grow {w w' : World} {g : Nat} {t : TypeId} {cs : Array Value} (h : Blk w g t cs) (hb : Below w.heap.size w w') : Blk w' g t cs := h.below hb h.lt

theorem slice_lh {P : Program} {t e : TypeId} {i : TypeInfo} (ht : P.underlying t = some (.slice e)) (hi : P.info? e = some i) (hs : i.size = 1)
    (b off n c : Nat) (kl kh : IntKind) (li hx : Int) (l h o m d : Nat) (el : li = l) (eh : hx = h) (h1 : l ≤ h) (h2 : h ≤ c) (h3 : l < c) (eo : o = off + l) (em : m = h - l) (ed : d = c - l) (w : World) :
    (Instr.sliceAt t (.slice (some ⟨b, off, none⟩) n c) (some (.int kl li)) (some (.int kh hx)) none).run P w = .ok (.slice (some ⟨b, o, none⟩) m d) w := by
  subst el eh eo em ed
  have he : P.elem t = e := by simp [Program.elem, ht]
  rw [run_sliceAt_slice w t _ _ _ _ (by rw [he]; exact ht), run_slice_lh w t _ _ _ (by rw [he]; exact ht) kl kh l h (by omega) (by omega) (by omega), he]
  have hne : ¬ c = l := by omega
  simp [sizeOf, typeInfo, hi, hs, sliced, hne, addr_add]

/-- 'append([]uint32{}, h...)'. -/
theorem wpList_copy_words {w : World} {ops : Array Oper} {rest : List Oper} {o : Oper} {a : Act} {Q : Exit → Act → World → Prop} (hgd : o.guard = none) (s x : Operand)
    (ho : o.op = .call { callee := .builtin .append, args := #[s, x], argTypes := #[47, 47] })
    (hs : a.eval s = .slice (some ⟨w.heap.size, 0, none⟩) 0 0) (g n c : Nat) (f : Nat → BitVec 32) (hx : a.eval x = .slice (some ⟨g, 0, none⟩) n c) (hl : Lies w g n fun i => U (f i)) (hn : n ≤ 1000000) (hn0 : 0 < n)
    (h : ∀ g' c' w', Lies w' g' n (fun i => U (f i)) → w.heap.size ≤ g' → Below w.heap.size w w' → wpList Tryd.prog ops Q rest (a.put o.dst (.slice (some ⟨g', 0, none⟩) n c')) w') : wpList Tryd.prog ops Q (o :: rest) a (w.alloc (.cells #[] 46)) := by
  obtain ⟨i46, hi46, hz46, hs46, hy46⟩ := info_parts Tryd.info_u32
  have hown : (w.alloc (.cells #[] 46)).ownsRow w.heap.size 46 1 (.slice (some ⟨w.heap.size, 0, none⟩) 0 0) 0 [] := World.ownsRow_lit (base := w.heap.size) (e := 46) (size := 1) w #[] 0 (Nat.le_refl _) (by unfold maxLen; omega) rfl
  refine wpList_append_own _ hgd s x 47 ho w.heap.size 46 i46 _ 1 4 Tryd.underlying47 hi46 hz46 hs46 hy46 rfl (by decide) _ 0 [] hs hown ⟨g, 0, none⟩ n c ((List.range n).map fun i => U (f i)) hx (by simp) ?_ ?_ (by unfold maxLen; omega) (by omega) (by simp) ?_
  · intro j u hj
    have hj' : j < n := by simpa using (List.getElem?_eq_some_iff.1 hj).1
    rw [addr_add, Nat.zero_add, World.cell?_alloc_lt _ _ _ (hl.lt hn0), hl j hj']
    simp [hj'] at hj
    rw [← hj]
  · intro u hu
    simp only [List.mem_map] at hu
    obtain ⟨j, _, rfl⟩ := hu
    rfl
  · intro v' w' hown' hg _
    rw [Nat.zero_add, List.nil_append] at hown'
    obtain ⟨g', c', rfl, hgb, hgl⟩ := own_form hown' hn0
    exact h g' c' w' (Lies.of_own hown') hgb (((Below.refl _ _).alloc (Nat.le_refl _) _).grown hg (by simp) (own_ge hown))

theorem pieces_succ (P : List (BitVec 8)) (c : Nat) : pieces P (c + 1) = press (pieces P c) (fun i => P.getD (64 * c + i) 0) := rfl
theorem eight_lies {w : World} {g : Nat} {t : TypeId} {s : Eight} (h : Blk w g t s.cells) : Lies w g 8 fun i => U (s.at_ i) := fun j hj => by rw [h.cell, s.cells_get j hj]; rfl

/-- The words while the turned ones are added, word by word. -/
def mixCells (s q : Eight) (i : Nat) : Array Value := tabulate 8 fun j => if j < i then U (s.at_ j + q.at_ j) else U (s.at_ j)
theorem mixCells_start (s q : Eight) : mixCells s q 0 = s.cells := by
  unfold mixCells
  apply Array.ext'
  simp [tabulate, Eight.cells, Eight.at_, List.range, List.range.loop]
theorem mixCells_end (s q : Eight) : mixCells s q 8 = (plus s q).cells := by
  unfold mixCells
  apply Array.ext'
  simp [tabulate, Eight.cells, Eight.at_, plus, List.range, List.range.loop]
theorem mixCells_set (s q : Eight) (i : Nat) : (mixCells s q i).setIfInBounds i (U (s.at_ i + q.at_ i)) = mixCells s q (i + 1) := by
  unfold mixCells
  rw [tabulate_set]
  refine tabulate_ext fun j _ => ?_
  by_cases h1 : j = i
  · subst h1; simp
  · by_cases h2 : j < i
    · simp only [h1, h2, if_false, if_true, (by omega : j < i + 1)]
    · have h3 : ¬ j < i + 1 := by omega
      simp only [h1, h2, h3, if_false]

set_option maxRecDepth 100000 in
set_option maxHeartbeats 4000000 in
theorem rsum_any (m : List (BitVec 8)) (a : Option Addr) (cap : Nat) (w : World) (hr : Reads w w.heap.size a m) (hc : a = none → cap = 0) (hlen : m.length ≤ 100000000000000) :
    Calls Tryd.prog 12 #[.slice a m.length cap] w fun e w' => e = .returned (.agg (tabulate 32 fun i => B8 (sumByte m i))) ∧ Below w.heap.size w w' := by
  have hr0 := Lib.hid hr
  have hc0 := Lib.hid hc
  clear hr hc
  go_enter Tryd.func12, Tryd.ntmps12
  go_upto_region 2 with (fail)
  generalize hw1 : World.alloc _ _ = w1
  have hR : Blk w1 w.heap.size 27 (tabulate 32 fun _ => B8 0) := by rw [← hw1]; exact (Blk.new w _ _).alloc _
  have hH : Blk w1 (w.heap.size + 1) 46 iv.cells := by
    rw [← hw1]
    have := Blk.new (w.alloc (.cells (tabulate 32 fun _ => B8 0) 27)) 46 iv.cells
    rw [World.size_alloc] at this
    exact this
  have hB : Below w.heap.size w w1 := by rw [← hw1]; exact ((Below.refl _ _).alloc (Nat.le_refl _) _).alloc (by simp) _
  have hz1 : w.heap.size + 2 ≤ w1.heap.size := by rw [← hw1]; simp
  clear hw1
  have htx := rtext_any m a cap w1 (fun hn => by
    obtain ⟨b, o, ha, hb, hcl⟩ := (hr0.out.below hB) hn
    exact ⟨b, o, ha, by omega, hcl⟩) hc0.out hlen
  replace htx := Lib.hid htx
  go_upto_block 0 with (first
    | (go_at_call 20
       refine htx.out.mono ?_
       rintro e w2 ⟨v2, rfl, hown2, hB2⟩)
    | (go_at_call 21
       refine (ktab_any w2).mono ?_
       rintro e w3 ⟨v3, rfl, hown3, hB3⟩))
  obtain ⟨K, hK⟩ : ∃ K, (padded m).length = 64 * K := ⟨(padded m).length / 64, by have := padded_length m; have := (noughts_fit m.length).1; omega⟩
  have hS : lastWords m = pieces (padded m) K := by rw [lastWords, hK]; congr 1; omega
  have hK0 : 0 < K := by have := padded_length m; omega
  have hKb : 64 * K ≤ 100000000000100 := by rw [← hK, padded_length]; have := (noughts_fit m.length).2; omega
  rw [List.length_map] at hown2
  rw [List.length_map, List.length_range] at hown3
  obtain ⟨ga, ca, rfl, hga, hgal⟩ := own_form hown2 (by omega)
  obtain ⟨gt, ct, rfl, hgt, hgtl⟩ := own_form hown3 (by omega)
  have hcac : (padded m).length ≤ ca := by
    rcases hown2.2 with ⟨h, _⟩ | ⟨g, c, cur, h, _, _, h2, _⟩
    · cases h
    · injection h with _ _ h; omega
  have hPmap : (padded m).map B8 = (List.range (padded m).length).map fun i => B8 ((padded m).getD i 0) := by
    apply List.ext_getElem
    · simp
    · intro j h1 h2
      simp only [List.length_map] at h1
      simp [List.getD, List.getElem?_eq_getElem h1]
  rw [hPmap] at hown2
  have hA3 := (Lies.of_own hown2).grow hB3
  have hT3 := Lies.of_own hown3
  have hR3 := (hR.grow hB2).grow hB3
  have hH3 := (hH.grow hB2).grow hB3
  have hB3' : Below w.heap.size w w3 := hB.trans ((hB2.mono (by omega)).trans (hB3.mono (by have := hB2.size; omega)))
  have hgaH : w.heap.size + 1 < ga := by omega
  have hgtH : w.heap.size + 1 < gt := by have := hB2.size; omega
  clear hown2 hown3 hB2 hB3 hR hH hB hz1 htx hgal hgtl hPmap hga hgt
  rw [hK] at hA3 hcac ⊢
  generalize hPd : padded m = P at *
  replace hPd := Lib.hid hPd
  replace hK := Lib.hid hK
  replace hS := Lib.hid hS
  go_wp2_with (fail)
  go_loopw [6] (fun i wr => ∃ c : Nat, c ≤ K ∧ i = .int .i64 (64 * (c : Int)) ∧ Lies wr ga (64 * K) (fun i => B8 (P.getD i 0)) ∧ Lies wr gt 64 (fun i => U (kk i)) ∧ Blk wr w.heap.size 27 (tabulate 32 fun _ => B8 0) ∧
    Blk wr (w.heap.size + 1) 46 (pieces P c).cells ∧ Below w.heap.size w wr) (fun i _ => 64 * K - (intOf i).toNat)
  case atStart => exact ⟨0, by omega, rfl, hA3, hT3, hR3, hH3, hB3'⟩
  case round =>
    obtain ⟨c, hcK, rfl, hA, hT, hR, hH, hB⟩ := hrel
    clear hA3 hT3 hR3 hH3 hB3'
    by_cases hlt : c < K
    · obtain ⟨i5, hi5, _, hs5, _⟩ := info_parts Tryd.info_u8
      obtain ⟨i46, hi46, hz46, hs46, hy46⟩ := info_parts Tryd.info_u32
      have hsl := slice_lh (P := Tryd.prog) Tryd.underlying31 hi5 hs5 ga 0 (64 * K) ca .i64 .i64 (64 * (c : Int)) (64 * (c : Int) + 64) (64 * c) (64 * c + 64) (64 * c) 64 (ca - 64 * c) (by omega) (by omega) (by omega) (by omega) (by omega) (by omega) (by omega) rfl wr
      have hwd := rwords_any (fun i => P.getD (64 * c + i) 0) ga (64 * c) (ca - 64 * c) wr (hA.lt (by omega)) (fun i hi => hA (64 * c + i) (by omega))
      replace hwd := Lib.hid hwd
      go_upto_block 2 with (first
        | (go_at_call 22
           refine hwd.out.mono ?_
           rintro e w4 ⟨v4, rfl, hown4, hB4⟩
           have hH4 := hH.grow hB4)
        | (at_builtin
           refine wpList_copy_words rfl (.tmp 35) (.tmp 36) rfl rfl (w.heap.size + 1) 8 8 (pieces P c).at_ rfl (eight_lies hH4) (by omega) (by omega) ?_
           intro gl cl w5 hL5 hgl hB5))
      obtain ⟨gw, cw, rfl, _, hgwl⟩ := own_form hown4 (by omega)
      have hW5 := (Lies.of_own hown4).grow hB5
      have hT5 := (hT.grow hB4).grow hB5
      have hA5 := (hA.grow hB4).grow hB5
      have hR5 := (hR.grow hB4).grow hB5
      have hH5 := hH4.grow hB5
      have hB5' : Below w.heap.size w w5 := hB.trans ((hB4.mono hB.size).trans (hB5.mono (Nat.le_trans hB.size hB4.size)))
      have hglH : w.heap.size + 1 < gl := Nat.lt_of_lt_of_le hH4.lt hgl
      clear hown4 hB5 hgwl hgl hsl hwd hA hT hR hH hB hH4
      have hpc := pieces_succ P c
      generalize hp : (fun i => P.getD (64 * c + i) 0) = p at *
      generalize pieces P c = s at *
      replace hpc := Lib.hid hpc
      replace hp := Lib.hid hp
      go_wp2_with (fail)
      go_loopw [8, 9] (fun v i wr => ∃ (t g cp : Nat), t ≤ 64 ∧ i = .int .i64 t ∧ v = .slice (some ⟨g, 0, none⟩) 8 cp ∧ Lies wr g 8 (fun i => U ((turns p s t).at_ i)) ∧ w.heap.size + 1 < g ∧ Below w5.heap.size w5 wr) (fun _ i _ => 64 - (intOf i).toNat)
      case atStart => exact ⟨0, gl, cl, by omega, rfl, rfl, hL5, hglH, Below.refl _ _⟩
      case round =>
        obtain ⟨t, g, cp, ht, rfl, rfl, hL, hgH, hBr⟩ := hrel
        clear hL5
        by_cases hlt2 : t < 64
        · have hq := turns_succ p s t
          generalize turns p s t = q at *
          replace hq := Lib.hid hq
          have c0 : wr.cell? ⟨g, 0, none⟩ = some (U q.a) := hL 0 (by omega)
          have c1 : wr.cell? ⟨g, 1, none⟩ = some (U q.b) := hL 1 (by omega)
          have c2 : wr.cell? ⟨g, 2, none⟩ = some (U q.c) := hL 2 (by omega)
          have c3 : wr.cell? ⟨g, 3, none⟩ = some (U q.d) := hL 3 (by omega)
          have c4 : wr.cell? ⟨g, 4, none⟩ = some (U q.e) := hL 4 (by omega)
          have c5 : wr.cell? ⟨g, 5, none⟩ = some (U q.f) := hL 5 (by omega)
          have c6 : wr.cell? ⟨g, 6, none⟩ = some (U q.g) := hL 6 (by omega)
          have c7 : wr.cell? ⟨g, 7, none⟩ = some (U q.h) := hL 7 (by omega)
          have ck : wr.cell? ⟨gt, t, none⟩ = some (U (kk t)) := hT5.grow hBr t hlt2
          have cw' : wr.cell? ⟨gw, t, none⟩ = some (U (sched p t)) := hW5.grow hBr t hlt2
          have b7 := q.h.isLt
          have b4 := q.e.isLt
          have b5 := q.f.isLt
          have b6 := q.g.isLt
          replace hL := Lib.hid hL
          go_wp2_with (go_at_call 23; refine (rright_any _ _ _ (by omega) (by omega)).mono ?_; rintro e w' ⟨rfl, rfl⟩)
          go_quiet (fail)
          go_wp2_with (go_at_call 23; refine (rright_any _ _ _ (by omega) (by omega)).mono ?_; rintro e w' ⟨rfl, rfl⟩)
          go_quiet (fail)
          go_wp2
          simp only [i_not, i_xor, i_and, i_or, i_add, i_add3, i_add4, i_add5]
          rw [show (q.h + (ror q.e 6 ^^^ ror q.e 11 ^^^ ror q.e 25) + ((q.e &&& q.f) ^^^ (~~~q.e &&& q.g)) + kk t + sched p t) = one (kk t) (sched p t) q from by rw [ch_eq]; rfl]
          rw [show ((ror q.a 2 ^^^ ror q.a 13 ^^^ ror q.a 22) + ((q.a &&& q.b) ^^^ (q.a &&& q.c) ^^^ (q.b &&& q.c))) = two q from by rw [maj_eq]; rfl]
          generalize hone : one (kk t) (sched p t) q = o1
          generalize htwo : two q = o2
          replace hone := Lib.hid hone
          replace htwo := Lib.hid htwo
          generalize hwz : World.drewN (World.drewN wr _) _ = wz
          have hLz : Lies wz g 8 (fun i => U (q.at_ i)) := by rw [← hwz]; exact (hL.out.drewN _).drewN _
          have hBz : Below w5.heap.size w5 wz := by rw [← hwz]; exact Below.drewN (Below.drewN hBr _) _
          clear hwz c0 c1 c2 c3 c4 c5 c6 c7 ck cw'
          have hgz := hLz.lt (by omega)
          have c1 := fun x => Grew.cell (B := wz.heap.size) (v := U q.b) (hLz 1 (by omega)) hgz x
          have c2 := fun x => Grew.cell (B := wz.heap.size) (v := U q.c) (hLz 2 (by omega)) hgz x
          have c3 := fun x => Grew.cell (B := wz.heap.size) (v := U q.d) (hLz 3 (by omega)) hgz x
          have c5 := fun x => Grew.cell (B := wz.heap.size) (v := U q.f) (hLz 5 (by omega)) hgz x
          have c6 := fun x => Grew.cell (B := wz.heap.size) (v := U q.g) (hLz 6 (by omega)) hgz x
          have bo1 := o1.isLt
          have bo2 := o2.isLt
          have bd := q.d.isLt
          refine wp_region_held_one (C := fun w' => ∃ x : Grew wz.heap.size wz, w' = x.1) 22 (by kernel_rfl) (by kernel_rfl) (by kernel_rfl) (by intro c a d u w h; cases d <;> exact h) ⟨⟨wz.drew, (Below.refl _ _).drew⟩, rfl⟩ ?_
          simp only [List.take_succ_cons, List.take_zero, List.drop_succ_cons, List.drop_zero]
          repeat (go_big_quiet_step (fail))
          refine wpQuiet_nil ?_
          simp only [i_add]
          refine ⟨_, _, _, rfl, rfl, exec_buildSlice_flat 47 46 8 _ rfl Tryd.underlying47 i46 _ hi46 hs46 hz46 [U (o1 + o2), U q.a, U q.b, U q.c, U (q.d + o1), U q.e, U q.f, U q.g] rfl (by omega) (by omega) (by kernel_rfl) (by simp [Value.cells]) _, ⟨⟨_, ((Below.refl _ _).drew).alloc (Nat.le_refl _) _⟩, rfl⟩, ?_⟩
          go_frame
          go_wp2
          go_roundw
          case rel =>
            refine ⟨t + 1, _, 8, by omega, by go_num, rfl, ?_, Nat.lt_of_lt_of_le hgH (Nat.le_of_lt hgz), (hBz.drew).alloc hBz.size _⟩
            rw [hq.out]
            have hnew := eight_lies (s := turn (kk t) (sched p t) q) (Blk.new wz.drew 46 (turn (kk t) (sched p t) q).cells)
            have e : (turn (kk t) (sched p t) q).cells = #[U (o1 + o2), U q.a, U q.b, U q.c, U (q.d + o1), U q.e, U q.f, U q.g] := by
              rw [← hone.out, ← htwo.out]; rfl
            rw [e] at hnew
            exact hnew
          case measure => simp [intOf]; omega
        · obtain rfl : t = 64 := by omega
          have hLq := hL
          generalize hq : turns p s 64 = q at *
          replace hq := Lib.hid hq
          have hgw5 : Below w.heap.size w wr := hB5'.trans (hBr.mono hB5'.size)
          have hAr := hA5.grow hBr
          have hTr := hT5.grow hBr
          have hRr := hR5.grow hBr
          have hHr := hH5.grow hBr
          rw [← mixCells_start s q] at hHr
          clear hA5 hT5 hR5 hH5 hB5' hBr hL hW5
          have hgaH' := hgaH
          go_wp2_with (fail)
          go_loopw [16] (fun v wq => ∃ i : Nat, i ≤ 8 ∧ v = .int .i64 i ∧ Blk wq (w.heap.size + 1) 46 (mixCells s q i) ∧ Blk wq w.heap.size 27 (tabulate 32 fun _ => B8 0) ∧
            Lies wq g 8 (fun i => U (q.at_ i)) ∧ Lies wq ga (64 * K) (fun i => B8 (P.getD i 0)) ∧ Lies wq gt 64 (fun i => U (kk i)) ∧ Below w.heap.size w wq) (fun v _ => 8 - (intOf v).toNat)
          case atStart => exact ⟨0, by omega, rfl, hHr, hRr, hLq, hAr, hTr, hgw5⟩
          case round =>
            obtain ⟨i, hi, rfl, hHm, hRm, hLm, hAm, hTm, hBm⟩ := hrel
            clear hHr hRr hLq hAr hTr hgw5
            by_cases hi8 : i < 8
            · have hch := hHm.cell i
              rw [mixCells, tabulate_get hi8, if_neg (Nat.lt_irrefl i)] at hch
              have hcg : wr.cell? ⟨g, i, none⟩ = some (U (q.at_ i)) := hLm i hi8
              have hfh := hHm.free i
              go_wp2_with (fail)
              refine wp_quiet_tail 12 (by kernel_rfl) (by kernel_rfl) ?_
              simp only [List.take_succ_cons, List.take_zero, List.drop_succ_cons, List.drop_zero]
              repeat (go_big_quiet_step (fail))
              refine wpQuiet_nil ?_
              rintro _ ⟨nr, rfl⟩
              simp only [i_add]
              go_wp2
              go_roundw
              case rel =>
                refine ⟨i + 1, by omega, by go_num, ?_, (hRm.drewN nr).far (by simp) _, (hLm.drewN nr).far (by simp; omega) _, (hAm.drewN nr).far (by simp; omega) _, (hTm.drewN nr).far (by simp; omega) _, (Below.drewN hBm nr).setCell (by simp) _⟩
                rw [← mixCells_set]
                exact (hHm.drewN nr).set _ _
              case measure => simp [intOf]; omega
            · obtain rfl : i = 8 := by omega
              rw [mixCells_end] at hHm
              go_wp2
              go_roundw
              case rel =>
                refine ⟨c + 1, by omega, by go_num, hAm, hTm, hRm, ?_, hBm⟩
                rw [hpc.out, press, hq.out]
                exact hHm
              case measure => simp [intOf]; omega
    · obtain rfl : c = K := by omega
      rw [← hS.out] at hH
      clear hA hT
      go_upto_region 24 with (fail)
      generalize hw8 : World.alloc _ _ = w8
      have e8 : wr.alloc (.cells (outCells m 0) 27) = w8 := hw8
      have hO8 : Blk w8 wr.heap.size 27 (outCells m 0) := by rw [← e8]; exact Blk.new wr _ _
      have hH8 := hH.alloc (.cells (outCells m 0) 27)
      have hR8 := hR.alloc (.cells (outCells m 0) 27)
      have hB8 := hB.alloc hB.size (.cells (outCells m 0) 27)
      rw [e8] at hH8 hR8 hB8
      have hOb : w.heap.size + 1 < wr.heap.size := hH.lt
      clear e8 hw8 hH hR hB
      obtain ⟨O, hO⟩ : ∃ O, wr.heap.size = O := ⟨_, rfl⟩
      rw [hO] at hO8 hOb ⊢
      replace hO := Lib.hid hO
      go_wp2_with (fail)
      go_loopw [18] (fun v wq => ∃ i : Nat, i ≤ 32 ∧ v = .int .i64 i ∧ Blk wq O 27 (outCells m i) ∧ Blk wq (w.heap.size + 1) 46 (lastWords m).cells ∧
        Blk wq w.heap.size 27 (tabulate 32 fun _ => B8 0) ∧ Below w.heap.size w wq) (fun v _ => 32 - (intOf v).toNat)
      case atStart => exact ⟨0, by omega, rfl, hO8, hH8, hR8, hB8⟩
      case round =>
        obtain ⟨i, hi, rfl, hOq, hHq, hRq, hBq⟩ := hrel
        clear hO8 hH8 hR8 hB8
        by_cases hi32 : i < 32
        · have hco : wr.cell? ⟨O, i, none⟩ = some (B8 0) := by rw [hOq.cell, outCells, tabulate_get hi32, if_neg (by omega)]
          have hfo := hOq.free i
          have hcw : wr.cell? ⟨w.heap.size + 1, i / 4, none⟩ = some (U ((lastWords m).at_ (i / 4))) := eight_lies hHq (i / 4) (by omega)
          go_wp2
          go_roundw
          case rel =>
            refine ⟨i + 1, by omega, by go_num, ?_, hHq.far (by simp; omega) _, hRq.far (by simp; omega) _, hBq.setCell (by simp; omega) _⟩
            rw [sum_byte, ← outCells_set]
            exact hOq.set _ _
          case measure => simp [intOf]; omega
        · obtain rfl : i = 32 := by omega
          have hi27 : (Tryd.prog.info? 27).map (·.size) = some (outCells m 32).size := by rw [outCells, tabulate_size]; kernel_rfl
          replace hi27 := Lib.hid hi27
          have h1 : (outCells m 32).all (·.oneCell') = true := tabulate_one fun j _ => by split <;> rfl
          go_wp2_with (first
            | (refine wpList_load_row rfl 27 _ rfl O rfl 27 _ (0, 0) _ hOq Tryd.underlying27 rfl hi27.out ?_)
            | (refine wpList_store_row rfl 27 _ _ rfl w.heap.size _ rfl rfl 27 _ hRq hi27.out (by rw [outCells, tabulate_size, tabulate_size]) h1 ?_))
          refine bodyPost_ret (v := .agg (outCells m 32)) (results_cell_row rfl _ _ w.heap.size 27 _ (0, 0) _ rfl (hRq.row _) Tryd.underlying27 rfl hi27.out) rfl ⟨?_, Below.setRow hBq (by omega) _⟩
          rw [outCells]
          refine congrArg (fun x => Ending.returned (.agg x)) (tabulate_ext fun j hj => ?_)
          rw [if_pos hj]
end Go.Proofs.YtbmndibhalbioaaDoor
