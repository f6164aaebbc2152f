/-
  StatusApart, walked: it returns true.
-/
import Derived.Test.YtbmndibhalbioaaDoorApartLaw
import Derived.Test.YtbmndibhalbioaaDoorPlays
import Derived.Deep.DeepCutAuto
import Derived.Deep.CutBlock
namespace Go.Proofs.YtbmndibhalbioaaDoor
open Go Go.RowKit

/-- What is known behind k rounds. -/
def Sames (l m : List Ent) (s : Bool) (k : Nat) : Prop := (s = true → l.length = m.length ∧ ∀ j, j < k → entAt l j = entAt m j) ∧ (s = false → l ≠ m)
theorem sames_first (l m : List Ent) : Sames l m ((l.length : Int) == (m.length : Int)) 0 := by
  refine ⟨fun h => ⟨?_, fun j hj => by omega⟩, fun h e => ?_⟩
  · rw [beq_iff_eq] at h; omega
  · subst e; simp at h
theorem sames_next {l m : List Ent} {k : Nat} (h : Sames l m true k) : Sames l m (decide (entAt l k = entAt m k)) (k + 1) := by
  refine ⟨fun e => ⟨(h.1 rfl).1, fun j hj => ?_⟩, fun e he => ?_⟩
  · rcases Nat.lt_or_ge j k with h1 | h1
    · exact (h.1 rfl).2 j h1
    · have : j = k := by omega
      subst this
      simpa using e
  · subst he; simp at e
theorem sames_end {l m : List Ent} {s : Bool} (h : Sames l m s l.length) : s = decide (l = m) := by
  cases s with
  | false => exact (decide_eq_false (h.2 rfl)).symm
  | true =>
    obtain ⟨h1, h2⟩ := h.1 rfl
    refine (decide_eq_true ?_).symm
    apply List.ext_getElem h1
    intro i p q
    have := h2 i p
    simpa [entAt, List.getD, p, q] using this
theorem sames_no {l m : List Ent} {k : Nat} (h : Sames l m false k) : false = decide (l = m) := (decide_eq_false (h.2 rfl)).symm

set_option maxRecDepth 100000 in
set_option maxHeartbeats 1000000 in
theorem apart_any (l m : List Ent) (hok : Oks l) (hom : Oks m) (a b : Option Addr) (cap cap' : Nat) (w : World) (hr : EntsAt w w.heap.size a l) (hs : EntsAt w w.heap.size b m) (hT : Tab w) (hP : Pow w) :
    Calls Tryd.prog 4 #[.slice a l.length cap, .slice b m.length cap'] w fun e w' => e = .returned (.bool true) ∧ Below w.heap.size w w' := by
  have hr0 := Lib.hid hr
  have hs0 := Lib.hid hs
  have hT0 := Lib.hid hT
  have hP0 := Lib.hid hP
  clear hr hs hT hP
  go_enter Tryd.func4, Tryd.ntmps4
  by_cases hl : 60 < l.length
  · go_wp2_with (go_at_call 6; refine (works_any w hT0.out hP0.out).mono ?_; rintro e w1 ⟨rfl, hB⟩)
    go_ret
    exact ⟨rfl, hB⟩
  by_cases hm : 60 < m.length
  · have hld : decide ((60 : Int) < (l.length : Int)) = false := decide_eq_false (by omega)
    go_wp2_with (go_at_call 6; refine (works_any w hT0.out hP0.out).mono ?_; rintro e w1 ⟨rfl, hB⟩)
    go_ret
    exact ⟨rfl, hB⟩
  have hl' : l.length ≤ 60 := by omega
  have hm' : m.length ≤ 60 := by omega
  have hld : decide ((60 : Int) < (l.length : Int)) = false := decide_eq_false (by omega)
  have hmd : decide ((60 : Int) < (m.length : Int)) = false := decide_eq_false (by omega)
  clear hl hm
  go_upto_block 0 with (fail)
  obtain ⟨s0, hs5⟩ : ∃ s, s = ((l.length : Int) == (m.length : Int)) := ⟨_, rfl⟩
  have hsm := sames_first l m
  rw [← hs5] at hsm ⊢
  clear hs5
  go_cut [5] (fun s wx => s = .bool (decide (l = m)) ∧ Below w.heap.size w wx)
  case first =>
    go_wp2_with (fail)
    go_loopg [5, 6] (l.length + 1) (fun g q i wr => ∃ (k : Nat) (s : Bool), g = l.length + 1 - k ∧ k ≤ l.length ∧ i = .int .i64 k ∧ q = .bool s ∧ Hid (Sames l m s k) ∧ Below w.heap.size w wr)
    case atStart => exact ⟨0, s0, by omega, by omega, rfl, rfl, hsm, Below.refl _ _⟩
    case round =>
      obtain ⟨k, s, rfl, hk, rfl, rfl, hS, hB⟩ := hrel
      clear hsm
      by_cases hlt : k < l.length
      · cases s with
        | false =>
          go_wp2_with (fail)
          go_meet
          exact ⟨by rw [← sames_no hS.out], hB⟩
        | true =>
          have hle := (hS.out.1 rfl).1
          have hlm : k < m.length := by omega
          replace hle := Lib.hid hle
          obtain ⟨b1, off1, rfl, hbl1, hcl1⟩ := (hr0.out.on hB) (by omega)
          obtain ⟨b2, off2, rfl, hbl2, hcl2⟩ := (hs0.out.on hB) (by omega)
          have hx := hok _ (entAt_mem hlt)
          have hy := hom _ (entAt_mem hlm)
          obtain ⟨h1, h2⟩ := hcl1 k hlt
          obtain ⟨h3, h4⟩ := hcl2 k hlm
          have hrg1 := ent_range h1 h2
          have hrg2 := ent_range h3 h4
          have hnx := sames_next hS.out
          replace hnx := Lib.hid hnx
          clear h1 h2 h3 h4 hcl1 hcl2
          generalize entAt l k = x at *
          generalize entAt m k = y at *
          have hi29 : ∀ z : Ent, (Tryd.prog.info? 29).map (·.size) = some (entCells z).toList.length := fun z => by rw [Array.length_toList, entCells_size]; kernel_rfl
          replace hi29 := Lib.hid hi29
          have hkl : (k : Int) < (l.length : Int) := by omega
          have hkm : (k : Int) < (m.length : Int) := by omega
          go_wp2_with (fail)
          refine wp_region_quiet_lit (by kernel_rfl) (by kernel_rfl) ?_
          repeat (go_big_quiet_step (fail))
          refine wpQuiet_load_mid rfl 29 _ rfl b1 (off1 + k * 33) rfl (entCells x).toList _ (by rintro _ ⟨z, rfl⟩; exact hrg1) Tryd.underlying29 rfl (hi29.out _) ?_
          go_frame
          repeat (go_big_quiet_step (fail))
          refine wpQuiet_load_mid rfl 29 _ rfl b2 (off2 + k * 33) rfl (entCells y).toList _ (by rintro _ ⟨z, rfl⟩; exact hrg2) Tryd.underlying29 rfl (hi29.out _) ?_
          go_frame
          refine wpQuiet_of_run rfl _ (fun wx _ => exec_eql_ent (.tmp 35) (.tmp 39) _ rfl rfl rfl hx hy wx) ?_
          go_frame
          repeat (go_big_quiet_step (fail))
          refine wpQuiet_nil ?_
          rintro _ ⟨nq, rfl⟩
          go_wp2
          go_roundg (l.length + 1 - (k + 1))
          case measure => omega
          case rel => exact ⟨k + 1, _, by omega, by omega, by go_num, rfl, hnx.out, Below.drewN hB _⟩
      · obtain rfl : k = l.length := by omega
        cases s with
        | false =>
          go_wp2_with (fail)
          go_meet
          exact ⟨by rw [← sames_no hS.out], hB⟩
        | true =>
          go_wp2_with (fail)
          go_meet
          exact ⟨by rw [← sames_end hS.out], hB⟩
  case rest =>
    obtain ⟨rfl, hB⟩ := hcut
    have htl := fun wx (hb : Below w.heap.size w wx) => text_any l hok a cap wx (hr0.out.on hb) (by omega)
    have htm := fun wx (hb : Below w.heap.size w wx) => text_any m hom b cap' wx (hs0.out.on hb) (by omega)
    have hol := fun wx (hb : Below w.heap.size w wx) => of_any l hok a cap wx (hr0.out.on hb) (by omega) (hT0.out.grown hb) (hP0.out.grown hb)
    have hom' := fun wx (hb : Below w.heap.size w wx) => of_any m hom b cap' wx (hs0.out.on hb) (by omega) (hT0.out.grown hb) (hP0.out.grown hb)
    have hlt := textOf_length hok
    have hmt := textOf_length hom
    have htu : (textOf l == textOf m) = decide (l = m) := by
      rw [Bool.eq_iff_iff, beq_iff_eq, decide_eq_true_iff]
      exact ⟨textOf_inj hok hom, fun e => by rw [e]⟩
    have hou : l.length = 0 ∨ m.length = 0 → (ofL l == ofL m) = decide (l = m) := fun h => by
      rw [Bool.eq_iff_iff, beq_iff_eq, decide_eq_true_iff]
      exact ofL_short h
    have hov : 0 < l.length → 0 < m.length → (ofL l == ofL m) = decide (sumL ((textOf l).map UB) = sumL ((textOf m).map UB)) := fun h1 h2 => by
      rw [Bool.eq_iff_iff, beq_iff_eq, decide_eq_true_iff]
      exact ofL_iff h1 h2
    generalize decide (l = m) = s at *
    have hTm : ((textOf l).map UB).length = (textOf l).length := List.length_map _
    have hUm : ((textOf m).map UB).length = (textOf m).length := List.length_map _
    generalize textOf l = T at *
    generalize textOf m = U at *
    generalize ofL l = O1 at *
    generalize ofL m = O2 at *
    replace htl := Lib.hid htl
    replace htm := Lib.hid htm
    replace hol := Lib.hid hol
    replace hom' := Lib.hid hom'
    replace hou := Lib.hid hou
    replace hov := Lib.hid hov
    replace hTm := Lib.hid hTm
    replace hUm := Lib.hid hUm
    clear hsm
    go_upto_region 10 with (first
      | (go_at_call_of 11 (Value.slice a l.length cap); refine (htl.out _ hB).mono ?_; rintro e w1 ⟨rfl, hB1⟩; have hB1' := hB.trans (hB1.mono hB.size))
      | (go_at_call 11; refine (htm.out _ hB1').mono ?_; rintro e w2 ⟨rfl, hB2⟩; have hB2' := hB1'.trans (hB2.mono hB1'.size)))
    clear htu
    have hi27 : ∀ X : List UInt8, (Tryd.prog.info? 27).map (·.size) = some (tabulate 32 fun q => B8 ((sumL (X.map UB)).getD q 0)).size := fun X => by rw [tabulate_size]; kernel_rfl
    replace hi27 := Lib.hid hi27
    go_upto_region 11 with (first
      | (go_at_call 11
         refine (htl.out _ hB2').mono ?_
         rintro e w3 ⟨rfl, hB3⟩
         have hB3' := hB2'.trans (hB3.mono hB2'.size))
      | (refine wpList_str_bytes rfl _ rfl T rfl ?_
         intro c4 w4 hB4 hz4 hr4 _
         have hB4' := hB3'.trans (hB4.mono hB3'.size)
         have hsum := rsum_any (T.map UB) (some ⟨w3.heap.size, 0, none⟩) c4 w4 hr4 (by simp) (by rw [hTm.out]; omega)
         rw [hTm.out, sumL_val] at hsum
         replace hsum := Lib.hid hsum)
      | (go_at_call 12
         refine hsum.out.mono ?_
         rintro e w5 ⟨rfl, hB5⟩
         have hB5' := hB4'.trans (hB5.mono hB4'.size)
         have h5 : Blk (w5.alloc (.cells (tabulate 32 fun _ => B8 0) 27)) w5.heap.size 27 (tabulate 32 fun _ => B8 0) := Blk.new w5 _ _)
      | (refine wpList_store_row rfl 27 _ _ rfl w5.heap.size (tabulate 32 fun q => B8 ((sumL (T.map UB)).getD q 0)) rfl rfl 27 _ h5 (hi27.out T) (by rw [tabulate_size, tabulate_size]) (tabulate_one fun _ _ => rfl) ?_))
    generalize hw6 : World.setRow _ _ _ = w6
    have h6 : Blk w6 w5.heap.size 27 (tabulate 32 fun q => B8 ((sumL (T.map UB)).getD q 0)) := by rw [← hw6]; exact h5.row _
    have hB6 : Below w.heap.size w w6 := by rw [← hw6]; exact Below.setRow (hB5'.alloc hB5'.size _) hB5'.size _
    obtain ⟨g1, hg1⟩ : ∃ g, g = w5.heap.size := ⟨_, rfl⟩
    rw [← hg1] at h6 ⊢
    clear hw6 h5 hsum hB1 hB2 hB3 hB4 hB5 hB1' hB2' hB3' hB4' hB5' hr4 hz4 hg1
    go_upto_region 12 with (first
      | (go_at_call 11
         refine (htm.out _ hB6).mono ?_
         rintro e w7 ⟨rfl, hB7⟩
         have hB7' := hB6.trans (hB7.mono hB6.size))
      | (refine wpList_str_bytes rfl _ rfl U rfl ?_
         intro c8 w8 hB8 hz8 hr8 _
         have hB8' := hB7'.trans (hB8.mono hB7'.size)
         have hsum := rsum_any (U.map UB) (some ⟨w7.heap.size, 0, none⟩) c8 w8 hr8 (by simp) (by rw [hUm.out]; omega)
         rw [hUm.out, sumL_val] at hsum
         replace hsum := Lib.hid hsum)
      | (go_at_call 12
         refine hsum.out.mono ?_
         rintro e w9 ⟨rfl, hB9⟩
         have hg9 := (hB7.trans (hB8.mono hB7.size)).trans (hB9.mono (Nat.le_trans hB7.size hB8.size))
         have hB9' := hB8'.trans (hB9.mono hB8'.size)
         have h9 : Blk (w9.alloc (.cells (tabulate 32 fun _ => B8 0) 27)) w9.heap.size 27 (tabulate 32 fun _ => B8 0) := Blk.new w9 _ _)
      | (refine wpList_store_row rfl 27 _ _ rfl w9.heap.size (tabulate 32 fun q => B8 ((sumL (U.map UB)).getD q 0)) rfl rfl 27 _ h9 (hi27.out U) (by rw [tabulate_size, tabulate_size]) (tabulate_one fun _ _ => rfl) ?_))
    generalize hw10 : World.setRow _ _ _ = w10
    have h10 : Blk w10 w9.heap.size 27 (tabulate 32 fun q => B8 ((sumL (U.map UB)).getD q 0)) := by rw [← hw10]; exact h9.row _
    have hB10 : Below w.heap.size w w10 := by rw [← hw10]; exact Below.setRow (hB9'.alloc hB9'.size _) hB9'.size _
    have hg10 : Below w6.heap.size w6 w10 := by rw [← hw10]; exact Below.setRow (hg9.alloc hg9.size _) hg9.size _
    replace h6 := h6.below hg10 h6.lt
    obtain ⟨g2, hg2⟩ : ∃ g, g = w9.heap.size := ⟨_, rfl⟩
    rw [← hg2] at h10 ⊢
    clear hw10 h9 hsum hB7 hB8 hB9 hB7' hB8' hB9' hr8 hz8 hg2 hg9 hg10
    by_cases hz : l.length = 0 ∨ m.length = 0
    · have hou' := hou.out hz
      clear hou hov
      have hcase : ((l.length : Int) == 0) = true ∨ (((l.length : Int) == 0) = false ∧ ((m.length : Int) == 0) = true) := by
        simp only [beq_iff_eq, beq_eq_false_iff_ne]
        omega
      replace hz := Lib.hid hz
      rcases hcase with h0 | ⟨h0, h1⟩
      all_goals
        go_wp2_with (first
          | (go_at_call_of 7 (Value.slice a l.length cap); refine (hol.out _ hB10).mono ?_; rintro e w11 ⟨rfl, hB11⟩; have hB11' := hB10.trans (hB11.mono hB10.size))
          | (go_at_call 7; refine (hom'.out _ hB11').mono ?_; rintro e w12 ⟨rfl, hB12⟩; have hB12' := hB11'.trans (hB12.mono hB11'.size))
          | (go_at_call 6; refine (works_any _ (hT0.out.grown hB12') (hP0.out.grown hB12')).mono ?_; rintro e w13 ⟨rfl, hB13⟩))
        go_ret
        exact ⟨rfl, hB12'.trans (hB13.mono hB12'.size)⟩
    · have h0 : ((l.length : Int) == 0) = false := by rw [beq_eq_false_iff_ne]; omega
      have h1 : ((m.length : Int) == 0) = false := by rw [beq_eq_false_iff_ne]; omega
      have hov' := hov.out (by omega) (by omega)
      have hlS := sumL_length (T.map UB)
      have hlR := sumL_length (U.map UB)
      have hi1 := hi27.out T
      have hi2 := hi27.out U
      generalize sumL (T.map UB) = S at *
      generalize sumL (U.map UB) = R at *
      clear hou hov
      replace hz := Lib.hid hz
      replace hi1 := Lib.hid hi1
      replace hi2 := Lib.hid hi2
      go_upto_region 14 with (fail)
      go_wp2_with (fail)
      have hol1 := fun z : Grew w10.heap.size w10 => hol.out z.1 (hB10.trans (z.2.mono hB10.size))
      have hom1 := fun z : Grew w10.heap.size w10 => hom'.out z.1 (hB10.trans (z.2.mono hB10.size))
      have hwk1 := fun z : Grew w10.heap.size w10 => works_any z.1 (hT0.out.grown (hB10.trans (z.2.mono hB10.size))) (hP0.out.grown (hB10.trans (z.2.mono hB10.size)))
      have hrow1 : ∀ wx, (∃ x : Grew w10.heap.size w10, wx = x.1) → wx.heap[g1]? = some (.cells (tabulate 32 fun i => B8 (S.getD i 0)) 27 (0, 0)) := by
        rintro _ ⟨x, rfl⟩
        exact h6.below x.2 h6.lt
      have hrow2 : ∀ wx, (∃ x : Grew w10.heap.size w10, wx = x.1) → wx.heap[g2]? = some (.cells (tabulate 32 fun i => B8 (R.getD i 0)) 27 (0, 0)) := by
        rintro _ ⟨x, rfl⟩
        exact h10.below x.2 h10.lt
      replace hol1 := Lib.hid hol1
      replace hom1 := Lib.hid hom1
      replace hwk1 := Lib.hid hwk1
      replace hrow1 := Lib.hid hrow1
      replace hrow2 := Lib.hid hrow2
      clear h6 h10
      refine wp_grow w10.heap.size (by kernel_rfl) (by kernel_rfl) ?_
      repeat (go_big_quiet_step (first
        | (go_at_call_of 7 (Value.slice a l.length cap); exact Grew.of_calls (hol1.out _) (Nat.le_refl _))
        | (go_at_call 7; exact Grew.of_calls (hom1.out _) (Nat.le_refl _))))
      refine wpQuiet_load_row rfl 27 _ rfl g1 rfl 27 _ (0, 0) _ hrow1.out Tryd.underlying27 rfl hi1.out ?_
      go_frame
      refine wpQuiet_load_row rfl 27 _ rfl g2 rfl 27 _ (0, 0) _ hrow2.out Tryd.underlying27 rfl hi2.out ?_
      go_frame
      refine wpQuiet_of_run rfl _ (fun wx _ => exec_eql_hash (.tmp 79) (.tmp 80) _ rfl rfl rfl hlS hlR wx) ?_
      go_frame
      repeat (go_big_quiet_step (first
        | (go_at_call 6; exact Grew.of_calls (hwk1.out _) (Nat.le_refl _))))
      refine wpQuiet_nil ?_
      rintro _ ⟨z, rfl⟩
      go_wp2
      go_ret
      exact ⟨rfl, hB10.trans (z.2.mono hB10.size)⟩
end Go.Proofs.YtbmndibhalbioaaDoor
