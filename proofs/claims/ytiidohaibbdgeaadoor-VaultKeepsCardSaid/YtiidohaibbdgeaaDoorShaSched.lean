/-
  The 64 words of a piece: the program's (sha.schedule).
-/
import Derived.Test.YtiidohaibbdgeaaDoorShaRight
import Derived.Test.YtiidohaibbdgeaaDoorMem
import Derived.Lib.Hide
import Derived.Test.YtiidohaibbdgeaaDoorQuietTail
namespace Go.Proofs.YtiidohaibbdgeaaDoor
open Go.RowKit

/-- The words of the array while it is filled. -/
def schedCells (p : Nat → BitVec 8) (t : Nat) : Array Value := tabulate 64 fun i => if i < t then U (sched p i) else U 0
/-- .. and while its t-th word is. -/
def schedPart (p : Nat → BitVec 8) (t j : Nat) : Array Value := tabulate 64 fun i => if i < t then U (sched p i) else if i = t then U (part p t j) else U 0

theorem schedPart_zero (p : Nat → BitVec 8) (t : Nat) : schedPart p t 0 = schedCells p t := by
  refine tabulate_ext fun i _ => ?_
  by_cases h : i < t
  · simp [h]
  · by_cases h2 : i = t
    · subst h2; simp [part]
    · simp [h, h2]
theorem schedPart_four (p : Nat → BitVec 8) (t : Nat) (h16 : t < 16) : schedPart p t 4 = schedCells p (t + 1) := by
  refine tabulate_ext fun i _ => ?_
  by_cases h : i < t
  · simp [h, (by omega : i < t + 1)]
  · by_cases h2 : i = t
    · subst h2; simp [sched_low p i h16, word4]
    · have h3 : ¬ i < t + 1 := by omega
      simp only [h, h2, h3, if_false]
theorem schedPart_set (p : Nat → BitVec 8) (t j : Nat) : (schedPart p t j).setIfInBounds t (U (part p t (j + 1))) = schedPart p t (j + 1) := by
  unfold schedPart
  rw [tabulate_set]
  refine tabulate_ext fun i _ => ?_
  by_cases h : i = t
  · subst h; simp
  · simp [h]
theorem schedCells_set (p : Nat → BitVec 8) (t : Nat) : (schedCells p t).setIfInBounds t (U (sched p t)) = schedCells p (t + 1) := by
  unfold schedCells
  rw [tabulate_set]
  refine tabulate_ext fun i _ => ?_
  by_cases h : i = t
  · subst h; simp
  · by_cases h2 : i < t
    · simp [h, h2, (by omega : i < t + 1)]
    · have h3 : ¬ i < t + 1 := by omega
      simp only [h, h2, h3, if_false]

theorem Tryd.info_u8 : (Tryd.prog.info? 5).map (fun i => (i.zero, i.size, i.bytes)) = some (some (.int .u8 0), 1, 1) := by kernel_rfl

set_option maxRecDepth 100000 in
set_option maxHeartbeats 1000000 in
theorem schedule_any (p : Nat → BitVec 8) (b off : Nat) (w : World) (hp : ∀ i, i < 64 → w.cell? ⟨b, off + i, none⟩ = some (B8 (p i))) :
    Calls Tryd.prog 91 #[.pointer (some ⟨b, off, none⟩)] w fun e w' => e = .returned (.agg (tabulate 64 fun t => U (sched p t))) ∧ Below w.heap.size w w' := by
  have hb : b < w.heap.size := by
    have := block_lt_of_cell (hp 0 (by omega)); simpa using this
  obtain ⟨i5, hi5, _, hs5, _⟩ := info_parts Tryd.info_u8
  have hp0 := Lib.hid hp
  clear hp
  go_enter Tryd.func91, Tryd.ntmps91
  go_wp2
  generalize hw1 : w.alloc _ = w1
  have h0 : Blk w1 w.heap.size 132 (schedCells p 0) := by
    rw [← hw1]; exact Blk.new w 132 _
  have hB : Below w.heap.size w w1 := by
    rw [← hw1]; exact (Below.refl _ _).alloc (Nat.le_refl _) _
  clear hw1
  go_loopw [8] (fun i wr => ∃ t : Nat, t ≤ 64 ∧ i = .int .i64 t ∧ Blk wr w.heap.size 132 (schedCells p t) ∧ Below w.heap.size w wr) (fun i _ => 64 - (intOf i).toNat)
  case atStart => exact ⟨0, by omega, rfl, h0, hB⟩
  case round =>
    obtain ⟨t, ht, rfl, hK, hBr⟩ := hrel
    clear h0 hB
    have hpr : ∀ i, i < 64 → wr.cell? ⟨b, off + i, none⟩ = some (B8 (p i)) := fun i hi => (hBr.cell (by exact hb)).trans (hp0.out i hi)
    by_cases hlt : t < 64
    · by_cases h16 : t < 16
      · have hsl := sliceAt_arr (P := Tryd.prog) Tryd.underlying122 hi5 hs5 b off .i64 .i64 (4 * (t : Int)) (4 * (t : Int) + 4) (4 * t) (4 * t + 4) (off + 4 * t) 4 (64 - 4 * t) (by omega) (by omega) (by omega) (by omega) (by omega) (by omega) (by omega) (by omega) wr
        go_wp2
        clear hsl
        go_loopw [22] (fun i wq => ∃ j : Nat, j ≤ 4 ∧ i = .int .i64 j ∧ Blk wq w.heap.size 132 (schedPart p t j) ∧ Below w.heap.size w wq) (fun i _ => 4 - (intOf i).toNat)
        case atStart => exact ⟨0, by omega, rfl, by rw [schedPart_zero]; exact hK, hBr⟩
        case round =>
          obtain ⟨j, hj, rfl, hK2, hB2⟩ := hrel
          by_cases hj4 : j < 4
          · have hpj : wr.cell? ⟨b, off + 4 * t + j, none⟩ = some (B8 (p (4 * t + j))) := by
              have := hp0.out (4 * t + j) (by omega)
              rw [Nat.add_assoc]; exact (hB2.cell (by exact hb)).trans this
            have hcell : wr.cell? ⟨w.heap.size, t, none⟩ = some (U (part p t j)) := by
              rw [hK2.cell, schedPart, tabulate_get (by omega)]; simp
            have hfree := hK2.free t
            have hb1 := (part p t j).isLt
            have hb2 := (p (4 * t + j)).isLt
            clear hpr
            go_wp2
            go_roundw
            case rel =>
              refine ⟨j + 1, by omega, by go_num, ?_, ?_⟩
              · rw [i_shl8, i_wide, i_or, ← schedPart_set]
                exact hK2.set _ _
              · exact hB2.setCell (Nat.le_refl _) _
            case measure => simp [intOf]; omega
          · obtain rfl : j = 4 := by omega
            rw [schedPart_four p t h16] at hK2
            go_wp2
            go_roundw
            case rel => exact ⟨t + 1, by omega, by go_num, hK2, hB2⟩
            case measure => simp [intOf]; omega
      · have hs := sched_high p t (by omega)
        have c15 : wr.cell? ⟨w.heap.size, t - 15, none⟩ = some (U (sched p (t - 15))) := by
          rw [hK.cell, schedCells, tabulate_get (by omega), if_pos (by omega)]
        have c2 : wr.cell? ⟨w.heap.size, t - 2, none⟩ = some (U (sched p (t - 2))) := by
          rw [hK.cell, schedCells, tabulate_get (by omega), if_pos (by omega)]
        have c16 : wr.cell? ⟨w.heap.size, t - 16, none⟩ = some (U (sched p (t - 16))) := by
          rw [hK.cell, schedCells, tabulate_get (by omega), if_pos (by omega)]
        have c7 : wr.cell? ⟨w.heap.size, t - 7, none⟩ = some (U (sched p (t - 7))) := by
          rw [hK.cell, schedCells, tabulate_get (by omega), if_pos (by omega)]
        have hs' := Lib.hid hs
        clear hs hpr
        go_wp2
        have hb15 := (sched p (t - 15)).isLt
        have hb2 := (sched p (t - 2)).isLt
        have hb16 := (sched p (t - 16)).isLt
        have hb7 := (sched p (t - 7)).isLt
        go_quiet (fail)
        go_wp2
        have k16 : (wr.drewN nq).cell? ⟨w.heap.size, t - 16, none⟩ = some (U (sched p (t - 16))) := c16
        have k7 : (wr.drewN nq).cell? ⟨w.heap.size, t - 7, none⟩ = some (U (sched p (t - 7))) := c7
        have kz : (wr.drewN nq).cell? ⟨w.heap.size, t, none⟩ = some (U 0) := by
          rw [(hK.drewN nq).cell, schedCells, tabulate_get (by omega), if_neg (by omega)]
        have kf := (hK.drewN nq).free t
        have hKz := hK.drewN nq
        have hBz := Below.drewN hBr nq
        clear c16 c7 c15 c2 hK hBr
        generalize wr.drewN nq = wz at *
        refine wp_quiet_tail 29 (by kernel_rfl) (by kernel_rfl) ?_
        simp only [List.take_succ_cons, List.take_zero, List.drop_succ_cons, List.drop_zero]
        repeat (go_big_quiet_step ((go_at_call 92; exact Calls.quiet_of_same (right_st _ _ _ (by omega) (by omega)))))
        refine wpQuiet_nil ?_
        rintro _ ⟨nr, rfl⟩
        go_wp2
        go_roundw
        case rel =>
          refine ⟨t + 1, by omega, by go_num, ?_, (Below.drewN hBz nr).setCell (Nat.le_refl _) _⟩
          rw [i_shr3, i_shr10, i_xor, i_xor, i_xor, i_xor, i_add4, ← schedCells_set, hs'.out]
          exact (hKz.drewN nr).set _ _
        case measure => simp [intOf]; omega
    · obtain rfl : t = 64 := by omega
      clear hpr
      have hi80 : (Tryd.prog.info? 132).map (·.size) = some (schedCells p 64).size := by rw [schedCells, tabulate_size]; kernel_rfl
      have h1 : (schedCells p 64).all (·.oneCell') = true := tabulate_one fun i hi => by simp only [hi, if_true]; rfl
      go_wp2_with (first
        | (refine wpList_load_row rfl 132 _ rfl w.heap.size rfl 132 _ (0, 0) _ hK Tryd.underlying132 rfl hi80 ?_)
        | (refine wpList_store_row rfl 132 _ _ rfl w.heap.size _ rfl rfl 132 _ hK hi80 rfl h1 ?_))
      refine bodyPost_ret (v := .agg (schedCells p 64)) (results_cell_row rfl _ _ w.heap.size 132 (schedCells p 64) (0, 0) _ rfl (hK.row _) Tryd.underlying132 rfl hi80) rfl ⟨?_, Below.setRow hBr (Nat.le_refl _) _⟩
      rw [schedCells]
      refine congrArg (fun x => Ending.returned (.agg x)) (tabulate_ext fun i hi => ?_)
      rw [if_pos hi]
end Go.Proofs.YtiidohaibbdgeaaDoor
