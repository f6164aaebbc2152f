/-
  The words of a piece: the document's (scantlingref01.words).
-/
import Derived.Test.YtiidohaibbdgeaaDoorShaEnd
import Derived.Test.YtiidohaibbdgeaaDoorHeld
namespace Go.Proofs.YtiidohaibbdgeaaDoor
open Go.RowKit

theorem Grew.cell {B : Nat} {w : World} {p : Addr} {v : Value} (h : w.cell? p = some v) (hp : p.block < B) (x : Grew B w) : x.1.cell? p = some v := (x.2.cell hp).trans h

/-- What the document's words are handed back as. -/
def WordsEnd (p : Nat → BitVec 8) (w : World) (e : Ending) (w' : World) : Prop :=
  ∃ v, e = .returned v ∧ w'.ownsRow w.heap.size 115 1 v 64 ((List.range 64).map fun i => U (sched p i)) ∧ Below w.heap.size w w'

theorem own_ge {w : World} {base : Nat} {e : TypeId} {size n : Nat} {v : Value} {xs : List Value} (h : w.ownsRow base e size v n xs) : ∀ k, v.ownBlock = some k → base ≤ k := fun k hk => by
  rcases h.2 with ⟨rfl, _⟩ | ⟨g, cap, cur, rfl, hg, _⟩
  · simp [Value.ownBlock] at hk
  · have : g = k := by simpa [Value.ownBlock] using hk
    omega
theorem own_form {w : World} {base : Nat} {e : TypeId} {size n : Nat} {v : Value} {xs : List Value} (h : w.ownsRow base e size v n xs) (hn : 0 < n) : ∃ g cap, v = .slice (some ⟨g, 0, none⟩) n cap ∧ base ≤ g ∧ g < w.heap.size := by
  rcases h.2 with ⟨_, h0⟩ | ⟨g, cap, cur, rfl, hg, hh, _⟩
  · omega
  · exact ⟨g, cap, rfl, hg, by
      by_cases hl : g < w.heap.size
      · exact hl
      · rw [Array.getElem?_eq_none (by omega)] at hh; cases hh⟩

set_option maxRecDepth 100000 in
set_option maxHeartbeats 1000000 in
theorem rwords_any (p : Nat → BitVec 8) (b off cap : Nat) (w : World) (hb : b < w.heap.size) (hp : ∀ i, i < 64 → w.cell? ⟨b, off + i, none⟩ = some (B8 (p i))) :
    Calls Tryd.prog 84 #[.slice (some ⟨b, off, none⟩) 64 cap] w (WordsEnd p w) := by
  obtain ⟨i46, hi46, hz46, hs46, hy46⟩ := info_parts Tryd.info_u32
  have hp0 := Lib.hid hp
  clear hp
  go_enter Tryd.func84, Tryd.ntmps84
  go_wp2
  go_loopw [3, 4] (fun v i wr => ∃ k : Nat, k ≤ 16 ∧ i = .int .i64 k ∧ wr.ownsRow w.heap.size 115 1 v k ((List.range k).map fun i => U (sched p i)) ∧ Below w.heap.size w wr) (fun _ i _ => 16 - (intOf i).toNat)
  case atStart => exact ⟨0, by omega, rfl, World.ownsRow_nil _ _ _ _, Below.refl _ _⟩
  case round =>
    rename_i v0 i0
    obtain ⟨k, hk, rfl, hown, hB⟩ := hrel
    by_cases hlt : k < 16
    · have c0 := fun x => Grew.cell (B := wr.heap.size) ((hB.cell (p := ⟨b, off + 4 * k, none⟩) hb).trans (hp0.out (4 * k) (by omega))) (Nat.lt_of_lt_of_le hb hB.size) x
      have c1 := fun x => Grew.cell (B := wr.heap.size) ((hB.cell (p := ⟨b, off + (4 * k + 1), none⟩) hb).trans (hp0.out (4 * k + 1) (by omega))) (Nat.lt_of_lt_of_le hb hB.size) x
      have c2 := fun x => Grew.cell (B := wr.heap.size) ((hB.cell (p := ⟨b, off + (4 * k + 2), none⟩) hb).trans (hp0.out (4 * k + 2) (by omega))) (Nat.lt_of_lt_of_le hb hB.size) x
      have c3 := fun x => Grew.cell (B := wr.heap.size) ((hB.cell (p := ⟨b, off + (4 * k + 3), none⟩) hb).trans (hp0.out (4 * k + 3) (by omega))) (Nat.lt_of_lt_of_le hb hB.size) x
      have b0 := (p (4 * k)).isLt
      have b1 := (p (4 * k + 1)).isLt
      have b2 := (p (4 * k + 2)).isLt
      have b3 := (p (4 * k + 3)).isLt
      go_wp2
      refine wp_region_held_one (C := fun w' => ∃ x : Grew wr.heap.size wr, w' = x.1) 34 (by kernel_rfl) (by kernel_rfl) (by kernel_rfl) (by intro c a d u w h; cases d <;> exact h) ⟨⟨wr.drew, (Below.refl _ _).drew⟩, rfl⟩ ?_
      simp only [List.take_succ_cons, List.take_zero, List.drop_succ_cons, List.drop_zero]
      repeat (go_big_quiet_step (fail))
      refine wpQuiet_nil ?_
      rw [word_ref]
      refine ⟨_, _, _, rfl, rfl, exec_buildSlice_one 116 115 _ rfl Tryd.underlying116 i46 _ hi46 hs46 hz46 rfl (U (word4 p k)) rfl rfl _, ⟨⟨_, ((Below.refl _ _).drew).alloc (Nat.le_refl _) _⟩, rfl⟩, ?_⟩
      rw [← sched_low p k hlt]
      go_frame
      refine wpList_append_own _ rfl (.tmp 14) (.tmp 48) 116 rfl w.heap.size 115 i46 (.int .u32 0) 1 4 Tryd.underlying116 hi46 hz46 hs46 hy46 rfl (by decide) _ k _ rfl (hown.drew.alloc _) ⟨wr.heap.size, 0, none⟩ 1 1 [U (sched p k)] rfl rfl (cell_one_new _ _ _) (by simp [Value.oneCell']) (by unfold maxLen; omega) (by omega) (by have := hB.size; simp; omega) ?_
      intro v' w1 hown' hgrow _
      go_frame
      go_wp2
      go_roundw
      case rel =>
        refine ⟨k + 1, by omega, by go_num, ?_, ((hB.drew).alloc hB.size _).grown hgrow (by have := hB.size; simp; omega) (own_ge hown)⟩
        rw [List.range_succ, List.map_append]
        exact hown'
      case measure => simp [intOf]; omega
    · obtain rfl : k = 16 := by omega
      rw [show ((16 : Nat) : Int) = 16 from rfl]
      go_upto_block 2 with (fail)
      go_wp2_with (fail)
      go_loopw [3, 5] (fun v i wr => ∃ k : Nat, 16 ≤ k ∧ k ≤ 64 ∧ i = .int .i64 k ∧ wr.ownsRow w.heap.size 115 1 v k ((List.range k).map fun i => U (sched p i)) ∧ Below w.heap.size w wr) (fun _ i _ => 64 - (intOf i).toNat)
      case atStart => exact ⟨16, by omega, by omega, rfl, hown, hB⟩
      case round =>
        obtain ⟨k, hk0, hk, rfl, hown, hB⟩ := hrel
        obtain ⟨g, cp, rfl, hgB, hglt⟩ := own_form hown (by omega)
        have hcells : ∀ j, j < k → wr.cell? ⟨g, j, none⟩ = some (U (sched p j)) := fun j hj => by
          rw [hown.cellAt j (by omega)]; simp [hj]
        by_cases hlt : k < 64
        · have c15 := hcells (k - 15) (by omega)
          have c2 := hcells (k - 2) (by omega)
          have c16 := fun x => Grew.cell (B := wr.heap.size) (hcells (k - 16) (by omega)) hglt x
          have c7 := fun x => Grew.cell (B := wr.heap.size) (hcells (k - 7) (by omega)) hglt x
          have hs := sched_high p k hk0
          replace hs := Lib.hid hs
          replace hown := Lib.hid hown
          clear hcells
          have h15 := (sched p (k - 15)).isLt
          have h2 := (sched p (k - 2)).isLt
          have h16 := (sched p (k - 16)).isLt
          have h7 := (sched p (k - 7)).isLt
          go_wp2_with (go_at_call 85; refine (rright_any _ _ _ (by omega) (by omega)).mono ?_; rintro e w' ⟨rfl, rfl⟩)
          refine wp_region_held_one (C := fun w' => ∃ x : Grew wr.heap.size wr, w' = x.1) 16 (by kernel_rfl) (by kernel_rfl) (by kernel_rfl) (by intro c a d u w h; cases d <;> exact h) ⟨⟨wr.drew, (Below.refl _ _).drew⟩, rfl⟩ ?_
          simp only [List.take_succ_cons, List.take_zero, List.drop_succ_cons, List.drop_zero]
          repeat (go_big_quiet_step (fail))
          refine wpQuiet_nil ?_
          simp only [i_shr3, i_shr10, i_xor, i_add3, i_add]
          have hv : U (sig1 (sched p (k - 2)) + sched p (k - 7) + sig0 (sched p (k - 15)) + sched p (k - 16)) = U (sched p k) := by
            rw [hs.out]; refine congrArg U ?_; ac_rfl
          refine ⟨_, _, _, rfl, rfl, exec_buildSlice_one 116 115 _ rfl Tryd.underlying116 i46 _ hi46 hs46 hz46 rfl (U (sched p k)) (by exact hv) rfl _, ⟨⟨_, ((Below.refl _ _).drew).alloc (Nat.le_refl _) _⟩, rfl⟩, ?_⟩
          go_frame
          refine wpList_append_own _ rfl (.tmp 80) (.tmp 96) 116 rfl w.heap.size 115 i46 (.int .u32 0) 1 4 Tryd.underlying116 hi46 hz46 hs46 hy46 rfl (by decide) _ k _ rfl (hown.out.drew.alloc _) ⟨wr.heap.size, 0, none⟩ 1 1 [U (sched p k)] rfl rfl (cell_one_new _ _ _) (by simp [Value.oneCell']) (by unfold maxLen; omega) (by omega) (by have := hB.size; simp; omega) ?_
          intro v' w1 hown' hgrow _
          go_frame
          go_wp2
          go_roundw
          case rel =>
            refine ⟨k + 1, by omega, by omega, by go_num, ?_, ((hB.drew).alloc hB.size _).grown hgrow (by have := hB.size; simp; omega) (own_ge hown.out)⟩
            rw [List.range_succ, List.map_append]
            exact hown'
          case measure => simp [intOf]; omega
        · obtain rfl : k = 64 := by omega
          replace hown := Lib.hid hown
          go_wp2
          go_ret
          exact ⟨_, rfl, hown.out, hB⟩
end Go.Proofs.YtiidohaibbdgeaaDoor
