/-
  VaultNil, walked whole: what no vault, and no disk, answer.
-/
import Derived.Test.YtiidohaibbdgeaaDoorVWorks
namespace Go.Proofs.YtiidohaibbdgeaaDoor
open Go Go.RowKit

set_option maxRecDepth 100000 in
set_option maxHeartbeats 1000000 in
theorem open_nil (w : World) : Calls Tryd.prog 11 #[.pointer none] w fun e w' => e = .returned (.tuple #[.pointer none, .slice none 0 0, .int .i64 2]) ∧ Below w.heap.size w w' := by
  have hb : Below w.heap.size w (w.alloc (.cells #[.pointer none] 25)) := (Below.refl _ _).alloc (Nat.le_refl _) _
  go_enter Tryd.func11, Tryd.ntmps11
  go_wp2
  go_ret3
  exact ⟨rfl, hb⟩
set_option maxRecDepth 100000 in
set_option maxHeartbeats 1000000 in
theorem add_nil (a : Option Addr) (n c : Nat) (w : World) : Calls Tryd.prog 12 #[.pointer none, .slice a n c] w fun e w' => e = .returned (.int .i64 2) ∧ Below w.heap.size w w' := by
  have hb : Below w.heap.size w ((w.alloc (.cells #[.pointer none] 29)).alloc (.cells #[.slice a n c] 30)) := ((Below.refl _ _).alloc (Nat.le_refl _) _).alloc (by simp) _
  have hm := vmay_nil (.slice a n c)
  replace hm := Lib.hid hm
  go_enter Tryd.func12, Tryd.ntmps12
  go_wp2_with (go_at_call 35; refine (hm.out _).mono ?_; rintro e w1 ⟨rfl, rfl⟩)
  go_ret
  exact ⟨rfl, hb⟩
set_option maxRecDepth 100000 in
set_option maxHeartbeats 1000000 in
theorem comp_nil (a : Option Addr) (n c : Nat) (w : World) : Calls Tryd.prog 13 #[.pointer none, .slice a n c] w fun e w' => e = .returned (.int .i64 2) ∧ Below w.heap.size w w' := by
  have hb : Below w.heap.size w ((w.alloc (.cells #[.pointer none] 29)).alloc (.cells #[.slice a n c] 30)) := ((Below.refl _ _).alloc (Nat.le_refl _) _).alloc (by simp) _
  have hm := vmay_nil (.slice a n c)
  replace hm := Lib.hid hm
  go_enter Tryd.func13, Tryd.ntmps13
  go_wp2_with (go_at_call 35; refine (hm.out _).mono ?_; rintro e w1 ⟨rfl, rfl⟩)
  go_ret
  exact ⟨rfl, hb⟩
/-- works, ahead of a law's end. -/
theorem works_end (w wx : World) (hb : Below w.heap.size w wx) (hT : Tab w) : Calls Tryd.prog 9 #[] wx fun e w' => e = .returned (.bool true) ∧ Below w.heap.size w w' :=
  (works_any w.heap.size wx hb.size (hT.grown hb) hT.lt).mono fun _ _ ⟨h1, h2⟩ => ⟨h1, hb.trans h2.below⟩

set_option maxRecDepth 100000 in
set_option maxHeartbeats 1000000 in
theorem vaultnil_any (a : Option Addr) (n c : Nat) (hn : n ≤ 9223372036854775807) (w : World) (hT : Tab w) : Calls Tryd.prog 7 #[.slice a n c] w fun e w' => e = .returned (.bool true) ∧ Below w.heap.size w w' := by
  have hw := fun wx hb => works_end w wx hb hT
  have h0 := Below.refl w.heap.size w
  replace hw := Lib.hid hw
  clear hT
  by_cases h100 : 100 < n
  · have h1 : (100 : Int) < (n : Int) := by omega
    go_enter Tryd.func7, Tryd.ntmps7
    go_wp2_with (go_at_call 9; refine (hw.out _ h0).mono ?_; rintro e w1 ⟨rfl, hB1⟩)
    go_ret
    exact ⟨rfl, hB1⟩
  · have h1 : decide ((100 : Int) < (n : Int)) = false := decide_eq_false (by omega)
    have h2 : decide (100 < n) = false := decide_eq_false h100
    go_enter Tryd.func7, Tryd.ntmps7
    go_wp2_with (first
      | (go_at_call 11; refine (open_nil w).mono ?_; rintro e w1 ⟨rfl, hB1⟩)
      | (go_at_call 12; refine (add_nil a n c w1).mono ?_; rintro e w2 ⟨rfl, hB2⟩; have hB02 := hB1.trans (hB2.mono hB1.size))
      | (go_at_call 13; refine (comp_nil a n c w2).mono ?_; rintro e w3 ⟨rfl, hB3⟩; have hB03 := hB02.trans (hB3.mono hB02.size))
      | (go_at_call 25; refine (gen_nil w3).mono ?_; rintro e w4 ⟨rfl, rfl⟩)
      | (go_at_call 26; refine (len_nil w3).mono ?_; rintro e w4 ⟨rfl, rfl⟩)
      | (go_at_call 9; refine (hw.out _ hB03).mono ?_; rintro e w5 ⟨rfl, hB5⟩))
    go_ret
    exact ⟨rfl, hB5⟩
end Go.Proofs.YtiidohaibbdgeaaDoor
