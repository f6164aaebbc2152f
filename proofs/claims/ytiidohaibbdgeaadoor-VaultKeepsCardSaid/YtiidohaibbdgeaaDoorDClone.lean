/-
  A copy of bytes: bytes.Clone.
-/
import Derived.Test.YtiidohaibbdgeaaDoorDMem
import Derived.Lib.BufferMore
namespace Go.Proofs.YtiidohaibbdgeaaDoor
open Go Go.RowKit

/-- A row of bytes of the call's own is handed back. -/
def OwnRet (xs : Bs) (w : World) (e : Ending) (w' : World) : Prop := ∃ v, e = .returned v ∧ OwnBytes w' w.heap.size v xs ∧ Below w.heap.size w w'
theorem OwnBytes.nothing (w : World) (base : Nat) : OwnBytes w base (.slice none 0 0) [] := World.ownsRow_nil _ _ _ _

set_option maxRecDepth 100000 in
set_option maxHeartbeats 1000000 in
theorem bclone_any (xs : Bs) (a : Option Addr) (cap : Nat) (w : World) (hr : Reads w w.heap.size a xs) (hc : a = none → cap = 0) (hlen : xs.length ≤ 70368744177664) :
    Calls Tryd.prog 53 #[.slice a xs.length cap] w (OwnRet xs w) := by
  have hr0 := Lib.hid hr
  clear hr
  cases a with
  | none =>
    have h0 : xs = [] := by
      by_cases hl : 0 < xs.length
      · obtain ⟨b, o, he, _⟩ := hr0.out hl; cases he
      · exact List.eq_nil_of_length_eq_zero (by omega)
    subst h0
    have hc' := hc rfl
    subst hc'
    clear hc hr0
    have hnil : ∀ W, (binOp .eql 35 (.slice none 0 0) (.slice none 0 0)).run Tryd.prog W = .ok (.bool true) W := fun W => Lib.run_eql_slice_nil_nil W _ _ Tryd.underlying35
    go_enter Tryd.func53, Tryd.ntmps53
    go_wp2
    go_ret
    exact ⟨_, rfl, OwnBytes.nothing _ _, Below.refl _ _⟩
  | some ad =>
    clear hc
    have hnil : ∀ W, (binOp .eql 35 (.slice (some ad) xs.length cap) (.slice none 0 0)).run Tryd.prog W = .ok (.bool false) W := fun W => Lib.run_eql_slice_some_nil W _ _ _ Tryd.underlying35
    go_enter Tryd.func53, Tryd.ntmps53
    go_wp2_with (
      at_builtin
      refine wpList_grow_bytes rfl (.tmp 5) (.tmp 6) rfl w.heap.size _ [] rfl (OwnBytes.empty w) (some ad) cap w.heap.size xs rfl (hr0.out.below ((Below.refl _ _).alloc (Nat.le_refl _) _)) (fun h => by cases h) (by simp; omega) (by simp) w.heap.size w ((Below.refl _ _).alloc (Nat.le_refl _) _) (Nat.le_refl _) ?_
      intro v1 w1 hown1 _ hB1
      rw [List.nil_append] at hown1)
    go_ret
    exact ⟨_, rfl, hown1, hB1⟩
end Go.Proofs.YtiidohaibbdgeaaDoor
