/-
  Turning a word round: the program's and the document's.
-/
import Derived.Test.YtiidohaibbdgeaaDoorRows
import Derived.Test.YtiidohaibbdgeaaDoorShaSpec
import Derived.WalkKit
import Derived.WalkSpells
import Derived.WalkLawsBesides
namespace Go.Proofs.YtiidohaibbdgeaaDoor
open Go.RowKit

theorem ret_u32 {k : IntKind} {a b : Int} (h : a = b) : Ending.returned (.int k a) = .returned (.int k b) := by rw [h]

theorem ror_ref (x : BitVec 32) (n : Nat) (_h2 : 1 ≤ n) (h3 : n ≤ 31) : bits BinOp.or IntKind.u32 ((x.toNat : Int) / 2 ^ n) ((x.toNat : Int) * 2 ^ (32 - (n : Int)).toNat % 4294967296) = ((ror x n).toNat : Int) := by
  have e : (32 - (n : Int)).toNat = 32 - n := by omega
  rw [e, i_shr, i_shl, i_or]; rfl

set_option maxHeartbeats 400000 in
theorem rright_any (x : BitVec 32) (n : Int) (w : World) (h2 : 1 ≤ n) (h3 : n ≤ 31) :
    Calls Tryd.prog 85 #[U x, .int .u64 n] w fun e w' => e = .returned (U (ror x n.toNat)) ∧ w = w' := by
  have hx := x.isLt
  go_enter Tryd.func85, Tryd.ntmps85
  go_wp2
  go_ret
  refine ⟨ret_u32 ?_, rfl⟩
  obtain ⟨m, rfl⟩ := Int.eq_ofNat_of_zero_le (a := n) (by omega)
  exact ror_ref x m (by omega) (by omega)

theorem ror_rot (x : BitVec 32) (n : Nat) (_h2 : 1 ≤ n) (h3 : n ≤ 31) : bits BinOp.or IntKind.u32 ((x.toNat : Int) * 2 ^ (32 - (n : Int)).toNat % 4294967296) ((x.toNat : Int) / 2 ^ (32 - (32 - (n : Int))).toNat) = ((ror x n).toNat : Int) := by
  have e : (32 - (n : Int)).toNat = 32 - n := by omega
  have e2 : (32 - (32 - (n : Int))).toNat = n := by omega
  rw [e, e2, i_shr, i_shl, i_or, ror, BitVec.or_comm]

theorem and31 (n : Nat) (h2 : 1 ≤ n) (h3 : n ≤ 31) : bits BinOp.and IntKind.u64 (IntKind.u64.wrap (-(n : Int))) 31 = 32 - (n : Int) := by
  have : ∀ n : Fin 32, 1 ≤ n.1 → bits BinOp.and IntKind.u64 (IntKind.u64.wrap (-(n.1 : Int))) 31 = 32 - (n.1 : Int) := by decide
  exact this ⟨n, by omega⟩ h2

set_option maxHeartbeats 400000 in
theorem rotate_any (x : BitVec 32) (n : Int) (w : World) (h2 : 1 ≤ n) (h3 : n ≤ 31) :
    Calls Tryd.prog 93 #[U x, .int .i64 (-n)] w fun e w' => e = .returned (U (ror x n.toNat)) ∧ w = w' := by
  have hx := x.isLt
  have ha : bits BinOp.and IntKind.u64 (IntKind.u64.wrap (-n)) 31 = 32 - n := by
    obtain ⟨m, rfl⟩ := Int.eq_ofNat_of_zero_le (a := n) (by omega)
    exact and31 m (by omega) (by omega)
  go_enter Tryd.func93, Tryd.ntmps93
  go_wp2
  go_ret
  refine ⟨ret_u32 ?_, rfl⟩
  obtain ⟨m, rfl⟩ := Int.eq_ofNat_of_zero_le (a := n) (by omega)
  exact ror_rot x m (by omega) (by omega)

set_option maxHeartbeats 400000 in
theorem right_any (x : BitVec 32) (n : Int) (w : World) (h2 : 1 ≤ n) (h3 : n ≤ 31) :
    Calls Tryd.prog 92 #[U x, .int .i64 n] w fun e w' => e = .returned (U (ror x n.toNat)) ∧ w = w' := by
  have hx := x.isLt
  go_enter Tryd.func92, Tryd.ntmps92
  go_wp2_with (go_at_call 93; refine (rotate_any _ _ _ h2 h3).mono ?_; rintro e w' ⟨rfl, rfl⟩)
  go_ret
  exact ⟨rfl, rfl⟩

/-- The same with the world on the other side: for regions that draw their order. -/
theorem right_st (x : BitVec 32) (n : Int) (w : World) (h2 : 1 ≤ n) (h3 : n ≤ 31) :
    Calls Tryd.prog 92 #[U x, .int .i64 n] w fun e w' => e = .returned (U (ror x n.toNat)) ∧ w' = w :=
  (right_any x n w h2 h3).mono fun _ _ ⟨h, k⟩ => ⟨h, k.symm⟩
theorem rright_st (x : BitVec 32) (n : Int) (w : World) (h2 : 1 ≤ n) (h3 : n ≤ 31) :
    Calls Tryd.prog 85 #[U x, .int .u64 n] w fun e w' => e = .returned (U (ror x n.toNat)) ∧ w' = w :=
  (rright_any x n w h2 h3).mono fun _ _ ⟨h, k⟩ => ⟨h, k.symm⟩
end Go.Proofs.YtiidohaibbdgeaaDoor
