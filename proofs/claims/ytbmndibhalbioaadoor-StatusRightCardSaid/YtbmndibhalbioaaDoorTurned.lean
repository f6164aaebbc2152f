/-
  Thirty-two bytes turned about, and their letters: the program's (slices.Reverse, octet.Turned).
-/
import Derived.Test.YtbmndibhalbioaaDoorHex
import Derived.BigRegion
namespace Go.Proofs.YtbmndibhalbioaaDoor
open Go Go.RowKit

def revCells (t : Nat → BitVec 8) (i : Nat) : Array Value := tabulate 32 fun q => B8 (if q < i ∨ 31 < q + i then t (31 - q) else t q)
theorem revCells_start (t : Nat → BitVec 8) : revCells t 0 = tabulate 32 fun q => B8 (t q) := tabulate_ext fun q hq => by rw [if_neg (by omega)]
theorem revCells_end (t : Nat → BitVec 8) : revCells t 16 = tabulate 32 fun q => B8 (t (31 - q)) := tabulate_ext fun q hq => by rw [if_pos (by omega)]
theorem revCells_get (t : Nat → BitVec 8) (i q : Nat) (hq : q < 32) (h1 : i ≤ q) (h2 : q + i ≤ 31) : (revCells t i)[q]? = some (B8 (t q)) := by
  rw [revCells, tabulate_get hq, if_neg (by omega)]
theorem revCells_set (t : Nat → BitVec 8) (i : Nat) (h : i < 16) : ((revCells t i).setIfInBounds i (B8 (t (31 - i)))).setIfInBounds (31 - i) (B8 (t i)) = revCells t (i + 1) := by
  unfold revCells
  rw [tabulate_set, tabulate_set]
  refine tabulate_ext fun q hq => ?_
  by_cases h1 : q = 31 - i
  · subst h1
    rw [if_pos rfl, if_pos (by omega)]
    congr 2; omega
  · rw [if_neg h1]
    by_cases h2 : q = i
    · subst h2; rw [if_pos rfl, if_pos (by omega)]
    · rw [if_neg h2]
      by_cases h3 : q < i ∨ 31 < q + i
      · rw [if_pos h3, if_pos (by omega)]
      · rw [if_neg h3, if_neg (by omega)]

set_option maxRecDepth 100000 in
set_option maxHeartbeats 1000000 in
theorem reverse_any (t : Nat → BitVec 8) (g c : Nat) (T : TypeId) (w : World) (h : Blk w g T (tabulate 32 fun q => B8 (t q))) :
    Calls Tryd.prog 33 #[.slice (some ⟨g, 0, none⟩) 32 c] w fun e w' => e = .returned (.tuple #[]) ∧ Blk w' g T (tabulate 32 fun q => B8 (t (31 - q))) ∧ Below g w w' := by
  rw [← revCells_start] at h
  go_enter Tryd.func33, Tryd.ntmps33
  go_wp2
  go_loopw [2, 3] (fun i j wr => ∃ k : Nat, k ≤ 16 ∧ i = .int .i64 k ∧ j = .int .i64 (31 - (k : Int)) ∧ Blk wr g T (revCells t k) ∧ Below g w wr) (fun i _ _ => 16 - (intOf i).toNat)
  case atStart => exact ⟨0, by omega, rfl, rfl, h, Below.refl _ _⟩
  case round =>
    obtain ⟨k, hk, rfl, rfl, hb, hB⟩ := hrel
    clear h
    by_cases hlt : k < 16
    · have c1 := hb.cell k
      rw [revCells_get t k k (by omega) (by omega) (by omega)] at c1
      have c2 := hb.cell (31 - k)
      rw [revCells_get t k (31 - k) (by omega) (by omega) (by omega)] at c2
      have hlen : ((31 : Int) - (k : Int)) = ((31 - k : Nat) : Int) := by omega
      have f1 := hb.free k
      have f2 := (hb.set k (.int .u8 ((t (31 - k)).toNat : Int))).free (31 - k)
      have c3 := (hb.set k (.int .u8 ((t (31 - k)).toNat : Int))).cell (31 - k)
      have c4 : ((revCells t k).setIfInBounds k (.int .u8 ((t (31 - k)).toNat : Int)))[31 - k]? = some (B8 (t (31 - k))) := by
        rw [Array.getElem?_setIfInBounds, if_neg (by omega)]; exact revCells_get t k (31 - k) (by omega) (by omega) (by omega)
      rw [c4] at c3
      clear c4
      have hki : (((31 - k : Nat) : Int)) < 32 := by omega
      rw [hlen]
      replace hlen := Lib.hid hlen
      go_wp2_with (fail)
      go_region
      go_wp2
      go_roundw
      case rel =>
        refine ⟨k + 1, by omega, by go_num, ?_, ?_, (((Below.drew hB).setCell (by simp) _).setCell (by simp) _)⟩
        · have := hlen.out; go_num
        · rw [← revCells_set t k hlt]
          exact ((hb.drew).set _ _).set _ _
      case measure => simp [intOf]; omega
    · obtain rfl : k = 16 := by omega
      go_wp2
      go_end0
      rw [revCells_end] at hb
      exact ⟨rfl, hb, hB⟩

/-- The thirty-two bytes of a hash, turned about. -/
def backL (t : List (BitVec 8)) : List (BitVec 8) := (List.range 32).map fun q => t.getD (31 - q) 0
theorem backL_length (t : List (BitVec 8)) : (backL t).length = 32 := by simp [backL]
theorem backL_get (t : List (BitVec 8)) (q : Nat) (h : q < 32) : (backL t).getD q 0 = t.getD (31 - q) 0 := by simp [backL, h]

/-- A hash as a value. -/
def HV (t : List (BitVec 8)) : Value := .agg (tabulate 32 fun i => B8 (t.getD i 0))

set_option maxRecDepth 100000 in
set_option maxHeartbeats 1000000 in
theorem turned_any (t : List (BitVec 8)) (w : World) :
    Calls Tryd.prog 26 #[HV t] w fun e w' => e = .returned (.string ⟨(hexL (backL t)).toArray⟩) ∧ Below w.heap.size w w' := by
  obtain ⟨i5, hi5, _, hs5, _⟩ := info_parts Tryd.info_u8
  have hsl := fun wx => sliceAt_whole (P := Tryd.prog) Tryd.underlying27 hi5 hs5 w.heap.size 0 wx
  go_enter Tryd.func26, Tryd.ntmps26
  have h1 : Blk (w.alloc (.cells (HV t).cells 27)) w.heap.size 27 (tabulate 32 fun q => B8 ((fun q => t.getD q 0) q)) := Blk.new w _ _
  have hB1 : Below w.heap.size w (w.alloc (.cells (HV t).cells 27)) := (Below.refl _ _).alloc (Nat.le_refl _) _
  go_upto_region 1 with (fail)
  generalize hw1 : World.alloc _ _ = w1
  change w.alloc (.cells (HV t).cells 27) = w1 at hw1
  rw [hw1] at h1 hB1
  clear hw1
  go_wp2_with (first
    | (go_at_call 33
       refine (reverse_any _ w.heap.size 32 27 w1 h1).mono ?_
       rintro e w2 ⟨rfl, h2, hB2⟩
       have hr : Reads w2 w2.heap.size (some ⟨w.heap.size, 0, none⟩) (backL t) := fun _ => ⟨w.heap.size, 0, rfl, h2.lt, fun j hj => by
         rw [backL_length] at hj
         rw [Nat.zero_add, h2.cell, tabulate_get hj, backL_get t j hj]⟩
       have hhx := hex_any (backL t) (some ⟨w.heap.size, 0, none⟩) 32 w2 hr (fun h => by have := backL_length t; rw [h] at this; simp at this) (by rw [backL_length]; omega)
       rw [backL_length] at hhx
       replace hhx := Lib.hid hhx)
    | (go_at_call 18
       refine hhx.out.mono ?_
       rintro e w3 ⟨rfl, hB3⟩))
  go_ret
  exact ⟨rfl, hB1.trans ((hB2.trans (hB3.mono (Nat.le_of_lt h2.lt))))⟩
end Go.Proofs.YtbmndibhalbioaaDoor
