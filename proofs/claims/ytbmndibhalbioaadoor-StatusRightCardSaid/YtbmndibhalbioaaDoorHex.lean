/-
  A text of hexadecimal letters: the program's (octet.Hex, octet.Turned).
-/
import Derived.Test.YtbmndibhalbioaaDoorBuilder
namespace Go.Proofs.YtbmndibhalbioaaDoor
open Go Go.RowKit

def digitOf (n : Nat) : UInt8 := if n < 10 then UInt8.ofNat (48 + n) else UInt8.ofNat (87 + n)
/-- The letters of bytes. -/
def hexL : List (BitVec 8) → List UInt8
  | [] => []
  | x :: l => digitOf (x.toNat / 16) :: digitOf (x.toNat % 16) :: hexL l
theorem hexL_append (a b : List (BitVec 8)) : hexL (a ++ b) = hexL a ++ hexL b := by
  induction a with
  | nil => rfl
  | cons x a ih => simp [hexL, ih]
theorem hexL_length (a : List (BitVec 8)) : (hexL a).length = 2 * a.length := by
  induction a with
  | nil => rfl
  | cons x a ih => simp [hexL, ih]; omega
theorem take_one {α : Type} {l : List α} {k : Nat} (h : k < l.length) (d : α) : l.take (k + 1) = l.take k ++ [l.getD k d] := by
  rw [List.take_add_one, List.getElem?_eq_getElem h]; simp [List.getD, List.getElem?_eq_getElem h]
theorem digitOf_int (n : Nat) (h : n < 16) : ((digitOf n).toNat : Int) = if n < 10 then 48 + (n : Int) else 87 + (n : Int) := by
  unfold digitOf
  split <;> simp <;> omega

/-- The sixteen letters. -/
theorem letter_at (n : Nat) (h : n < (⟨#[48, 49, 50, 51, 52, 53, 54, 55, 56, 57, 97, 98, 99, 100, 101, 102]⟩ : ByteArray).size) :
    (⟨#[48, 49, 50, 51, 52, 53, 54, 55, 56, 57, 97, 98, 99, 100, 101, 102]⟩ : ByteArray)[n]'h = digitOf n := by
  have h16 : n < 16 := h
  have : n = 0 ∨ n = 1 ∨ n = 2 ∨ n = 3 ∨ n = 4 ∨ n = 5 ∨ n = 6 ∨ n = 7 ∨ n = 8 ∨ n = 9 ∨ n = 10 ∨ n = 11 ∨ n = 12 ∨ n = 13 ∨ n = 14 ∨ n = 15 := by omega
  rcases this with h | h | h | h | h | h | h | h | h | h | h | h | h | h | h | h <;> subst h <;> rfl

set_option maxRecDepth 100000 in
set_option maxHeartbeats 1000000 in
theorem hex_any (xs : List (BitVec 8)) (a : Option Addr) (cap : Nat) (w : World) (hr : Reads w w.heap.size a xs) (hx : xs ≠ []) (hlen : xs.length ≤ 1099511627776) :
    Calls Tryd.prog 18 #[.slice a xs.length cap] w fun e w' => e = .returned (.string ⟨(hexL xs).toArray⟩) ∧ Below w.heap.size w w' := by
  have hr0 := Lib.hid hr
  clear hr
  have hl : 0 < xs.length := List.length_pos_iff.2 hx
  go_enter Tryd.func18, Tryd.ntmps18
  go_upto_region 2 with (fail)
  have hb0 : IsB 38 w.heap.size w.heap.size (hexL (xs.take 0)) (w.alloc (.cells #[.pointer none, .slice none 0 0] 38)) := by
    refine .inl ⟨Nat.le_refl _, .slice none 0 0, Blk.new w _ _, World.ownsRow_nil _ _ _ _, by simp [Value.ownBlock]⟩
  have hB0 : Below w.heap.size w (w.alloc (.cells #[.pointer none, .slice none 0 0] 38)) := (Below.refl _ _).alloc (Nat.le_refl _) _
  generalize hw1 : World.alloc _ _ = w1
  change w.alloc (.cells #[.pointer none, .slice none 0 0] 38) = w1 at hw1
  rw [hw1] at hb0 hB0
  clear hw1
  go_wp2_with (fail)
  go_loopw [8] (fun i wr => ∃ k : Nat, k ≤ xs.length ∧ i = .int .i64 k ∧ IsB 38 w.heap.size w.heap.size (hexL (xs.take k)) wr ∧ Below w.heap.size w wr) (fun i _ => xs.length - (intOf i).toNat)
  case atStart => exact ⟨0, by omega, rfl, hb0, hB0⟩
  case round =>
    obtain ⟨k, hk, rfl, hb, hB⟩ := hrel
    clear hb0 hB0
    by_cases hlt : k < xs.length
    · obtain ⟨b, off, rfl, hbl, hcl⟩ := hr0.out hl
      have hc := (hB.cell (p := ⟨b, off + k, none⟩) hbl).trans (hcl k hlt)
      have ht := take_one hlt (0 : BitVec 8)
      generalize xs.getD k 0 = x at *
      have hx8 := x.isLt
      replace ht := Lib.hid ht
      have hl1 := hexL_length (xs.take k)
      rw [List.length_take_of_le hk] at hl1
      replace hl1 := Lib.hid hl1
      go_wp2_with (first
        | (go_at_call 29
           first
             | (refine (writeByte_any begins_self w.heap.size w.heap.size _ (digitOf (x.toNat / 16)) _ (by rw [letter_at]) wr hb (by have := hl1.out; omega) hB.size).mono ?_
                rintro e w1 ⟨rfl, hb1, hB1, -⟩)
             | (refine (writeByte_any begins_self w.heap.size w.heap.size _ (digitOf (x.toNat % 16)) _ (by rw [letter_at]) w1 (.inr hb1) (by rw [List.length_append]; have := hl1.out; simp; omega) (Nat.le_trans hB.size hB1.size)).mono ?_
                rintro e w2 ⟨rfl, hb2, hB2, -⟩)))
      go_roundw
      case rel =>
        refine ⟨k + 1, by omega, by go_num, ?_, hB.trans (hB1.trans hB2)⟩
        rw [ht.out, hexL_append]
        exact .inr (by simpa [hexL] using hb2)
      case measure => simp [intOf]; omega
    · obtain rfl : k = xs.length := by omega
      rw [List.take_length] at hb
      have hne : hexL xs ≠ [] := fun h => by have := hexL_length xs; rw [h] at this; simp at this; omega
      have hst : ∀ wr, ∃ p, IsB 38 w.heap.size w.heap.size (hexL xs) wr → BAt 38 w.heap.size w.heap.size p (hexL xs) wr := fun wr => by
        by_cases h : BAt 38 w.heap.size w.heap.size (.pointer none) (hexL xs) wr
        · exact ⟨_, fun _ => h⟩
        · exact ⟨_, fun h' => h'.resolve_left h⟩
      obtain ⟨p, hp⟩ := hst wr
      go_wp2_with (go_at_call 17; refine (string_any w.heap.size w.heap.size p (hexL xs) wr (hp hb) hne).mono ?_; rintro e w1 ⟨rfl, hB1⟩)
      go_ret
      exact ⟨rfl, hB.trans hB1⟩
end Go.Proofs.YtbmndibhalbioaaDoor
