/-
  A vault's text: numbers, checks, heads, frames; what is read back. Plain.
-/
import Derived.Test.YtiidohaibbdgeaaDoorDOn
namespace Go.Proofs.YtiidohaibbdgeaaDoor
open Go

theorem take_one {α : Type} {l : List α} {k : Nat} (h : k < l.length) (d : α) : l.take (k + 1) = l.take k ++ [l.getD k d] := by
  rw [List.take_add_one, List.getElem?_eq_getElem h]; simp [List.getD, List.getElem?_eq_getElem h]

/-- So many bytes of a number, the lowest first. -/
def lowL (x : Nat) (n : Nat) : Bs := (List.range n).map fun i => BitVec.ofNat 8 (x / 256 ^ i)
theorem lowL_length (x n : Nat) : (lowL x n).length = n := by simp [lowL]
theorem lowL_succ (x n : Nat) : lowL x (n + 1) = lowL x n ++ [BitVec.ofNat 8 (x / 256 ^ n)] := by simp [lowL, List.range_succ]
/-- The number of bytes. -/
def numL : Bs → Nat
  | [] => 0
  | c :: cs => c.toNat + 256 * numL cs
theorem numL_lt (b : Bs) : numL b < 256 ^ b.length := by
  induction b with
  | nil => simp [numL]
  | cons c cs ih =>
    have := c.isLt
    simp only [numL, List.length_cons, Nat.pow_succ]
    omega
theorem numL_snoc (b : Bs) (c : BitVec 8) : numL (b ++ [c]) = numL b + 256 ^ b.length * c.toNat := by
  induction b with
  | nil => simp [numL]
  | cons x b ih =>
    simp only [List.cons_append, numL, ih, List.length_cons, Nat.pow_succ, Nat.mul_add]
    rw [Nat.add_assoc, ← Nat.mul_assoc, Nat.mul_comm 256 (256 ^ b.length)]
theorem numL_lowL (x n : Nat) : numL (lowL x n) = x % 256 ^ n := by
  induction n with
  | zero => simp [lowL, numL, Nat.mod_one]
  | succ n ih =>
    rw [lowL_succ, numL_snoc, ih, lowL_length, BitVec.toNat_ofNat, Nat.pow_succ]
    exact (Nat.mod_mul (x := x) (a := 256 ^ n) (b := 256)).symm
theorem lowL_numL (b : Bs) : lowL (numL b) b.length = b := by
  induction b with
  | nil => rfl
  | cons c cs ih =>
    have hc := c.isLt
    rw [List.length_cons, lowL, List.range_succ_eq_map, List.map_cons, List.map_map]
    congr 1
    · simp only [numL, Nat.pow_zero, Nat.div_one]
      apply BitVec.eq_of_toNat_eq
      rw [BitVec.toNat_ofNat]
      omega
    · refine Eq.trans ?_ ih
      unfold lowL
      apply List.map_congr_left
      intro i _
      simp only [Function.comp, numL]
      congr 1
      rw [Nat.pow_succ, Nat.mul_comm (256 ^ i) 256, ← Nat.div_div_eq_div_mul]
      congr 1
      omega

/-- The check of bytes. -/
def checkL (b : Bs) : Bs := shaSum (shaSum b)
theorem shaSum_length (b : Bs) : (shaSum b).length = 32 := by simp [shaSum]
theorem checkL_length (b : Bs) : (checkL b).length = 32 := shaSum_length _
def headL (g n : Nat) : Bs := (lowL g 8 ++ lowL n 4) ++ checkL (lowL g 8 ++ lowL n 4)
def framedL (g k : Nat) (s : Bs) : Bs := checkL (lowL g 8 ++ lowL k 8 ++ s)
def frameL (g k : Nat) (r : Bs) : Bs := (lowL r.length 4 ++ r) ++ framedL g k (lowL r.length 4 ++ r)
def framesL (g : Nat) : Nat → List Bs → Bs
  | _, [] => []
  | k, r :: l => frameL g k r ++ framesL g (k + 1) l
theorem headL_length (g n : Nat) : (headL g n).length = 44 := by simp [headL, lowL_length, checkL_length]
theorem frameL_length (g k : Nat) (r : Bs) : (frameL g k r).length = r.length + 36 := by simp [frameL, framedL, lowL_length, checkL_length]; omega
def sizesL : List Bs → Nat
  | [] => 0
  | r :: l => (r.length + 36) + sizesL l
theorem framesL_length (g k : Nat) (l : List Bs) : (framesL g k l).length = sizesL l := by
  induction l generalizing k with
  | nil => rfl
  | cons r l ih => simp [framesL, sizesL, frameL_length, ih]
theorem framesL_append (g k : Nat) (l m : List Bs) : framesL g k (l ++ m) = framesL g k l ++ framesL g (k + l.length) m := by
  induction l generalizing k with
  | nil => simp [framesL]
  | cons r l ih => simp [framesL, ih]; congr 1; omega
theorem sizesL_append (l m : List Bs) : sizesL (l ++ m) = sizesL l + sizesL m := by
  induction l with
  | nil => simp [sizesL]
  | cons r l ih => simp [sizesL, ih]; omega

/-- The record of the frame at the front, if one stands whole. -/
def firstL (b : Bs) (g k : Nat) : Option Bs :=
  if b.length < 36 then none
  else if 32768 < numL (b.take 4) ∨ b.length < numL (b.take 4) + 36 then none
  else if framedL g k (b.take (numL (b.take 4) + 4)) = (b.drop (numL (b.take 4) + 4)).take 32 then some ((b.take (numL (b.take 4) + 4)).drop 4)
  else none
/-- The records of the frames at the front. -/
def wholeL (g : Nat) : Nat → Bs → Nat → List Bs
  | 0, _, _ => []
  | d + 1, b, k => match firstL b g k with
    | none => []
    | some r => r :: wholeL g d (b.drop (r.length + 36)) (k + 1)
def recordsL (g : Nat) (b : Bs) : List Bs := wholeL g (b.length + 1) b 0
/-- What a file has: its generation, its records; none: it is not sound. -/
def lookL (f : Nat) (b : Bs) : Option (Nat × List Bs) :=
  if b.length < 44 then none
  else if checkL (b.take 12) ≠ (b.drop 12).take 32 then none
  else if numL (b.take 8) < 1 ∨ 4611686018427387904 < numL (b.take 8) ∨ numL (b.take 8) % 2 ≠ f then none
  else if (recordsL (numL (b.take 8)) (b.drop 44)).length < numL ((b.drop 8).take 4) then none
  else some (numL (b.take 8), recordsL (numL (b.take 8)) (b.drop 44))
end Go.Proofs.YtiidohaibbdgeaaDoor
