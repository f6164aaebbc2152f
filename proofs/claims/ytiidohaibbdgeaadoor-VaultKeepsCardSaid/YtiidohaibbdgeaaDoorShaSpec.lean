/-
  The words of SHA-256 in plain Lean: what one piece of a text turns, and what a whole text comes to. No program in sight.
-/
import Derived.Laws.BitsAllLaws
namespace Go.Proofs.YtiidohaibbdgeaaDoor
open Go

/-- A 32-bit word as a value. -/
abbrev U (x : BitVec 32) : Value := .int .u32 (x.toNat : Int)
abbrev B8 (x : BitVec 8) : Value := .int .u8 (x.toNat : Int)

theorem i_xor (a b : BitVec 32) : bits .xor .u32 (a.toNat : Int) (b.toNat : Int) = ((a ^^^ b).toNat : Int) := by
  rw [u32_xor_nat _ _ a.isLt b.isLt, BitVec.toNat_xor]
theorem i_and (a b : BitVec 32) : bits .and .u32 (a.toNat : Int) (b.toNat : Int) = ((a &&& b).toNat : Int) := by
  rw [u32_and_nat _ _ a.isLt b.isLt, BitVec.toNat_and]
theorem i_or (a b : BitVec 32) : bits .or .u32 (a.toNat : Int) (b.toNat : Int) = ((a ||| b).toNat : Int) := by
  rw [u32_or_nat _ _ a.isLt b.isLt, BitVec.toNat_or]
theorem i_add (a b : BitVec 32) : ((a.toNat : Int) + (b.toNat : Int)) % 4294967296 = ((a + b).toNat : Int) := by
  rw [BitVec.toNat_add]; omega
theorem i_shr (a : BitVec 32) (n : Nat) : (a.toNat : Int) / 2 ^ n = ((a >>> n).toNat : Int) := by
  rw [BitVec.toNat_ushiftRight, Nat.shiftRight_eq_div_pow]
  rw [Int.natCast_ediv]; simp
theorem i_shl (a : BitVec 32) (n : Nat) : ((a.toNat : Int) * 2 ^ n) % 4294967296 = ((a <<< n).toNat : Int) := by
  rw [BitVec.toNat_shiftLeft, Nat.shiftLeft_eq]
  rw [Int.natCast_emod, Int.natCast_mul]; simp

theorem i_shl8 (a : BitVec 32) : ((a.toNat : Int) * (256 : Int)) % (4294967296 : Int) = ((a <<< (8 : Nat)).toNat : Int) := i_shl a 8
theorem i_shr3 (a : BitVec 32) : (a.toNat : Int) / (8 : Int) = ((a >>> (3 : Nat)).toNat : Int) := i_shr a 3
theorem i_shr10 (a : BitVec 32) : (a.toNat : Int) / (1024 : Int) = ((a >>> (10 : Nat)).toNat : Int) := i_shr a 10
theorem i_add3 (a b c : BitVec 32) : ((a.toNat : Int) + (b.toNat : Int) + (c.toNat : Int)) % 4294967296 = ((a + b + c).toNat : Int) := by
  simp only [BitVec.toNat_add]; omega
theorem i_add4 (a b c d : BitVec 32) : ((a.toNat : Int) + (b.toNat : Int) + (c.toNat : Int) + (d.toNat : Int)) % 4294967296 = ((a + b + c + d).toNat : Int) := by
  simp only [BitVec.toNat_add]; omega
theorem i_add5 (a b c d e : BitVec 32) : ((a.toNat : Int) + (b.toNat : Int) + (c.toNat : Int) + (d.toNat : Int) + (e.toNat : Int)) % 4294967296 = ((a + b + c + d + e).toNat : Int) := by
  simp only [BitVec.toNat_add]; omega
theorem i_not (a : BitVec 32) : bits .xor .u32 IntKind.u32.max (a.toNat : Int) = ((~~~a).toNat : Int) := by
  have h := i_xor (BitVec.allOnes 32) a
  rw [BitVec.allOnes_xor] at h
  exact h
theorem i_wide (x : BitVec 8) : (x.toNat : Int) = ((x.setWidth 32).toNat : Int) := by
  rw [BitVec.toNat_setWidth]; have := x.isLt; omega

def ror (x : BitVec 32) (n : Nat) : BitVec 32 := x >>> n ||| x <<< (32 - n)
def sig0 (x : BitVec 32) : BitVec 32 := ror x 7 ^^^ ror x 18 ^^^ x >>> 3
def sig1 (x : BitVec 32) : BitVec 32 := ror x 17 ^^^ ror x 19 ^^^ x >>> 10
def big0 (x : BitVec 32) : BitVec 32 := ror x 2 ^^^ ror x 13 ^^^ ror x 22
def big1 (x : BitVec 32) : BitVec 32 := ror x 6 ^^^ ror x 11 ^^^ ror x 25
def ch (e f g : BitVec 32) : BitVec 32 := g ^^^ (e &&& (f ^^^ g))
def maj (a b c : BitVec 32) : BitVec 32 := (a &&& b) ||| (c &&& (a ||| b))
theorem ch_eq (e f g : BitVec 32) : (e &&& f) ^^^ (~~~e &&& g) = ch e f g := by
  unfold ch
  apply BitVec.eq_of_getLsbD_eq
  intro i hi
  simp only [BitVec.getLsbD_xor, BitVec.getLsbD_and, BitVec.getLsbD_not, hi, decide_true, Bool.true_and]
  cases e.getLsbD i <;> cases f.getLsbD i <;> cases g.getLsbD i <;> rfl
theorem maj_eq (a b c : BitVec 32) : (a &&& b) ^^^ (a &&& c) ^^^ (b &&& c) = maj a b c := by
  unfold maj
  apply BitVec.eq_of_getLsbD_eq
  intro i _
  simp only [BitVec.getLsbD_xor, BitVec.getLsbD_and, BitVec.getLsbD_or]
  cases a.getLsbD i <;> cases b.getLsbD i <;> cases c.getLsbD i <;> rfl

/-- So many of the four bytes of a word, the first one highest. -/
def part (p : Nat → BitVec 8) (t : Nat) : Nat → BitVec 32
  | 0 => 0
  | j + 1 => part p t j <<< 8 ||| (p (4 * t + j)).setWidth 32
def word4 (p : Nat → BitVec 8) (t : Nat) : BitVec 32 := part p t 4

/-- The 64 words of a piece. -/
def sched (p : Nat → BitVec 8) (t : Nat) : BitVec 32 :=
  if _h : t < 16 then word4 p t else sched p (t - 16) + sched p (t - 7) + sig0 (sched p (t - 15)) + sig1 (sched p (t - 2))
termination_by t

theorem sched_low (p : Nat → BitVec 8) (t : Nat) (h : t < 16) : sched p t = word4 p t := by rw [sched, dif_pos h]
theorem sched_high (p : Nat → BitVec 8) (t : Nat) (h : 16 ≤ t) : sched p t = sched p (t - 16) + sched p (t - 7) + sig0 (sched p (t - 15)) + sig1 (sched p (t - 2)) := by rw [sched, dif_neg (by omega)]

/-- The eight words. -/
structure Eight where
  a : BitVec 32
  b : BitVec 32
  c : BitVec 32
  d : BitVec 32
  e : BitVec 32
  f : BitVec 32
  g : BitVec 32
  h : BitVec 32

def Eight.cells (s : Eight) : Array Value := #[U s.a, U s.b, U s.c, U s.d, U s.e, U s.f, U s.g, U s.h]

def Eight.at_ (s : Eight) : Nat → BitVec 32
  | 0 => s.a | 1 => s.b | 2 => s.c | 3 => s.d | 4 => s.e | 5 => s.f | 6 => s.g | _ => s.h

def one (k w : BitVec 32) (s : Eight) : BitVec 32 := s.h + big1 s.e + ch s.e s.f s.g + k + w
def two (s : Eight) : BitVec 32 := big0 s.a + maj s.a s.b s.c
def turn (k w : BitVec 32) (s : Eight) : Eight := ⟨one k w s + two s, s.a, s.b, s.c, s.d + one k w s, s.e, s.f, s.g⟩

/-- The table. -/
def tab : List (BitVec 32) := [0x428a2f98, 0x71374491, 0xb5c0fbcf, 0xe9b5dba5, 0x3956c25b, 0x59f111f1, 0x923f82a4, 0xab1c5ed5,
  0xd807aa98, 0x12835b01, 0x243185be, 0x550c7dc3, 0x72be5d74, 0x80deb1fe, 0x9bdc06a7, 0xc19bf174,
  0xe49b69c1, 0xefbe4786, 0x0fc19dc6, 0x240ca1cc, 0x2de92c6f, 0x4a7484aa, 0x5cb0a9dc, 0x76f988da,
  0x983e5152, 0xa831c66d, 0xb00327c8, 0xbf597fc7, 0xc6e00bf3, 0xd5a79147, 0x06ca6351, 0x14292967,
  0x27b70a85, 0x2e1b2138, 0x4d2c6dfc, 0x53380d13, 0x650a7354, 0x766a0abb, 0x81c2c92e, 0x92722c85,
  0xa2bfe8a1, 0xa81a664b, 0xc24b8b70, 0xc76c51a3, 0xd192e819, 0xd6990624, 0xf40e3585, 0x106aa070,
  0x19a4c116, 0x1e376c08, 0x2748774c, 0x34b0bcb5, 0x391c0cb3, 0x4ed8aa4a, 0x5b9cca4f, 0x682e6ff3,
  0x748f82ee, 0x78a5636f, 0x84c87814, 0x8cc70208, 0x90befffa, 0xa4506ceb, 0xbef9a3f7, 0xc67178f2]
def kk (t : Nat) : BitVec 32 := tab.getD t 0

/-- So many turns. -/
def turns (p : Nat → BitVec 8) (s : Eight) : Nat → Eight
  | 0 => s
  | t + 1 => turn (kk t) (sched p t) (turns p s t)

def plus (s r : Eight) : Eight := ⟨s.a + r.a, s.b + r.b, s.c + r.c, s.d + r.d, s.e + r.e, s.f + r.f, s.g + r.g, s.h + r.h⟩

/-- The words behind one piece more. -/
def press (s : Eight) (p : Nat → BitVec 8) : Eight := plus s (turns p s 64)

def iv : Eight := ⟨0x6a09e667, 0xbb67ae85, 0x3c6ef372, 0xa54ff53a, 0x510e527f, 0x9b05688c, 0x1f83d9ab, 0x5be0cd19⟩

/-- The words behind so many whole pieces of a text. -/
def pieces (m : List (BitVec 8)) : Nat → Eight
  | 0 => iv
  | k + 1 => press (pieces m k) (fun i => m.getD (64 * k + i) 0)


theorem word4_eq (p : Nat → BitVec 8) (t : Nat) : ((p (4 * t)).setWidth 32 <<< (24 : Nat) ||| (p (4 * t + 1)).setWidth 32 <<< (16 : Nat) ||| (p (4 * t + 2)).setWidth 32 <<< (8 : Nat) ||| (p (4 * t + 3)).setWidth 32) = word4 p t := by
  simp only [word4, part, BitVec.shiftLeft_or_distrib, Nat.add_zero]
  rw [← BitVec.shiftLeft_add, ← BitVec.shiftLeft_add, ← BitVec.shiftLeft_add, ← BitVec.shiftLeft_add, ← BitVec.shiftLeft_add, ← BitVec.shiftLeft_add]
  simp
theorem i_high (x : BitVec 8) (n : Nat) (h : n ≤ 24) : ((x.toNat : Int) * 2 ^ n) = (((x.setWidth 32) <<< n).toNat : Int) := by
  rw [← i_shl, ← i_wide]
  have h1 := x.isLt
  have h2 : (2 : Int) ^ n ≤ 2 ^ 24 := by
    have : (2 : Nat) ^ n ≤ 2 ^ 24 := Nat.pow_le_pow_right (by omega) h
    exact_mod_cast this
  have h3 : (0 : Int) ≤ 2 ^ n := by
    have : (0 : Nat) ≤ 2 ^ n := Nat.zero_le _
    exact_mod_cast this
  have h4 : (x.toNat : Int) * 2 ^ n ≤ 255 * 2 ^ 24 := Int.mul_le_mul (by omega) h2 h3 (by omega)
  have h5 : 0 ≤ (x.toNat : Int) * 2 ^ n := Int.mul_nonneg (by omega) h3
  omega
theorem word_ref (p : Nat → BitVec 8) (t : Nat) : bits .or .u32 (bits .or .u32 (bits .or .u32 (((p (4 * t)).toNat : Int) * 16777216) (((p (4 * t + 1)).toNat : Int) * 65536)) (((p (4 * t + 2)).toNat : Int) * 256)) ((p (4 * t + 3)).toNat : Int) = ((word4 p t).toNat : Int) := by
  have e1 : (16777216 : Int) = 2 ^ 24 := by decide
  have e2 : (65536 : Int) = 2 ^ 16 := by decide
  have e3 : (256 : Int) = 2 ^ 8 := by decide
  rw [e1, e2, e3, i_high _ 24 (by omega), i_high _ 16 (by omega), i_high _ 8 (by omega), i_wide (p (4 * t + 3)), i_or, i_or, i_or, word4_eq]
end Go.Proofs.YtiidohaibbdgeaaDoor
