/-
  What bytes behind a text do to the words of its whole pieces: plain Lean, no program in sight.
-/
import Derived.Test.YtiidohaibbdgeaaDoorShaSpec
namespace Go.Proofs.YtiidohaibbdgeaaDoor

theorem part_congr {p q : Nat → BitVec 8} (h : ∀ i, i < 64 → p i = q i) (t : Nat) (ht : t < 16) : ∀ j, j ≤ 4 → part p t j = part q t j
  | 0, _ => rfl
  | j + 1, hj => by rw [part, part, part_congr h t ht j (by omega), h (4 * t + j) (by omega)]
theorem sched_congr {p q : Nat → BitVec 8} (h : ∀ i, i < 64 → p i = q i) (t : Nat) : sched p t = sched q t := by
  induction t using Nat.strongRecOn with
  | _ t ih =>
    by_cases h16 : t < 16
    · rw [sched_low p t h16, sched_low q t h16, word4, word4, part_congr h t h16 4 (by omega)]
    · rw [sched_high p t (by omega), sched_high q t (by omega), ih (t - 16) (by omega), ih (t - 7) (by omega), ih (t - 15) (by omega), ih (t - 2) (by omega)]
theorem turns_congr {p q : Nat → BitVec 8} (h : ∀ i, i < 64 → p i = q i) (s : Eight) : ∀ t, turns p s t = turns q s t
  | 0 => rfl
  | t + 1 => by rw [turns, turns, turns_congr h s t, sched_congr h]
theorem press_congr {p q : Nat → BitVec 8} (h : ∀ i, i < 64 → p i = q i) (s : Eight) : press s p = press s q := by rw [press, press, turns_congr h]

theorem pieces_append (M Y : List (BitVec 8)) : ∀ k, 64 * k ≤ M.length → pieces (M ++ Y) k = pieces M k
  | 0, _ => rfl
  | k + 1, h => by
    rw [pieces, pieces, pieces_append M Y k (by omega)]
    refine press_congr (fun i hi => ?_) _
    simp only [List.getD, List.getElem?_append]
    rw [if_pos (by omega)]

/-- The bytes of a piece that is not full yet. -/
def PcOf (M : List (BitVec 8)) (pc : Nat → BitVec 8) : Prop := ∀ i, i < M.length % 64 → pc i = M.getD (64 * (M.length / 64) + i) 0
/-- The piece with bytes behind. -/
def pcMore (off k : Nat) (Y : List (BitVec 8)) (pc : Nat → BitVec 8) (i : Nat) : BitVec 8 := if off ≤ i ∧ i < off + k then Y.getD (i - off) 0 else pc i

theorem pcMore_at {M Y : List (BitVec 8)} {pc : Nat → BitVec 8} (h : PcOf M pc) {k : Nat} (i : Nat) (hi : i < M.length % 64 + k) :
    pcMore (M.length % 64) k Y pc i = (M ++ Y.take k).getD (64 * (M.length / 64) + i) 0 := by
  unfold pcMore
  simp only [List.getD, List.getElem?_append, List.getElem?_take]
  by_cases h1 : i < M.length % 64
  · rw [if_neg (by omega), if_pos (by omega)]
    have := h i h1
    simpa [List.getD] using this
  · rw [if_pos (by omega), if_neg (by omega), if_pos (by omega)]
    have e : 64 * (M.length / 64) + i - M.length = i - M.length % 64 := by omega
    rw [e]

theorem add_full {M Y : List (BitVec 8)} {pc : Nat → BitVec 8} (h : PcOf M pc) {k : Nat} (hk : k ≤ Y.length) (hf : M.length % 64 + k = 64) :
    pieces (M ++ Y.take k) ((M ++ Y.take k).length / 64) = press (pieces M (M.length / 64)) (pcMore (M.length % 64) k Y pc) := by
  have hl : (M ++ Y.take k).length = M.length + k := by simp; omega
  have e : (M ++ Y.take k).length / 64 = M.length / 64 + 1 := by rw [hl]; omega
  rw [e, pieces, pieces_append M _ _ (by omega)]
  exact press_congr (fun i hi => (pcMore_at h i (by omega)).symm) _
theorem add_part {M Y : List (BitVec 8)} {k : Nat} (hk : k ≤ Y.length) (hf : M.length % 64 + k < 64) :
    pieces (M ++ Y.take k) ((M ++ Y.take k).length / 64) = pieces M (M.length / 64) := by
  have hl : (M ++ Y.take k).length = M.length + k := by simp; omega
  have e : (M ++ Y.take k).length / 64 = M.length / 64 := by rw [hl]; omega
  rw [e, pieces_append M _ _ (by omega)]
theorem add_pc {M Y : List (BitVec 8)} {pc : Nat → BitVec 8} (h : PcOf M pc) {k : Nat} (hk : k ≤ Y.length) (hf : M.length % 64 + k ≤ 64) :
    PcOf (M ++ Y.take k) (pcMore (M.length % 64) k Y pc) := by
  have hl : (M ++ Y.take k).length = M.length + k := by simp; omega
  intro i hi
  rw [hl] at hi ⊢
  by_cases h64 : M.length % 64 + k = 64
  · omega
  · rw [pcMore_at h i (by omega)]
    have e : (M.length + k) / 64 = M.length / 64 := by omega
    rw [e]
theorem take_more (m xs : List (BitVec 8)) (c k : Nat) : (m ++ xs.take c) ++ (xs.drop c).take k = m ++ xs.take (c + k) := by
  rw [List.append_assoc, List.take_add]

/-- How many noughts are put behind. -/
def noughts (n : Nat) : Nat := (119 - n % 64) % 64
theorem noughts_fit (n : Nat) : (n + 1 + noughts n) % 64 = 56 ∧ noughts n ≤ 63 := by unfold noughts; omega
theorem noughts_first (n z : Nat) (h : z < noughts n) : (n + 1 + z) % 64 ≠ 56 := by unfold noughts at h; omega
/-- A length in bits, the highest byte first. -/
def bits8 (n : Nat) : List (BitVec 8) := (List.range 8).map fun i => BitVec.ofNat 8 (8 * n / 2 ^ (56 - 8 * i))
/-- The text with what is put behind it. -/
def padded (m : List (BitVec 8)) : List (BitVec 8) := m ++ [0x80] ++ List.replicate (noughts m.length) 0 ++ bits8 m.length
/-- The words that a text comes to. -/
def lastWords (m : List (BitVec 8)) : Eight := pieces (padded m) ((padded m).length / 64)
/-- The sum of a text, byte by byte. -/
def sumByte (m : List (BitVec 8)) (i : Nat) : BitVec 8 := ((lastWords m).at_ (i / 4) >>> (24 - 8 * (i % 4))).setWidth 8
def shaSum (m : List (BitVec 8)) : List (BitVec 8) := (List.range 32).map (sumByte m)
theorem padded_length (m : List (BitVec 8)) : (padded m).length = m.length + 1 + noughts m.length + 8 := by simp [padded, bits8]; omega
end Go.Proofs.YtiidohaibbdgeaaDoor
