/-
  Plain law: two histories have one text just if they are the same; two sums have the same letters just if they are the same.
-/
import Derived.Test.YtbmndibhalbioaaDoorRefOf
namespace Go.Proofs.YtbmndibhalbioaaDoor
open Go Go.RowKit

theorem digitOf_inj {a b : Nat} (ha : a < 16) (hb : b < 16) (h : digitOf a = digitOf b) : a = b := by
  have h1 := digitOf_int a ha
  have h2 := digitOf_int b hb
  rw [h, h2] at h1
  split at h1 <;> split at h1 <;> omega
theorem hexL_inj : ∀ {a b : List (BitVec 8)}, hexL a = hexL b → a = b
  | [], [], _ => rfl
  | [], _ :: _, h => by simp [hexL] at h
  | _ :: _, [], h => by simp [hexL] at h
  | x :: a, y :: b, h => by
    simp only [hexL, List.cons.injEq] at h
    obtain ⟨h1, h2, h3⟩ := h
    have hx := x.isLt
    have hy := y.isLt
    have e1 := digitOf_inj (by omega) (by omega) h1
    have e2 := digitOf_inj (by omega) (by omega) h2
    have e : x = y := BitVec.eq_of_toNat_eq (by omega)
    rw [e, hexL_inj h3]
theorem backL_inj {a b : List (BitVec 8)} (ha : a.length = 32) (hb : b.length = 32) (h : backL a = backL b) : a = b := by
  apply List.ext_getElem (by rw [ha, hb])
  intro i h1 h2
  have h3 : (backL a).getD (31 - i) 0 = (backL b).getD (31 - i) 0 := by rw [h]
  rw [backL_get a _ (by omega), backL_get b _ (by omega), show 31 - (31 - i) = i by omega] at h3
  simpa [List.getD, h1, h2] using h3

theorem dec_digits (u : Nat) : ∀ c ∈ Lib.decDigits u, 48 ≤ c.toNat ∧ c.toNat ≤ 57 := by
  induction u using Nat.strongRecOn with
  | _ u ih =>
    by_cases h : u < 10
    · rw [dec_small h]
      intro c hc
      rw [List.mem_singleton] at hc
      subst hc
      simp; omega
    · rw [dec_big h]
      intro c hc
      rcases List.mem_append.1 hc with hc | hc
      · exact ih _ (by omega) c hc
      · rw [List.mem_singleton] at hc
        subst hc
        simp; omega
theorem dec_ne (u : Nat) : Lib.decDigits u ≠ [] := by
  by_cases h : u < 10
  · rw [dec_small h]; simp
  · rw [dec_big h]; simp
theorem ofNat_inj {a b : Nat} (ha : a < 256) (hb : b < 256) (h : UInt8.ofNat a = UInt8.ofNat b) : a = b := by
  have := congrArg UInt8.toNat h
  simp at this
  omega
theorem dec_inj (u : Nat) : ∀ v, Lib.decDigits u = Lib.decDigits v → u = v := by
  induction u using Nat.strongRecOn with
  | _ u ih =>
    intro v h
    by_cases hu : u < 10
    · by_cases hv : v < 10
      · rw [dec_small hu, dec_small hv] at h
        simp only [List.cons.injEq, and_true] at h
        have := ofNat_inj (by omega) (by omega) h
        omega
      · rw [dec_small hu, dec_big hv] at h
        have hl := congrArg List.length h
        have := List.length_pos_iff.2 (dec_ne (v / 10))
        simp only [List.length_append, List.length_cons, List.length_nil] at hl
        omega
    · by_cases hv : v < 10
      · rw [dec_big hu, dec_small hv] at h
        have hl := congrArg List.length h
        have := List.length_pos_iff.2 (dec_ne (u / 10))
        simp only [List.length_append, List.length_cons, List.length_nil] at hl
        omega
      · rw [dec_big hu, dec_big hv] at h
        obtain ⟨h1, h2⟩ := List.append_inj' h rfl
        have e1 := ih _ (by omega) _ h1
        simp only [List.cons.injEq, and_true] at h2
        have := ofNat_inj (by omega) (by omega) h2
        omega
theorem itoa_letters (n : Int) : ∀ c ∈ Lib.itoa n, c ≠ 58 := by
  intro c hc h
  subst h
  by_cases hn : n < 0
  · rw [itoa_neg hn] at hc
    rcases List.mem_cons.1 hc with h | h
    · exact absurd h (by decide)
    · have := dec_digits _ _ h
      simp at this
  · rw [itoa_pos hn] at hc
    have := dec_digits _ _ hc
    simp at this
theorem itoa_inj {n k : Int} (h : Lib.itoa n = Lib.itoa k) : n = k := by
  by_cases hn : n < 0
  · by_cases hk : k < 0
    · rw [itoa_neg hn, itoa_neg hk] at h
      have := dec_inj _ _ (List.cons.inj h).2
      omega
    · rw [itoa_neg hn, itoa_pos hk] at h
      have := dec_digits k.toNat 45 (by rw [← h]; simp)
      simp at this
  · by_cases hk : k < 0
    · rw [itoa_pos hn, itoa_neg hk] at h
      have := dec_digits n.toNat 45 (by rw [h]; simp)
      simp at this
    · rw [itoa_pos hn, itoa_pos hk] at h
      have := dec_inj _ _ h
      omega
theorem colon_split : ∀ {a b s t : List UInt8}, (∀ c ∈ a, c ≠ 58) → (∀ c ∈ b, c ≠ 58) → a ++ 58 :: s = b ++ 58 :: t → a = b ∧ s = t
  | [], [], _, _, _, _, h => by simpa using h
  | [], y :: b, _, _, _, hb, h => by
    simp only [List.nil_append, List.cons_append, List.cons.injEq] at h
    exact absurd h.1.symm (hb y (by simp))
  | x :: a, [], _, _, ha, _, h => by
    simp only [List.nil_append, List.cons_append, List.cons.injEq] at h
    exact absurd h.1 (ha x (by simp))
  | x :: a, y :: b, s, t, ha, hb, h => by
    simp only [List.cons_append, List.cons.injEq] at h
    obtain ⟨h1, h2⟩ := colon_split (fun c hc => ha c (by simp [hc])) (fun c hc => hb c (by simp [hc])) h.2
    exact ⟨by rw [h.1, h1], h2⟩
theorem entText_inj {e f : Ent} (he : e.ok) (hf : f.ok) {s t : List UInt8} (h : entText e ++ s = entText f ++ t) : e = f ∧ s = t := by
  unfold entText at h
  simp only [List.append_assoc, List.cons_append, List.nil_append] at h
  obtain ⟨h1, h2⟩ := List.append_inj h (by rw [backText_length, backText_length])
  have h3 := backL_inj he.1 hf.1 (hexL_inj h1)
  obtain ⟨h4, h5⟩ := colon_split (itoa_letters _) (itoa_letters _) (List.cons.inj h2).2
  have h6 := itoa_inj h4
  obtain ⟨a, b⟩ := e
  obtain ⟨c, d⟩ := f
  exact ⟨by simp only at h3 h6; rw [h3, h6], h5⟩
theorem textOf_inj : ∀ {l m : List Ent}, Oks l → Oks m → textOf l = textOf m → l = m
  | [], [], _, _, _ => rfl
  | [], f :: m, _, _, h => by simp [textOf, entText] at h
  | e :: l, [], _, _, h => by simp [textOf, entText] at h
  | e :: l, f :: m, hl, hm, h => by
    obtain ⟨h1, h2⟩ := entText_inj (hl e (by simp)) (hm f (by simp)) h
    rw [h1, textOf_inj (fun x hx => hl x (by simp [hx])) (fun x hx => hm x (by simp [hx])) h2]
theorem ofL_nil : ofL [] = [] := rfl
theorem ofL_ne {l : List Ent} (h : 0 < l.length) : ofL l ≠ [] := by
  rw [ofL, if_neg (by omega)]
  intro e
  have := congrArg List.length e
  rw [hexL_length, sumL_length] at this
  simp at this
theorem ofL_iff {l m : List Ent} (hl : 0 < l.length) (hm : 0 < m.length) : ofL l = ofL m ↔ sumL ((textOf l).map UB) = sumL ((textOf m).map UB) := by
  rw [ofL, if_neg (by omega), ofL, if_neg (by omega)]
  exact ⟨hexL_inj, fun h => by rw [h]⟩
theorem ofL_short {l m : List Ent} (h : l.length = 0 ∨ m.length = 0) : ofL l = ofL m ↔ l = m := by
  constructor
  · intro e
    rcases Nat.eq_zero_or_pos l.length with hl | hl
    · have hl' := List.eq_nil_of_length_eq_zero hl
      subst hl'
      rcases Nat.eq_zero_or_pos m.length with hm | hm
      · exact (List.eq_nil_of_length_eq_zero hm).symm
      · exact absurd e.symm (by rw [ofL_nil]; exact ofL_ne hm)
    · have hm : m.length = 0 := by omega
      have hm' := List.eq_nil_of_length_eq_zero hm
      subst hm'
      exact absurd e (by rw [ofL_nil]; exact ofL_ne hl)
  · intro e; rw [e]
theorem str_eq_iff (a b : List UInt8) : (⟨a.toArray⟩ : ByteArray) = ⟨b.toArray⟩ ↔ a = b := by
  constructor
  · intro h
    have := congrArg (fun s : ByteArray => s.data.toList) h
    simpa using this
  · intro h; rw [h]
end Go.Proofs.YtbmndibhalbioaaDoor
