/-
  Plain law: a history that may be is one still without any of its entries; and none is with one of them twice.
-/
import Derived.Test.YtbmndibhalbioaaDoorPlays
namespace Go.Proofs.YtbmndibhalbioaaDoor
open Go Go.RowKit

theorem entAt_ge {l : List Ent} {j : Nat} (h : j < l.length) : entAt l j = l[j] := by simp [entAt, List.getD, h]
theorem maybe_iff (l : List Ent) : MayBe l ↔ (∀ i, i < l.length → 1 ≤ (entAt l i).h) ∧ (∀ i j, i ≤ j → j < l.length → (entAt l i).h ≤ (entAt l j).h) ∧ (∀ i j, i < j → j < l.length → (entAt l i).tx ≠ (entAt l j).tx) := by
  constructor
  · intro h
    refine ⟨fun i hi => (h i hi).1, ?_, fun i j hij hj => (h j hj).2.2 i hij⟩
    intro i j hij
    induction j with
    | zero => intro _; have : i = 0 := by omega
              subst this; exact Int.le_refl _
    | succ j ih =>
      intro hj
      rcases Nat.lt_or_ge i (j + 1) with h1 | h1
      · exact Int.le_trans (ih (by omega) (by omega)) (by have := (h (j + 1) hj).2.1 (by omega); simpa using this)
      · have : i = j + 1 := by omega
        subst this; exact Int.le_refl _
  · rintro ⟨h1, h2, h3⟩ i hi
    exact ⟨h1 i hi, fun h0 => h2 (i - 1) i (by omega) hi, fun k hk => h3 k i hk hi⟩

/-- Without the k-th. -/
def less (l : List Ent) (k : Nat) : List Ent := l.take k ++ l.drop (k + 1)
theorem less_length {l : List Ent} {k : Nat} (hk : k < l.length) : (less l k).length = l.length - 1 := by
  simp [less]; omega
/-- The place that it had. -/
def was (k i : Nat) : Nat := if i < k then i else i + 1
theorem less_at {l : List Ent} {k i : Nat} (hk : k < l.length) (_ : i < l.length - 1) : entAt (less l k) i = entAt l (was k i) := by
  unfold was less
  split
  · rename_i h
    have h1 : i < min k l.length := by omega
    simp only [entAt, List.getD, List.getElem?_append, List.length_take, h1, if_true, List.getElem?_take, h]
  · rename_i h
    have h1 : ¬ i < min k l.length := by omega
    simp only [entAt, List.getD, List.getElem?_append, List.length_take, h1, if_false, List.getElem?_drop]
    congr 2
    omega
theorem less_may {l : List Ent} {k : Nat} (h : MayBe l) (hk : k < l.length) : MayBe (less l k) := by
  rw [maybe_iff] at h ⊢
  obtain ⟨h1, h2, h3⟩ := h
  rw [less_length hk]
  refine ⟨fun i hi => ?_, fun i j hij hj => ?_, fun i j hij hj => ?_⟩
  · rw [less_at hk hi]
    exact h1 _ (by unfold was; split <;> omega)
  · rw [less_at hk hj, less_at hk (by omega)]
    exact h2 _ _ (by unfold was; split <;> split <;> omega) (by unfold was; split <;> omega)
  · rw [less_at hk hj, less_at hk (by omega)]
    exact h3 _ _ (by unfold was; split <;> split <;> omega) (by unfold was; split <;> omega)
theorem more_not (l : List Ent) {k : Nat} (hk : k < l.length) (x : Ent) (hx : x.tx = (entAt l k).tx) : ¬ MayBe (l ++ [x]) := fun h => by
  have h3 := ((maybe_iff _).1 h).2.2 k l.length hk (by simp)
  refine h3 ?_
  have e1 : entAt (l ++ [x]) k = entAt l k := by simp [entAt, List.getD, List.getElem?_append, hk]
  have e2 : entAt (l ++ [x]) l.length = x := by simp [entAt, List.getD]
  rw [e1, e2, hx]
theorem mayB_true {l : List Ent} (h : MayBe l) : mayB l = true := (mayB_iff l).2 h
theorem mayB_false {l : List Ent} (h : ¬ MayBe l) : mayB l = false := by
  cases hm : mayB l with
  | false => rfl
  | true => exact absurd ((mayB_iff l).1 hm) h
theorem less_ok {l : List Ent} (h : Oks l) (k : Nat) : Oks (less l k) := fun e he => by
  rcases List.mem_append.1 he with he | he
  · exact h e (List.mem_of_mem_take he)
  · exact h e (List.mem_of_mem_drop he)
theorem ents_take {w : World} {B : Nat} {a : Option Addr} {l : List Ent} (h : EntsAt w B a l) (k : Nat) : EntsAt w B a (l.take k) := fun hn => by
  rw [List.length_take] at hn
  obtain ⟨b, o, ha, hb, hc⟩ := h (by omega)
  refine ⟨b, o, ha, hb, fun j hj => ?_⟩
  rw [List.length_take] at hj
  have e : entAt (l.take k) j = entAt l j := by simp [entAt, List.getD, List.getElem?_take, show j < k by omega]
  rw [e]
  exact hc j (by omega)
theorem ents_drop {w : World} {B b o : Nat} {l : List Ent} (h : EntsAt w B (some ⟨b, o, none⟩) l) (k o' : Nat) (ho : k < l.length → o' = o + k * 33) : EntsAt w B (some ⟨b, o', none⟩) (l.drop k) := fun hn => by
  rw [List.length_drop] at hn
  obtain ⟨b', o1, ha, hb, hc⟩ := h (by omega)
  injection ha with ha
  injection ha with h1 h2 h3
  subst h1
  subst h2
  refine ⟨b, o', rfl, hb, fun j hj => ?_⟩
  rw [List.length_drop] at hj
  have e : entAt (l.drop k) j = entAt l (k + j) := by simp [entAt, List.getD, List.getElem?_drop]
  rw [e, ho (by omega), show o + k * 33 + j * 33 = o + (k + j) * 33 by omega]
  exact hc (k + j) (by omega)
end Go.Proofs.YtbmndibhalbioaaDoor
