/-
  A region that draws its order: operations that read or call quietly, one that makes memory, and others that wait for all of these: one walk of the lexical order serves every order. A call among the first must be awaited by the one that makes memory.
-/
import Derived.Test.YtiidohaibbdgeaaDoorHeld
namespace Go.Proofs.YtiidohaibbdgeaaDoor
open Go Go.RowKit

section
variable {P : Program} {ops : Array Oper} {md : Region.Mode} {C : World → Prop}

/-- Whatever order is picked, ahead of number n: in every world of the class. -/
def anyQ (P : Program) (md : Region.Mode) (ops : Array Oper) (Q : Exit → Act → World → Prop) (C : World → Prop) (n : Nat) : Nat → Array Bool → Act → Prop
  | 0, _, _ => False
  | f + 1, listed, a => Region.ready md ops listed ≠ [] ∧ ∀ i ∈ Region.ready md ops listed,
    (i < n ∧ qOp P ops C i (anyQ P md ops Q C n f (listed.setIfInBounds i true)) a) ∨
    (i = n ∧ ∀ w, C w → wpOp P ops Q n (fun a' w' => C w' ∧ anyMid P md ops Q C (n + 1) f (listed.setIfInBounds n true) a' w') a w)

theorem any_of_anyQ {Q : Exit → Act → World → Prop} {n : Nat} : ∀ (f : Nat) (listed : Array Bool) (a : Act) (w : World), C w → anyQ P md ops Q C n f listed a → wpAny P md ops Q f listed a w
  | 0, _, _, _, _, h => h.elim
  | f + 1, _, _, w, hw, h => ⟨fun h0 => absurd h0 h.1, fun i hi => by
    rcases h.2 i hi with ⟨_, h1⟩ | ⟨rfl, h1⟩
    · exact wpOp_of_qOp hw (fun a' w' hw' h' => any_of_anyQ f _ a' w' hw' h') h1
    · exact wpOp_mono (fun a' w' h' => any_of_mid f _ a' w' h'.2) (h1 w hw)⟩

/-- Number n waits for number k. -/
def awaitedB (md : Region.Mode) (ops : Array Oper) (n k : Nat) : Bool :=
  match ops[n]? with
  | some o => o.after.any fun e => Region.binds md e && e.on == k
  | none => false
theorem awaited_not {n k : Nat} {listed : Array Bool} (h : awaitedB md ops n k = true) (hk : k ∈ Region.ready md ops listed) : n ∉ Region.ready md ops listed := fun hn => by
  obtain ⟨_, on, hon, hall⟩ := mem_ready.1 hn
  unfold awaitedB at h
  rw [hon] at h
  simp only [Array.any_eq_true, Bool.and_eq_true, beq_iff_eq] at h
  obtain ⟨j, hj, hb, he⟩ := h
  have h1 := hall _ (Array.getElem_mem hj) hb
  rw [he, getD_both (mem_ready.1 hk).1] at h1
  cases h1

theorem yieldsIf_plain {oi : Oper} {v : Value} {a : Act} (hp : plainOp oi.op = true) (hy : YieldsIn P ops C oi v a) : YieldsIf P ops C oi v a := by
  rcases hy with ⟨hw, hv⟩ | hno
  · exact .inl ⟨hw, yields_of_quiet hp hv⟩
  · exact .inr hno

theorem anyQ_first {Q : Exit → Act → World → Prop} {n i : Nat} {oi : Oper} {v : Value} (hi : ops[i]? = some oi) (hsel : ∀ (j : Nat) (o : Oper) cs b, ops[j]? = some o → o.op ≠ .select cs b)
    (hQ : ∀ c a d u w, Q (.panic c) (a.put d u) w → Q (.panic c) a w)
    (hs : Region.sinkB md ops (n + 1) = true) (hc : Region.chainB md ops (n + 1) = true) (hn : n + 1 < ops.size) (hin : i < n) (hcase : plainOp oi.op = true ∨ awaitedB md ops n i = true) :
    ∀ (f : Nat) (listed : Array Bool) (a : Act), HeadInv md ops (n + 1) listed →
      (∀ j oj, ops[j]? = some oj → j ≠ i → listed.getD j true = false → (∀ e ∈ oj.after, Region.binds md e = true → e.on ≠ i) → oi.apart ops oj = true) →
      i ∈ Region.ready md ops listed → YieldsIn P ops C oi v a →
      anyQ P md ops Q C n f (listed.setIfInBounds i true) (a.put oi.dst v) → anyQ P md ops Q C n (f + 1) listed a := by
  intro f
  induction f with
  | zero => intro listed a _ _ _ _ H; exact H.elim
  | succ f ih =>
    intro listed a inv hfree hr hy H
    have hun := (mem_ready.1 hr).1
    refine ⟨fun h => (by rw [h] at hr; cases hr), fun j hj => ?_⟩
    have hjn : j < n + 1 := by
      rcases Nat.lt_or_ge j (n + 1) with h | h
      · exact h
      · exact absurd hj (tail_waits hs hc hn inv _ i rfl (by omega) hun j h)
    by_cases hji : j = i
    · subst hji; exact .inl ⟨hin, hy.qOp hi H⟩
    · obtain ⟨hjun, oj, hoj, hall⟩ := mem_ready.1 hj
      have hnot : ∀ e ∈ oj.after, Region.binds md e = true → e.on ≠ i := fun e he hb heq => by
        have h1 := hall e he hb
        rw [heq, getD_both hun] at h1
        cases h1
      have hfree' : ∀ k ok, ops[k]? = some ok → k ≠ i → (listed.setIfInBounds j true).getD k true = false →
          (∀ e ∈ ok.after, Region.binds md e = true → e.on ≠ i) → oi.apart ops ok = true := fun k ok hk hki hun hno => by
        refine hfree k ok hk hki ?_ hno
        by_cases hjk : j = k
        · subst hjk; exact hjun
        · rw [getD_set_ne true hjk] at hun; exact hun
      rcases H.2 j (ready_mono hj hji) with ⟨hjlt, h1⟩ | ⟨rfl, h1⟩
      · refine .inl ⟨hjlt, ?_⟩
        have h2 := qOp_put hoj (hfree j oj hoj hji hjun hnot) (fun cs b => hsel i oi cs b hi) (fun cs b => hsel j oj cs b hoj) hy h1
        refine qOp_mono (fun a' h3 => ih (listed.setIfInBounds j true) a' (inv.set hj (by omega)) hfree' (ready_mono hr (Ne.symm hji)) h3.1 ?_) h2
        rw [Array.setIfInBounds_comm _ _ hji]
        exact h3.2
      · have hp : plainOp oi.op = true := hcase.resolve_right fun h => awaited_not h hr hj
        have hyf := fun a => yieldsIf_plain (P := P) (ops := ops) (C := C) (v := v) (a := a) hp
        refine .inr ⟨rfl, fun w hw => ?_⟩
        have h2 := wpOp_putIf hoj (hfree j oj hoj hji hjun hnot) (fun cs b => hsel i oi cs b hi) (fun cs b => hsel j oj cs b hoj) (fun c a w => hQ c a oi.dst v w) (hyf a hy) (h1 w hw)
        refine wpOp_mono (fun a' w' h3 => ?_) h2
        refine ⟨h3.2.1, anyMid_first hi hsel hQ hs hc hn (by omega) f (listed.setIfInBounds j true) a' w' (inv.set hj hjn) hfree' (ready_mono hr (Ne.symm hji)) h3.1 h3.2.1 ?_⟩
        rw [Array.setIfInBounds_comm _ _ hji]
        exact h3.2.2

/-- What is asked of each operation ahead of number n. -/
def headsB (md : Region.Mode) (ops : Array Oper) (n : Nat) : Bool :=
  (List.range n).all fun k => match ops[k]? with
    | some o => plainOp o.op || awaitedB md ops n k
    | none => true
theorem headsB_spec {n k : Nat} {o : Oper} (h : headsB md ops n = true) (hk : k < n) (ho : ops[k]? = some o) : plainOp o.op = true ∨ awaitedB md ops n k = true := by
  unfold headsB at h
  have := List.all_eq_true.1 h k (List.mem_range.2 hk)
  rw [ho] at this
  simpa using this

theorem anyQ_lex {Q : Exit → Act → World → Prop} {n g : Nat} {Lq : Act → Prop} (hsel : Region.noSelect ops = true) (hQ : ∀ c a d u w, Q (.panic c) (a.put d u) w → Q (.panic c) a w)
    (hs : Region.sinkB md ops (n + 1) = true) (hc : Region.chainB md ops (n + 1) = true) (hn : n + 1 < ops.size) (hh : headsB md ops n = true)
    (hL : ∀ listed a, Region.seqB md ops g n listed = true → Lq a → anyQ P md ops Q C n g listed a) :
    ∀ (l : List Oper) (k : Nat) (listed : Array Bool) (a : Act), (∀ j, j < l.length → l[j]? = ops[k + j]?) → k + l.length = n → HeadInv md ops (n + 1) listed →
    Region.lexHead md ops g l.length k listed = true → wpQuiet P ops C Lq l a → anyQ P md ops Q C n (l.length + g) listed a
  | [], k, listed, a, _, hk, _, hB, h => by
    have : k = n := by simpa using hk
    subst this
    rw [List.length_nil, Nat.zero_add]
    exact hL listed a (by simpa [Region.lexHead] using hB) h
  | o :: l, k, listed, a, hl, hk, inv, hB, h => by
    have h0 : ops[k]? = some o := by simpa using (hl 0 (by simp)).symm
    simp only [List.length_cons, Region.lexHead, Bool.and_eq_true] at hB
    obtain ⟨⟨hr, hf⟩, hB'⟩ := hB
    have hkn : k < n := by simp only [List.length_cons] at hk; omega
    have hr' : k ∈ Region.ready md ops listed := by simpa using hr
    have hst : qOp P ops C k (wpQuiet P ops C Lq l) a := by unfold qOp; simp only [h0]; exact h
    obtain ⟨v, hy, hK⟩ := yieldsIn_of_qOp h0 hst
    have ih := anyQ_lex hsel hQ hs hc hn hh hL l (k + 1) (listed.setIfInBounds k true) (a.put o.dst v) (fun j hj => by have := hl (j + 1) (by simp; omega); simpa [Nat.add_assoc, Nat.add_comm 1 j] using this) (by simp only [List.length_cons] at hk; omega)
      (inv.set hr' (by omega)) hB' hK
    have := anyQ_first h0 (Region.noSelect_spec hsel) hQ hs hc hn hkn (headsB_spec hh hkn h0) (l.length + g) listed a inv (Region.free_spec h0 hf) hr' hy ih
    rw [List.length_cons, show l.length + 1 + g = l.length + g + 1 by omega]
    exact this

theorem wp_region_held_calls {id : Nat} {Q : Exit → Act → World → Prop} {a : Act} {w : World} {l : List Oper} (n : Nat) (hm : P.follows .mixedOrders = true) (hh : headsB .any l.toArray n = true) (hB : heldB .any l.toArray n = true)
    (hQ : ∀ c a d u w, Q (.panic c) (a.put d u) w → Q (.panic c) a w) (hC : C w.drew)
    (h : wpQuiet P l.toArray C (fun a' => ∀ w', C w' → ∃ o v w2, l[n]? = some o ∧ o.guard = none ∧ (execOp a'.eval o).run P w' = .ok (.value v) w2 ∧ C w2 ∧ wpList P l.toArray Q (l.drop (n + 1)) (a'.put o.dst v) w2) (l.take n) a) :
    (Code.region id l.toArray true).wp P Q a w := by
  simp only [heldB, Bool.and_eq_true, decide_eq_true_eq] at hB
  obtain ⟨⟨⟨⟨hsel, hn⟩, hs⟩, hc⟩, hlex⟩ := hB
  have hn' : n + 1 < l.length := by simpa using hn
  have htl : (l.take n).length = n := by simp; omega
  have inv0 : HeadInv .any l.toArray (n + 1) (Array.replicate l.toArray.size false) :=
    ⟨by simp, fun j oj _ hl => (by rw [getD_replicate_false] at hl; cases hl), fun t _ ht => getD_in (by simpa using ht) (getD_replicate_false _ _)⟩
  refine wp_region_any hm ?_
  have H := anyQ_lex (P := P) (Q := Q) (md := .any) (g := l.toArray.size - n) hsel hQ hs hc hn hh (fun listed a' hseq hl => by
    have hsz : l.toArray.size - n = (l.drop (n + 1)).length + 1 := by simp; omega
    rw [hsz] at hseq ⊢
    simp only [Region.seqB, Bool.and_eq_true, decide_eq_true_eq] at hseq
    refine ⟨fun h1 => (by rw [hseq.1] at h1; cases h1), fun i hi => ?_⟩
    rw [hseq.1] at hi
    have hik : i = n := by simpa using hi
    subst hik
    refine .inr ⟨rfl, fun w' hw' => ?_⟩
    obtain ⟨o, v, w2, ho, hgd, hrun, hC2, hlist⟩ := hl w' hw'
    have hw : Region.wanted o (yielded l.toArray a'.tmps) = true := by simp [Region.wanted, hgd]
    unfold wpOp
    simp only [List.getElem?_toArray, ho, hw, if_true]
    refine .inl ?_
    unfold Oper.wp
    rw [hrun, Oper.upon_value]
    exact ⟨hC2, anyMid_of_seq (l.drop (i + 1)) (i + 1) _ _ _ (Nat.le_refl _) (fun j => by simp [List.getElem?_drop]) hseq.2 hlist⟩)
    (l.take n) 0 _ a (fun j hj => by
      have hj' : j < n := by rw [htl] at hj; exact hj
      simp [hj']) (by simpa using htl) inv0 (by rw [htl]; exact hlex) h
  have H2 := any_of_anyQ _ _ _ w.drew hC H
  rw [htl, show n + (l.toArray.size - n) = l.toArray.size by simp; omega] at H2
  exact H2
end
end Go.Proofs.YtiidohaibbdgeaaDoor
