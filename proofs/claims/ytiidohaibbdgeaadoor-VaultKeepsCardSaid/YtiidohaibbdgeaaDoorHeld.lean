/-
  A region that draws its order: n operations that only read, one that makes memory, and others that wait for all of these: one walk of the lexical order serves every order.
-/
import Derived.Test.YtiidohaibbdgeaaDoorQuietTail
import Derived.OrdersHeld
import Derived.Great.BuildSlice
namespace Go.Proofs.YtiidohaibbdgeaaDoor
open Go Go.RowKit

section
variable {P : Program} {ops : Array Oper} {md : Region.Mode} {C : World → Prop}

/-- An operation that calls nothing and hands back a value or stops. -/
def plainOp : Op → Bool
  | .move _ | .assign _ | .pick .. | .alloc _ | .box .. | .build .. | .buildSlice .. | .load .. | .binOp .. | .unOp .. | .convert .. | .makeInterface .. | .makeFunc .. | .slice .. | .fieldAddr .. | .field .. | .indexAddr .. | .index .. | .lookup .. | .extract .. => true
  | _ => false

theorem value_of_v {s : Sem Value} {w w' : World} {n : Next} (h : (do pure (Next.value (← s)) : Sem Next).run P w = .ok n w') : ∃ u, n = .value u := by
  rw [Sem.run_bind] at h
  cases hr : s.run P w with
  | ok u w2 =>
    rw [hr] at h
    simp only [Result.andThen, Sem.run_pure] at h
    injection h with h _
    exact ⟨u, h.symm⟩
  | halt x w2 => rw [hr] at h; simp [Result.andThen] at h

theorem plain_value {o : Oper} {ρ : Operand → Value} {w w' : World} {n : Next} (hp : plainOp o.op = true) (h : (execOp ρ o).run P w = .ok n w') : ∃ u, n = .value u := by
  unfold execOp at h
  cases ho : o.op <;> rw [ho] at hp h <;> first
    | exact value_of_v h
    | (cases hp; done)
    | skip
  case move x => dsimp only at h; injection h with h _; exact ⟨_, h.symm⟩
  case assign x => dsimp only at h; injection h with h _; exact ⟨_, h.symm⟩
  case pick c a b =>
    dsimp only at h
    rw [Sem.run_bind] at h
    revert h
    cases ((asBool (ρ _)).run P w) with
    | ok u w2 => intro h; injection h with h _; exact ⟨_, h.symm⟩
    | halt x w2 => intro h; cases h

/-- In state 'a', in every world of the class, operation 'o' leaves 'v' in its temporary and the world as it is. -/
def YieldsC (P : Program) (ops : Array Oper) (C : World → Prop) (o : Oper) (v : Value) (a : Act) : Prop := YieldsIf P ops C o v a

/-- Whatever order is picked; behind an operation below number m the world is of the class. -/
def anyMid (P : Program) (md : Region.Mode) (ops : Array Oper) (Q : Exit → Act → World → Prop) (C : World → Prop) (m : Nat) : Nat → Array Bool → Act → World → Prop
  | 0, listed, a, w => Region.ready md ops listed = [] ∧ Q .normal a w
  | fuel + 1, listed, a, w =>
    (Region.ready md ops listed = [] → Q .normal a w) ∧
    ∀ i ∈ Region.ready md ops listed, wpOp P ops Q i (fun a' w' => (m ≤ i ∨ C w') ∧ anyMid P md ops Q C m fuel (listed.setIfInBounds i true) a' w') a w

theorem any_of_mid {Q : Exit → Act → World → Prop} {m : Nat} : ∀ (fuel : Nat) (listed : Array Bool) (a : Act) (w : World), anyMid P md ops Q C m fuel listed a w → wpAny P md ops Q fuel listed a w
  | 0, _, _, _, h => h
  | fuel + 1, _, _, _, h => ⟨h.1, fun i hi => wpOp_mono (fun a' w' h' => any_of_mid fuel _ a' w' h'.2) (h.2 i hi)⟩

theorem anyMid_first {Q : Exit → Act → World → Prop} {m i : Nat} {oi : Oper} {v : Value} (hi : ops[i]? = some oi) (hsel : ∀ (j : Nat) (o : Oper) cs b, ops[j]? = some o → o.op ≠ .select cs b)
    (hQ : ∀ c a d u w, Q (.panic c) (a.put d u) w → Q (.panic c) a w)
    (hs : Region.sinkB md ops m = true) (hc : Region.chainB md ops m = true) (hm : m < ops.size) (him : i < m) :
    ∀ (fuel : Nat) (listed : Array Bool) (a : Act) (w : World), HeadInv md ops m listed →
      (∀ j oj, ops[j]? = some oj → j ≠ i → listed.getD j true = false → (∀ e ∈ oj.after, Region.binds md e = true → e.on ≠ i) → oi.apart ops oj = true) →
      i ∈ Region.ready md ops listed → YieldsIf P ops C oi v a → C w →
      anyMid P md ops Q C m fuel (listed.setIfInBounds i true) (a.put oi.dst v) w → anyMid P md ops Q C m (fuel + 1) listed a w := by
  intro fuel
  induction fuel with
  | zero =>
    intro listed a w inv _ hr hy hS H
    have hun := (mem_ready.1 hr).1
    refine ⟨fun h => (by rw [h] at hr; cases hr), fun j hj => ?_⟩
    by_cases hji : j = i
    · subst hji; exact hy.wpOp hi hS ⟨.inr hS, H⟩
    · have := ready_mono hj hji
      rw [H.1] at this
      cases this
  | succ fuel ih =>
    intro listed a w inv hfree hr hy hS H
    have hun := (mem_ready.1 hr).1
    refine ⟨fun h => (by rw [h] at hr; cases hr), fun j hj => ?_⟩
    have hjm : j < m := by
      rcases Nat.lt_or_ge j m with h | h
      · exact h
      · exact absurd hj (tail_waits hs hc hm inv _ i rfl him hun j h)
    by_cases hji : j = i
    · subst hji; exact hy.wpOp hi hS ⟨.inr hS, H⟩
    · have h1 := H.2 j (ready_mono hj hji)
      obtain ⟨hjun, oj, hoj, hall⟩ := mem_ready.1 hj
      have hnot : ∀ e ∈ oj.after, Region.binds md e = true → e.on ≠ i := fun e he hb heq => by
        have h1 := hall e he hb
        rw [heq, getD_both hun] at h1
        cases h1
      have h2 := wpOp_putIf hoj (hfree j oj hoj hji hjun hnot) (fun cs b => hsel i oi cs b hi) (fun cs b => hsel j oj cs b hoj) (fun c a w => hQ c a oi.dst v w) hy h1
      have hfree' : ∀ k ok, ops[k]? = some ok → k ≠ i → (listed.setIfInBounds j true).getD k true = false →
          (∀ e ∈ ok.after, Region.binds md e = true → e.on ≠ i) → oi.apart ops ok = true := fun k ok hk hki hun hno => by
        refine hfree k ok hk hki ?_ hno
        by_cases hjk : j = k
        · subst hjk; exact hjun
        · rw [getD_set_ne true hjk] at hun; exact hun
      refine wpOp_mono (fun a' w' h3 => ?_) h2
      have hC' : C w' := h3.2.1.resolve_left (by omega)
      refine ⟨.inr hC', ih (listed.setIfInBounds j true) a' w' (inv.set hj hjm) hfree' (ready_mono hr (Ne.symm hji)) h3.1 hC' ?_⟩
      rw [Array.setIfInBounds_comm _ _ hji]
      exact h3.2.2

/-- The order behind the heads is forced: one list of operations, of which the first makes memory and the others come when all is done. -/
theorem anyMid_of_seq {Q : Exit → Act → World → Prop} {m : Nat} : ∀ (l : List Oper) (k : Nat) (listed : Array Bool) (a : Act) (w : World), m ≤ k → (∀ j, l[j]? = ops[k + j]?) →
    Region.seqB md ops l.length k listed = true → wpList P ops Q l a w → anyMid P md ops Q C m l.length listed a w
  | [], _, _, _, _, _, _, hB, h => ⟨by simpa [Region.seqB] using hB, h⟩
  | o :: l, k, listed, a, w, hmk, hl, hB, h => by
    have h0 : ops[k]? = some o := by simpa using (hl 0).symm
    simp only [List.length_cons, Region.seqB, Bool.and_eq_true, decide_eq_true_eq] at hB
    refine ⟨fun h1 => (by rw [hB.1] at h1; cases h1), fun i hi => ?_⟩
    rw [hB.1] at hi
    have hik : i = k := by simpa using hi
    subst hik
    have hw : wpOp P ops Q i (wpList P ops Q l) a w := by unfold wpOp; simp only [h0]; exact h
    exact wpOp_mono (fun a' w' h' => ⟨.inl hmk, anyMid_of_seq l (i + 1) _ a' w' (by omega) (fun j => by have := hl (j + 1); simpa [Nat.add_assoc, Nat.add_comm 1 j] using this) hB.2 h'⟩) hw

theorem yields_of_quiet {o : Oper} {a : Act} {v : Value} (hp : plainOp o.op = true) (h : ∀ w, C w → o.quietAt P a C w v) : ∀ w, C w → (execOp a.eval o).run P w = .ok (.value v) w := fun w hw => by
  have h1 := h w hw
  unfold Oper.quietAt at h1
  have h2 := fun n w' => plain_value (P := P) (ρ := a.eval) (w := w) (w' := w') (n := n) hp
  generalize hr : (execOp a.eval o).run P w = r at h1 h2
  cases r with
  | halt x w' => simp only [Oper.quietUpon] at h1
  | ok n w' =>
    obtain ⟨u, rfl⟩ := h2 n w' rfl
    simp only [Oper.quietUpon] at h1
    rw [h1.1, h1.2]

theorem mid_lex {Q : Exit → Act → World → Prop} {n g : Nat} {w : World} {Lq : Act → Prop} (hsel : Region.noSelect ops = true) (hQ : ∀ c a d u w, Q (.panic c) (a.put d u) w → Q (.panic c) a w)
    (hs : Region.sinkB md ops (n + 1) = true) (hc : Region.chainB md ops (n + 1) = true) (hn : n + 1 < ops.size) (hw : C w)
    (hL : ∀ listed a, Region.seqB md ops g n listed = true → Lq a → anyMid P md ops Q C (n + 1) g listed a w) :
    ∀ (l : List Oper) (k : Nat) (listed : Array Bool) (a : Act), (∀ j, j < l.length → l[j]? = ops[k + j]?) → k + l.length = n → HeadInv md ops (n + 1) listed → l.all (fun o => plainOp o.op) = true →
    Region.lexHead md ops g l.length k listed = true → wpQuiet P ops C Lq l a → anyMid P md ops Q C (n + 1) (l.length + g) listed a w
  | [], k, listed, a, _, hk, _, _, hB, h => by
    have : k = n := by simpa using hk
    subst this
    rw [List.length_nil, Nat.zero_add]
    exact hL listed a (by simpa [Region.lexHead] using hB) h
  | o :: l, k, listed, a, hl, hk, inv, hpl, hB, h => by
    have h0 : ops[k]? = some o := by simpa using (hl 0 (by simp)).symm
    simp only [List.length_cons, Region.lexHead, Bool.and_eq_true] at hB
    obtain ⟨⟨hr, hf⟩, hB'⟩ := hB
    simp only [List.all_cons, Bool.and_eq_true] at hpl
    have hkn : k < n := by simp only [List.length_cons] at hk; omega
    have hr' : k ∈ Region.ready md ops listed := by simpa using hr
    have hst : qOp P ops C k (wpQuiet P ops C Lq l) a := by unfold qOp; simp only [h0]; exact h
    obtain ⟨v, hy, hK⟩ := yieldsIn_of_qOp h0 hst
    have hy' : YieldsIf P ops C o v a := by
      rcases hy with ⟨hw, hv⟩ | hno
      · exact .inl ⟨hw, yields_of_quiet hpl.1 hv⟩
      · exact .inr hno
    have ih := mid_lex hsel hQ hs hc hn hw hL l (k + 1) (listed.setIfInBounds k true) (a.put o.dst v) (fun j hj => by have := hl (j + 1) (by simp; omega); simpa [Nat.add_assoc, Nat.add_comm 1 j] using this) (by simp only [List.length_cons] at hk; omega)
      (inv.set hr' (by omega)) hpl.2 hB' hK
    have := anyMid_first h0 (Region.noSelect_spec hsel) hQ hs hc hn (by omega) (l.length + g) listed a w inv (Region.free_spec h0 hf) hr' hy' hw ih
    rw [List.length_cons, show l.length + 1 + g = l.length + g + 1 by omega]
    exact this

/-- What is asked of the region, as a Bool: n operations first; number n; all others behind these, in one order. -/
def heldB (md : Region.Mode) (ops : Array Oper) (n : Nat) : Bool :=
  Region.noSelect ops && decide (n + 1 < ops.size) && Region.sinkB md ops (n + 1) && Region.chainB md ops (n + 1) && Region.lexHead md ops (ops.size - n) n 0 (Array.replicate ops.size false)

theorem wp_region_held_one {id : Nat} {Q : Exit → Act → World → Prop} {a : Act} {w : World} {l : List Oper} (n : Nat) (hm : P.follows .mixedOrders = true) (hp : (l.take n).all (fun o => plainOp o.op) = true) (hB : heldB .any l.toArray n = true)
    (hQ : ∀ c a d u w, Q (.panic c) (a.put d u) w → Q (.panic c) a w) (hC : C w.drew)
    (h : wpQuiet P l.toArray C (fun a' => ∃ o v w2, l[n]? = some o ∧ o.guard = none ∧ (execOp a'.eval o).run P w.drew = .ok (.value v) w2 ∧ C w2 ∧ wpList P l.toArray Q (l.drop (n + 1)) (a'.put o.dst v) w2) (l.take n) a) :
    (Code.region id l.toArray true).wp P Q a w := by
  simp only [heldB, Bool.and_eq_true, decide_eq_true_eq] at hB
  obtain ⟨⟨⟨⟨hsel, hn⟩, hs⟩, hc⟩, hlex⟩ := hB
  have hn' : n + 1 < l.length := by simpa using hn
  have htl : (l.take n).length = n := by simp; omega
  have inv0 : HeadInv .any l.toArray (n + 1) (Array.replicate l.toArray.size false) :=
    ⟨by simp, fun j oj _ hl => (by rw [getD_replicate_false] at hl; cases hl), fun t _ ht => getD_in (by simpa using ht) (getD_replicate_false _ _)⟩
  refine wp_region_any hm ?_
  have H := mid_lex (P := P) (Q := Q) (md := .any) (g := l.toArray.size - n) (w := w.drew) hsel hQ hs hc hn hC (fun listed a' hseq hl => by
    obtain ⟨o, v, w2, ho, hgd, hrun, hC2, hlist⟩ := hl
    have hsz : l.toArray.size - n = (l.drop (n + 1)).length + 1 := by simp; omega
    rw [hsz] at hseq ⊢
    simp only [Region.seqB, Bool.and_eq_true, decide_eq_true_eq] at hseq
    refine ⟨fun h1 => (by rw [hseq.1] at h1; cases h1), fun i hi => ?_⟩
    rw [hseq.1] at hi
    have hik : i = n := by simpa using hi
    subst hik
    have hw : Region.wanted o (yielded l.toArray a'.tmps) = true := by simp [Region.wanted, hgd]
    unfold wpOp
    simp only [List.getElem?_toArray, ho, hw, if_true]
    refine .inl ?_
    unfold Oper.wp
    rw [hrun, Oper.upon_value]
    exact ⟨.inr hC2, anyMid_of_seq (l.drop (i + 1)) (i + 1) _ _ _ (Nat.le_refl _) (fun j => by simp [List.getElem?_drop]) hseq.2 hlist⟩)
    (l.take n) 0 _ a (fun j hj => by
      have hj' : j < n := by rw [htl] at hj; exact hj
      simp [hj']) (by simpa using htl) inv0 hp (by rw [htl]; exact hlex) h
  have H2 := any_of_mid _ _ _ _ H
  rw [htl, show n + (l.toArray.size - n) = l.toArray.size by simp; omega] at H2
  exact H2

/-- .. with whatever operation in the middle. -/
theorem wp_region_held_do {id : Nat} {Q : Exit → Act → World → Prop} {a : Act} {w : World} {l : List Oper} (n : Nat) (hm : P.follows .mixedOrders = true) (hp : (l.take n).all (fun o => plainOp o.op) = true) (hB : heldB .any l.toArray n = true)
    (hQ : ∀ c a d u w, Q (.panic c) (a.put d u) w → Q (.panic c) a w) (hC : C w.drew)
    (h : wpQuiet P l.toArray C (fun a' => wpOp P l.toArray Q n (fun a2 w2 => C w2 ∧ wpList P l.toArray Q (l.drop (n + 1)) a2 w2) a' w.drew) (l.take n) a) :
    (Code.region id l.toArray true).wp P Q a w := by
  simp only [heldB, Bool.and_eq_true, decide_eq_true_eq] at hB
  obtain ⟨⟨⟨⟨hsel, hn⟩, hs⟩, hc⟩, hlex⟩ := hB
  have hn' : n + 1 < l.length := by simpa using hn
  have htl : (l.take n).length = n := by simp; omega
  have inv0 : HeadInv .any l.toArray (n + 1) (Array.replicate l.toArray.size false) :=
    ⟨by simp, fun j oj _ hl => (by rw [getD_replicate_false] at hl; cases hl), fun t _ ht => getD_in (by simpa using ht) (getD_replicate_false _ _)⟩
  refine wp_region_any hm ?_
  have H := mid_lex (P := P) (Q := Q) (md := .any) (g := l.toArray.size - n) (w := w.drew) hsel hQ hs hc hn hC (fun listed a' hseq hl => by
    have hsz : l.toArray.size - n = (l.drop (n + 1)).length + 1 := by simp; omega
    rw [hsz] at hseq ⊢
    simp only [Region.seqB, Bool.and_eq_true, decide_eq_true_eq] at hseq
    refine ⟨fun h1 => (by rw [hseq.1] at h1; cases h1), fun i hi => ?_⟩
    rw [hseq.1] at hi
    have hik : i = n := by simpa using hi
    subst hik
    exact wpOp_mono (fun a2 w2 h2 => ⟨.inr h2.1, anyMid_of_seq (l.drop (i + 1)) (i + 1) _ _ _ (Nat.le_refl _) (fun j => by simp [List.getElem?_drop]) hseq.2 h2.2⟩) hl)
    (l.take n) 0 _ a (fun j hj => by
      have hj' : j < n := by rw [htl] at hj; exact hj
      simp [hj']) (by simpa using htl) inv0 hp (by rw [htl]; exact hlex) h
  have H2 := any_of_mid _ _ _ _ H
  rw [htl, show n + (l.toArray.size - n) = l.toArray.size by simp; omega] at H2
  exact H2
theorem wpOp_of_wp {Q : Exit → Act → World → Prop} {i : Nat} {o : Oper} {K : Act → World → Prop} {a : Act} {w : World} (ho : ops[i]? = some o) (hgd : o.guard = none) (h : o.wp P a w K Q) : wpOp P ops Q i K a w := by
  have hw : Region.wanted o (yielded ops a.tmps) = true := by simp [Region.wanted, hgd]
  unfold wpOp
  simp only [ho, hw, if_true]
  exact .inl h

/-- A slice literal of one element of one cell. -/
theorem exec_buildSlice_one {o : Oper} {a : Act} (t e : TypeId) (x : Operand) (ho : o.op = .buildSlice t 1 #[(0, x)]) (ht : P.underlying t = some (.slice e)) (i : TypeInfo) (z : Value) (hi : P.info? e = some i) (hs : i.size = 1) (hz : i.zero = some z)
    (hz1 : z.cells.size = 1) (v : Value) (hv : a.eval x = v) (h1 : v.cells = #[v]) (w : World) :
    (execOp a.eval o).run P w = .ok (.value (.slice (some ⟨w.heap.size, 0, none⟩) 1 1)) (w.alloc (.cells #[v] e)) := by
  unfold execOp
  obtain ⟨z0, hz0⟩ : ∃ z0, z.cells = #[z0] := Array.size_eq_one_iff.1 hz1
  simp [ho, hv, Instr.buildSlice, run_underlying ht, Sem.run_bind, sizeOf, typeInfo, zeroValue, hi, hs, hz, hz0, Instr.fill, h1, newRow, Result.andThen, Array.range]
  refine congrArg (fun c => w.alloc (Obj.cells c e)) ?_
  apply Array.ext
  · simp [hs]
  · intro j h1 h2
    have : j = 0 := by simpa using h2
    subst this
    simp

/-- A slice literal of elements of one cell, every place written. -/
theorem exec_buildSlice_flat {o : Oper} {a : Act} (t e : TypeId) (n : Nat) (parts : Array (Nat × Operand)) (ho : o.op = .buildSlice t n parts) (ht : P.underlying t = some (.slice e)) (i : TypeInfo) (z : Value) (hi : P.info? e = some i) (hs : i.size = 1) (hz : i.zero = some z)
    (vs : List Value) (hn : n = vs.length) (hpos : 0 < n) (hsm : n ≤ 2 ^ 24) (hp : (parts.map fun (i, x) => (i, a.eval x)).toList = (vs.zipIdx 0).map fun x => (x.2, x.1)) (h1 : ∀ v ∈ vs, v.cells = #[v]) (w : World) :
    (execOp a.eval o).run P w = .ok (.value (.slice (some ⟨w.heap.size, 0, none⟩) n n)) (w.alloc (.cells vs.toArray e)) := by
  unfold execOp
  simp only [ho, Sem.run_bind]
  rw [run_buildSlice w t e n _ vs.toArray i z ht hi hz (by rw [hs]; omega) (by rw [hs]; omega) (by rw [hp, hs]; exact Great.fill_flat _ _ h1 (by simp [hn]))]
  simp

end
end Go.Proofs.YtiidohaibbdgeaaDoor
