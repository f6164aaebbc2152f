/-
  A region that draws its order and ends in one operation that waits for all: as in the tree law, but what that last operation leaves need not be of the class of worlds.
-/
import Derived.Test.YtiidohaibbdgeaaDoorTree
namespace Go.Proofs.YtiidohaibbdgeaaDoor
open Go Go.RowKit

section
variable {P : Program} {ops : Array Oper} {md : Region.Mode} {S : World → Prop} {last : Nat}

/-- Whatever order is picked from here on; behind every operation but the last S holds. -/
def wpAnyL (P : Program) (md : Region.Mode) (ops : Array Oper) (Q : Exit → Act → World → Prop) (S : World → Prop) (last : Nat) : Nat → Array Bool → Act → World → Prop
  | 0, listed, a, w => Region.ready md ops listed = [] ∧ Q .normal a w
  | fuel + 1, listed, a, w =>
    (Region.ready md ops listed = [] → Q .normal a w) ∧
    ∀ i ∈ Region.ready md ops listed, wpOp P ops Q i (fun a' w' => (i ≠ last → S w') ∧ wpAnyL P md ops Q S last fuel (listed.setIfInBounds i true) a' w') a w

theorem any_of_anyL {Q : Exit → Act → World → Prop} : ∀ (fuel : Nat) (listed : Array Bool) (a : Act) (w : World), wpAnyL P md ops Q S last fuel listed a w → wpAny P md ops Q fuel listed a w
  | 0, _, _, _, h => h
  | fuel + 1, _, _, _, h => ⟨h.1, fun i hi => wpOp_mono (fun a' w' h' => any_of_anyL fuel _ a' w' h'.2) (h.2 i hi)⟩

theorem wpAnyL_first {Q : Exit → Act → World → Prop} {i : Nat} {oi : Oper} {v : Value} (hi : ops[i]? = some oi) (hsel : ∀ (j : Nat) (o : Oper) cs b, ops[j]? = some o → o.op ≠ .select cs b)
    (hQ : ∀ c a w, Q (.panic c) (a.put oi.dst v) w → Q (.panic c) a w) (hs : Region.sinkB md ops last = true) (hc : Region.chainB md ops last = true) (hn : last < ops.size) (hil : i < last) :
    ∀ (fuel : Nat) (listed : Array Bool) (a : Act) (w : World), HeadInv md ops last listed →
      (∀ j oj, ops[j]? = some oj → j ≠ i → listed.getD j true = false → (∀ e ∈ oj.after, Region.binds md e = true → e.on ≠ i) → oi.apart ops oj = true) →
      i ∈ Region.ready md ops listed → YieldsIf P ops S oi v a → S w →
      wpAnyL P md ops Q S last fuel (listed.setIfInBounds i true) (a.put oi.dst v) w → wpAnyL P md ops Q S last (fuel + 1) listed a w := by
  intro fuel
  induction fuel with
  | zero =>
    intro listed a w _ _ hr hy hS H
    refine ⟨fun h => (by rw [h] at hr; cases hr), fun j hj => ?_⟩
    by_cases hji : j = i
    · subst hji; exact hy.wpOp hi hS ⟨fun _ => hS, H⟩
    · have := ready_mono hj hji
      rw [H.1] at this
      cases this
  | succ fuel ih =>
    intro listed a w inv hfree hr hy hS H
    refine ⟨fun h => (by rw [h] at hr; cases hr), fun j hj => ?_⟩
    by_cases hji : j = i
    · subst hji; exact hy.wpOp hi hS ⟨fun _ => hS, H⟩
    · have hjl : j < last := by
        rcases Nat.lt_or_ge j last with h | h
        · exact h
        · exact absurd hj (tail_waits hs hc hn inv _ i rfl hil (mem_ready.1 hr).1 j h)
      have h1 := H.2 j (ready_mono hj hji)
      obtain ⟨hjun, oj, hoj, hall⟩ := mem_ready.1 hj
      have hnot : ∀ e ∈ oj.after, Region.binds md e = true → e.on ≠ i := fun e he hb heq => by
        have h1 := hall e he hb
        rw [heq, getD_both (mem_ready.1 hr).1] at h1
        cases h1
      have h2 := wpOp_putIf hoj (hfree j oj hoj hji hjun hnot) (fun cs b => hsel i oi cs b hi) (fun cs b => hsel j oj cs b hoj) hQ hy h1
      have hfree' : ∀ k ok, ops[k]? = some ok → k ≠ i → (listed.setIfInBounds j true).getD k true = false →
          (∀ e ∈ ok.after, Region.binds md e = true → e.on ≠ i) → oi.apart ops ok = true := fun k ok hk hki hun hno => by
        refine hfree k ok hk hki ?_ hno
        by_cases hjk : j = k
        · subst hjk; exact hjun
        · rw [getD_set_ne true hjk] at hun; exact hun
      refine wpOp_mono (fun a' w' h3 => ⟨fun _ => h3.2.1 (Nat.ne_of_lt hjl), ih (listed.setIfInBounds j true) a' w' (inv.set hj hjl) hfree' (ready_mono hr (Ne.symm hji)) h3.1 (h3.2.1 (Nat.ne_of_lt hjl)) ?_⟩) h2
      rw [Array.setIfInBounds_comm _ _ hji]
      exact h3.2.2

/-- The orders of the operations that do something; the last one waits for all. -/
inductive WaysL where
  | fin (ps : List Nat) (i : Nat)
  | one (ps : List Nat) (i : Nat) (t : WaysL)
  | two (ps : List Nat) (i : Nat) (t : WaysL) (j : Nat) (u : WaysL)

def wpWaysL (P : Program) (ops : Array Oper) (Q : Exit → Act → World → Prop) (S : World → Prop) : WaysL → Act → World → Prop
  | .fin ps i, a, w => wpQuiet P ops S (fun a' => wpOp P ops Q i (fun a2 w2 => Q .normal a2 w2) a' w) (picks ops ps) a
  | .one ps i t, a, w => wpQuiet P ops S (fun a' => wpOp P ops Q i (fun a2 w2 => S w2 ∧ wpWaysL P ops Q S t a2 w2) a' w) (picks ops ps) a
  | .two ps i t j u, a, w => wpQuiet P ops S (fun a' => wpOp P ops Q i (fun a2 w2 => S w2 ∧ wpWaysL P ops Q S t a2 w2) a' w ∧ wpOp P ops Q j (fun a2 w2 => S w2 ∧ wpWaysL P ops Q S u a2 w2) a' w) (picks ops ps) a

def plainsLB (md : Region.Mode) (ops : Array Oper) (last : Nat) : List Nat → Array Bool → Bool
  | [], _ => true
  | i :: is, listed => (match ops[i]? with | some o => plainOp2 o.op | none => false) && Region.free md ops listed i && (Region.ready md ops listed).contains i && decide (i < last) && plainsLB md ops last is (listed.setIfInBounds i true)
def waysLB (md : Region.Mode) (ops : Array Oper) (last : Nat) : Nat → WaysL → Array Bool → Bool
  | n, .fin ps i, listed => plainsLB md ops last ps listed && decide (Region.ready md ops (marked listed ps) = [i]) && decide (i = last) && decide (Region.ready md ops ((marked listed ps).setIfInBounds i true) = []) && decide (ps.length + 1 = n)
  | n, .one ps i t, listed => plainsLB md ops last ps listed && decide (Region.ready md ops (marked listed ps) = [i]) && decide (i < last) && decide (ps.length + 1 ≤ n) && waysLB md ops last (n - ps.length - 1) t ((marked listed ps).setIfInBounds i true)
  | n, .two ps i t j u, listed => plainsLB md ops last ps listed && decide (Region.ready md ops (marked listed ps) = [i, j]) && decide (i < last) && decide (j < last) && decide (ps.length + 1 ≤ n) && waysLB md ops last (n - ps.length - 1) t ((marked listed ps).setIfInBounds i true) && waysLB md ops last (n - ps.length - 1) u ((marked listed ps).setIfInBounds j true)

theorem plains_takeL {Q : Exit → Act → World → Prop} {L : Act → Prop} {f : Nat} {w : World} (hsel : Region.noSelect ops = true) (hQ : ∀ c a d u w, Q (.panic c) (a.put d u) w → Q (.panic c) a w) (hs : Region.sinkB md ops last = true) (hc : Region.chainB md ops last = true) (hn : last < ops.size) (hS : S w) :
    ∀ (is : List Nat) (listed : Array Bool) (a : Act), HeadInv md ops last listed → plainsLB md ops last is listed = true → wpQuiet P ops S L (picks ops is) a →
    (∀ a', HeadInv md ops last (marked listed is) → L a' → wpAnyL P md ops Q S last f (marked listed is) a' w) → wpAnyL P md ops Q S last (is.length + f) listed a w
  | [], listed, a, inv, _, h, hL => by rw [List.length_nil, Nat.zero_add]; exact hL a inv h
  | i :: is, listed, a, inv, hB, h, hL => by
    simp only [plainsLB, Bool.and_eq_true, decide_eq_true_eq] at hB
    obtain ⟨⟨⟨⟨hp, hf⟩, hr⟩, hl⟩, hB'⟩ := hB
    cases hi : ops[i]? with
    | none => rw [hi] at hp; cases hp
    | some o =>
      rw [hi] at hp
      simp only [picks, hi] at h
      have hst : qOp P ops S i (wpQuiet P ops S L (picks ops is)) a := by unfold qOp; simp only [hi]; exact h
      obtain ⟨v, hy, hK⟩ := yieldsIn_of_qOp hi hst
      have hr' : i ∈ Region.ready md ops listed := by simpa using hr
      have ih := plains_takeL hsel hQ hs hc hn hS is (listed.setIfInBounds i true) (a.put o.dst v) (inv.set hr' hl) hB' hK hL
      rw [List.length_cons, show is.length + 1 + f = is.length + f + 1 by omega]
      exact wpAnyL_first hi (Region.noSelect_spec hsel) (fun c a w => hQ c a o.dst v w) hs hc hn hl _ listed a w inv (Region.free_spec hi hf) hr' (yieldsIf_plain2 hp hy) hS ih

theorem waysL_walk {Q : Exit → Act → World → Prop} (hsel : Region.noSelect ops = true) (hQ : ∀ c a d u w, Q (.panic c) (a.put d u) w → Q (.panic c) a w) (hs : Region.sinkB md ops last = true) (hc : Region.chainB md ops last = true) (hn : last < ops.size) :
    ∀ (t : WaysL) (n : Nat) (listed : Array Bool) (a : Act) (w : World), HeadInv md ops last listed → S w → waysLB md ops last n t listed = true → wpWaysL P ops Q S t a w → wpAnyL P md ops Q S last n listed a w
  | .fin ps i, n, listed, a, w, inv, hS, hB, h => by
    simp only [waysLB, Bool.and_eq_true, decide_eq_true_eq] at hB
    obtain ⟨⟨⟨⟨hp, hr⟩, rfl⟩, he⟩, rfl⟩ := hB
    refine plains_takeL (f := 1) hsel hQ hs hc hn hS ps listed a inv hp h (fun a' _ ha => ?_)
    refine ⟨fun h0 => (by rw [hr] at h0; cases h0), fun j hj => ?_⟩
    rw [hr] at hj
    have : j = i := by simpa using hj
    subst this
    exact wpOp_mono (fun a2 w2 h2 => ⟨fun h => absurd rfl h, he, h2⟩) ha
  | .one ps i t, n, listed, a, w, inv, hS, hB, h => by
    simp only [waysLB, Bool.and_eq_true, decide_eq_true_eq] at hB
    obtain ⟨⟨⟨⟨hp, hr⟩, hi⟩, hnn⟩, hB'⟩ := hB
    have := plains_takeL (f := n - ps.length - 1 + 1) hsel hQ hs hc hn hS ps listed a inv hp h (fun a' inv' ha => by
      refine ⟨fun h0 => (by rw [hr] at h0; cases h0), fun j hj => ?_⟩
      have hjr := hj
      rw [hr] at hj
      have : j = i := by simpa using hj
      subst this
      exact wpOp_mono (fun a2 w2 h2 => ⟨fun _ => h2.1, waysL_walk hsel hQ hs hc hn t _ _ a2 w2 (inv'.set hjr hi) h2.1 hB' h2.2⟩) ha)
    rwa [show ps.length + (n - ps.length - 1 + 1) = n by omega] at this
  | .two ps i t j u, n, listed, a, w, inv, hS, hB, h => by
    simp only [waysLB, Bool.and_eq_true, decide_eq_true_eq] at hB
    obtain ⟨⟨⟨⟨⟨⟨hp, hr⟩, hi⟩, hi2⟩, hnn⟩, hB1⟩, hB2⟩ := hB
    have := plains_takeL (f := n - ps.length - 1 + 1) hsel hQ hs hc hn hS ps listed a inv hp h (fun a' inv' ha => by
      refine ⟨fun h0 => (by rw [hr] at h0; cases h0), fun k hk => ?_⟩
      have hkr := hk
      rw [hr] at hk
      have : k = i ∨ k = j := by simpa using hk
      rcases this with rfl | rfl
      · exact wpOp_mono (fun a2 w2 h2 => ⟨fun _ => h2.1, waysL_walk hsel hQ hs hc hn t _ _ a2 w2 (inv'.set hkr hi) h2.1 hB1 h2.2⟩) ha.1
      · exact wpOp_mono (fun a2 w2 h2 => ⟨fun _ => h2.1, waysL_walk hsel hQ hs hc hn u _ _ a2 w2 (inv'.set hkr hi2) h2.1 hB2 h2.2⟩) ha.2)
    rwa [show ps.length + (n - ps.length - 1 + 1) = n by omega] at this

/-- A region that draws, by its ways; its last operation is number 'last'. -/
theorem wp_region_waysL {id : Nat} {Q : Exit → Act → World → Prop} {a : Act} {w : World} {l : List Oper} (last : Nat) (t : WaysL) (hm : P.follows .mixedOrders = true)
    (hB : (Region.noSelect l.toArray && Region.sinkB .any l.toArray last && Region.chainB .any l.toArray last && decide (last < l.length) && waysLB .any l.toArray last l.length t (Array.replicate l.length false)) = true)
    (hQ : ∀ c a d u w, Q (.panic c) (a.put d u) w → Q (.panic c) a w) (hS : S w.drew) (h : wpWaysL P l.toArray Q S t a w.drew) : (Code.region id l.toArray true).wp P Q a w := by
  simp only [Bool.and_eq_true, decide_eq_true_eq] at hB
  obtain ⟨⟨⟨⟨hsel, hs⟩, hc⟩, hn⟩, hw⟩ := hB
  have inv0 : HeadInv .any l.toArray last (Array.replicate l.length false) :=
    ⟨by simp, fun j oj _ hl => (by rw [getD_replicate_false] at hl; cases hl), fun t _ ht => getD_in (by simpa using ht) (getD_replicate_false _ _)⟩
  refine wp_region_any hm (any_of_anyL (S := S) (last := last) _ _ _ _ ?_)
  have := waysL_walk (md := .any) hsel hQ hs hc (by simpa using hn) t l.length (Array.replicate l.length false) a w.drew inv0 hS hw h
  simpa using this
end
end Go.Proofs.YtiidohaibbdgeaaDoor
