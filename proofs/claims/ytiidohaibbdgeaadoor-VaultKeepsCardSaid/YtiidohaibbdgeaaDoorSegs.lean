/-
  A region that draws its order, walked in one order: operations that only read or reckon come first as soon as they may; the others (calls, makers of memory) then come up one by one.
-/
import Derived.Test.YtiidohaibbdgeaaDoorHeldQ
namespace Go.Proofs.YtiidohaibbdgeaaDoor
open Go Go.RowKit

section
variable {P : Program} {ops : Array Oper} {md : Region.Mode} {S : World → Prop}

/-- The operations of these numbers. -/
def picks (ops : Array Oper) : List Nat → List Oper
  | [] => []
  | i :: is => match ops[i]? with
    | some o => o :: picks ops is
    | none => picks ops is

/-- Plain ones, then one that does something; and so on; plain ones at last. -/
def wpSegs (P : Program) (ops : Array Oper) (Q : Exit → Act → World → Prop) (S : World → Prop) : List (List Nat × Nat) → List Nat → Act → World → Prop
  | [], last, a, w => wpQuiet P ops S (fun a' => Q .normal a' w) (picks ops last) a
  | (ps, i) :: segs, last, a, w => wpQuiet P ops S (fun a' => wpOp P ops Q i (fun a2 w2 => S w2 ∧ wpSegs P ops Q S segs last a2 w2) a' w) (picks ops ps) a

def plainsB (md : Region.Mode) (ops : Array Oper) : List Nat → Array Bool → Bool
  | [], _ => true
  | i :: is, listed => (match ops[i]? with | some o => plainOp o.op | none => false) && Region.free md ops listed i && (Region.ready md ops listed).contains i && plainsB md ops is (listed.setIfInBounds i true)
def marked (listed : Array Bool) (is : List Nat) : Array Bool := is.foldl (fun l i => l.setIfInBounds i true) listed
def segsB (md : Region.Mode) (ops : Array Oper) : List (List Nat × Nat) → List Nat → Array Bool → Bool
  | [], last, listed => plainsB md ops last listed && decide (Region.ready md ops (marked listed last) = [])
  | (ps, i) :: segs, last, listed => plainsB md ops ps listed && decide (Region.ready md ops (marked listed ps) = [i]) && segsB md ops segs last ((marked listed ps).setIfInBounds i true)

theorem plains_take {Q : Exit → Act → World → Prop} {L : Act → Prop} {f : Nat} {w : World} (hsel : Region.noSelect ops = true) (hQ : ∀ c a d u w, Q (.panic c) (a.put d u) w → Q (.panic c) a w) (hS : S w) :
    ∀ (is : List Nat) (listed : Array Bool) (a : Act), plainsB md ops is listed = true → wpQuiet P ops S L (picks ops is) a →
    (∀ a', L a' → wpAnyH P md ops Q S f (marked listed is) a' w) → wpAnyH P md ops Q S (is.length + f) listed a w
  | [], listed, a, _, h, hL => by rw [List.length_nil, Nat.zero_add]; exact hL a h
  | i :: is, listed, a, hB, h, hL => by
    simp only [plainsB, Bool.and_eq_true] at hB
    obtain ⟨⟨⟨hp, hf⟩, hr⟩, hB'⟩ := hB
    cases hi : ops[i]? with
    | none => rw [hi] at hp; cases hp
    | some o =>
      rw [hi] at hp
      simp only [picks, hi] at h
      have hst : qOp P ops S i (wpQuiet P ops S L (picks ops is)) a := by unfold qOp; simp only [hi]; exact h
      obtain ⟨v, hy, hK⟩ := yieldsIn_of_qOp hi hst
      have ih := plains_take hsel hQ hS is (listed.setIfInBounds i true) (a.put o.dst v) hB' hK hL
      rw [List.length_cons, show is.length + 1 + f = is.length + f + 1 by omega]
      exact wpAnyH_take hi hsel hf hr (fun c a w => hQ c a o.dst v w) (yieldsIf_plain hp hy) hS ih

theorem segs_walk {Q : Exit → Act → World → Prop} (hsel : Region.noSelect ops = true) (hQ : ∀ c a d u w, Q (.panic c) (a.put d u) w → Q (.panic c) a w) :
    ∀ (segs : List (List Nat × Nat)) (last : List Nat) (listed : Array Bool) (a : Act) (w : World) (f : Nat), S w → segsB md ops segs last listed = true → wpSegs P ops Q S segs last a w →
    wpAnyH P md ops Q S ((segs.map fun s => s.1.length + 1).sum + last.length + f) listed a w
  | [], last, listed, a, w, f, hS, hB, h => by
    simp only [segsB, Bool.and_eq_true, decide_eq_true_eq] at hB
    have := plains_take (f := f) hsel hQ hS last listed a hB.1 h (fun a' ha => wpAnyH_done hB.2 ha f)
    simpa using this
  | (ps, i) :: segs, last, listed, a, w, f, hS, hB, h => by
    simp only [segsB, Bool.and_eq_true, decide_eq_true_eq] at hB
    obtain ⟨⟨hp, hr⟩, hB'⟩ := hB
    have := plains_take (f := (segs.map fun s => s.1.length + 1).sum + last.length + f + 1) hsel hQ hS ps listed a hp h (fun a' ha => by
      refine wpAnyH_all hr (by simp) fun j hj => ?_
      have : j = i := by simpa using hj
      subst this
      exact wpOp_mono (fun a2 w2 h2 => ⟨h2.1, segs_walk hsel hQ segs last _ a2 w2 f h2.1 hB' h2.2⟩) ha)
    rw [List.map_cons, List.sum_cons]
    rwa [show ps.length + 1 + (segs.map fun s => s.1.length + 1).sum + last.length + f = ps.length + ((segs.map fun s => s.1.length + 1).sum + last.length + f + 1) by omega]

theorem wp_region_segs {id : Nat} {Q : Exit → Act → World → Prop} {a : Act} {w : World} {l : List Oper} (segs : List (List Nat × Nat)) (last : List Nat) (hm : P.follows .mixedOrders = true)
    (hB : (Region.noSelect l.toArray && segsB .any l.toArray segs last (Array.replicate l.length false) && decide ((segs.map fun s => s.1.length + 1).sum + last.length = l.length)) = true)
    (hQ : ∀ c a d u w, Q (.panic c) (a.put d u) w → Q (.panic c) a w) (hS : S w.drew) (h : wpSegs P l.toArray Q S segs last a w.drew) : (Code.region id l.toArray true).wp P Q a w := by
  simp only [Bool.and_eq_true, decide_eq_true_eq] at hB
  obtain ⟨⟨hsel, hs⟩, hn⟩ := hB
  refine wp_region_any hm (wpAny_of_held _ _ _ _ (S := S) ?_)
  have := segs_walk (md := .any) hsel hQ segs last (Array.replicate l.length false) a w.drew 0 hS hs h
  rw [hn] at this
  simpa using this
end
end Go.Proofs.YtiidohaibbdgeaaDoor
