/-
  A region that draws its order, walked as a tree: operations that only read or reckon come first as soon as they may; then whichever of the one or two that are left comes up, each by its own way.
-/
import Derived.Test.YtiidohaibbdgeaaDoorSegs
namespace Go.Proofs.YtiidohaibbdgeaaDoor
open Go Go.RowKit

section
variable {P : Program} {ops : Array Oper} {md : Region.Mode} {S : World → Prop}

/-- .. or it is a built-in that hands back a value, or a nil check. -/
def plainOp2 : Op → Bool
  | .call c => match c.callee with
    | .builtin b => b == .len || b == .cap || b == .min || b == .max
    | _ => false
  | .nilCheck _ => true
  | op => plainOp op

theorem bind_ok {α β : Type} {s : Sem α} {f : α → Sem β} {w w' : World} {n : β} (h : (s >>= f).run P w = .ok n w') : ∃ u w2, s.run P w = .ok u w2 ∧ (f u).run P w2 = .ok n w' := by
  rw [Sem.run_bind] at h
  cases hr : s.run P w with
  | ok u w2 => rw [hr] at h; exact ⟨u, w2, rfl, h⟩
  | halt x w2 => rw [hr] at h; simp [Result.andThen] at h

theorem plain_value2 {o : Oper} {ρ : Operand → Value} {w w' : World} {n : Next} (hp : plainOp2 o.op = true) (h : (execOp ρ o).run P w = .ok n w') : ∃ u, n = .value u := by
  cases ho : o.op with
  | call c =>
    rw [ho] at hp
    simp only [plainOp2] at hp
    unfold execOp at h
    rw [ho] at h
    simp only at h
    cases hc : c.callee with
    | builtin b =>
      rw [hc] at hp
      simp only at hp
      unfold resolve at h
      rw [hc] at h
      simp only [Sem.run_bind, Sem.run_pure, Result.andThen_ok] at h
      unfold invoke builtin at h
      cases b <;> first
        | exact value_of_v h
        | (cases hp; done)
    | _ => rw [hc] at hp; cases hp
  | nilCheck x =>
    unfold execOp at h
    rw [ho] at h
    simp only at h
    split at h
    · cases h
    · cases h
    · cases h
    · split at h
      · cases h
      · obtain ⟨_, _, _, h⟩ := bind_ok h
        obtain ⟨_, _, _, h⟩ := bind_ok h
        split at h
        · obtain ⟨_, _, _, h⟩ := bind_ok h
          injection h with h _; exact ⟨_, h.symm⟩
        · injection h with h _; exact ⟨_, h.symm⟩
      · injection h with h _; exact ⟨_, h.symm⟩
    · injection h with h _; exact ⟨_, h.symm⟩
  | _ =>
    rw [ho] at hp
    exact plain_value (by rw [ho]; exact hp) h
theorem yields_of_quiet2 {C : World → Prop} {o : Oper} {a : Act} {v : Value} (hp : plainOp2 o.op = true) (h : ∀ w, C w → o.quietAt P a C w v) : ∀ w, C w → (execOp a.eval o).run P w = .ok (.value v) w := fun w hw => by
  have hq := h w hw
  unfold Oper.quietAt at hq
  cases hr : (execOp a.eval o).run P w with
  | ok n w' =>
    rw [hr] at hq
    obtain ⟨u, rfl⟩ := plain_value2 hp hr
    obtain ⟨rfl, rfl⟩ := hq
    rfl
  | halt x w' => rw [hr] at hq; exact hq.elim
theorem yieldsIf_plain2 {C : World → Prop} {oi : Oper} {v : Value} {a : Act} (hp : plainOp2 oi.op = true) (hy : YieldsIn P ops C oi v a) : YieldsIf P ops C oi v a := by
  rcases hy with ⟨hw, hv⟩ | hno
  · exact .inl ⟨hw, yields_of_quiet2 hp hv⟩
  · exact .inr hno

/-- The orders of the operations that do something. -/
inductive Ways where
  | last (ps : List Nat)
  | one (ps : List Nat) (i : Nat) (t : Ways)
  | two (ps : List Nat) (i : Nat) (t : Ways) (j : Nat) (u : Ways)

/-- Plain ones, then whichever comes up; and so on; plain ones at last. -/
def wpWays (P : Program) (ops : Array Oper) (Q : Exit → Act → World → Prop) (S : World → Prop) : Ways → Act → World → Prop
  | .last ps, a, w => wpQuiet P ops S (fun a' => Q .normal a' w) (picks ops ps) a
  | .one ps i t, a, w => wpQuiet P ops S (fun a' => wpOp P ops Q i (fun a2 w2 => S w2 ∧ wpWays P ops Q S t a2 w2) a' w) (picks ops ps) a
  | .two ps i t j u, a, w => wpQuiet P ops S (fun a' => wpOp P ops Q i (fun a2 w2 => S w2 ∧ wpWays P ops Q S t a2 w2) a' w ∧ wpOp P ops Q j (fun a2 w2 => S w2 ∧ wpWays P ops Q S u a2 w2) a' w) (picks ops ps) a

def plains2B (md : Region.Mode) (ops : Array Oper) : List Nat → Array Bool → Bool
  | [], _ => true
  | i :: is, listed => (match ops[i]? with | some o => plainOp2 o.op | none => false) && Region.free md ops listed i && (Region.ready md ops listed).contains i && plains2B md ops is (listed.setIfInBounds i true)
def waysB (md : Region.Mode) (ops : Array Oper) : Nat → Ways → Array Bool → Bool
  | n, .last ps, listed => plains2B md ops ps listed && decide (Region.ready md ops (marked listed ps) = []) && decide (ps.length = n)
  | n, .one ps i t, listed => plains2B md ops ps listed && decide (Region.ready md ops (marked listed ps) = [i]) && decide (ps.length + 1 ≤ n) && waysB md ops (n - ps.length - 1) t ((marked listed ps).setIfInBounds i true)
  | n, .two ps i t j u, listed => plains2B md ops ps listed && decide (Region.ready md ops (marked listed ps) = [i, j]) && decide (ps.length + 1 ≤ n) && waysB md ops (n - ps.length - 1) t ((marked listed ps).setIfInBounds i true) && waysB md ops (n - ps.length - 1) u ((marked listed ps).setIfInBounds j true)

theorem plains_take2 {Q : Exit → Act → World → Prop} {L : Act → Prop} {f : Nat} {w : World} (hsel : Region.noSelect ops = true) (hQ : ∀ c a d u w, Q (.panic c) (a.put d u) w → Q (.panic c) a w) (hS : S w) :
    ∀ (is : List Nat) (listed : Array Bool) (a : Act), plains2B md ops is listed = true → wpQuiet P ops S L (picks ops is) a →
    (∀ a', L a' → wpAnyH P md ops Q S f (marked listed is) a' w) → wpAnyH P md ops Q S (is.length + f) listed a w
  | [], listed, a, _, h, hL => by rw [List.length_nil, Nat.zero_add]; exact hL a h
  | i :: is, listed, a, hB, h, hL => by
    simp only [plains2B, Bool.and_eq_true] at hB
    obtain ⟨⟨⟨hp, hf⟩, hr⟩, hB'⟩ := hB
    cases hi : ops[i]? with
    | none => rw [hi] at hp; cases hp
    | some o =>
      rw [hi] at hp
      simp only [picks, hi] at h
      have hst : qOp P ops S i (wpQuiet P ops S L (picks ops is)) a := by unfold qOp; simp only [hi]; exact h
      obtain ⟨v, hy, hK⟩ := yieldsIn_of_qOp hi hst
      have ih := plains_take2 hsel hQ hS is (listed.setIfInBounds i true) (a.put o.dst v) hB' hK hL
      rw [List.length_cons, show is.length + 1 + f = is.length + f + 1 by omega]
      exact wpAnyH_take hi hsel hf hr (fun c a w => hQ c a o.dst v w) (yieldsIf_plain2 hp hy) hS ih

theorem ways_walk {Q : Exit → Act → World → Prop} (hsel : Region.noSelect ops = true) (hQ : ∀ c a d u w, Q (.panic c) (a.put d u) w → Q (.panic c) a w) :
    ∀ (t : Ways) (n : Nat) (listed : Array Bool) (a : Act) (w : World), S w → waysB md ops n t listed = true → wpWays P ops Q S t a w → wpAnyH P md ops Q S n listed a w
  | .last ps, n, listed, a, w, hS, hB, h => by
    simp only [waysB, Bool.and_eq_true, decide_eq_true_eq] at hB
    obtain ⟨⟨hp, hr⟩, rfl⟩ := hB
    have := plains_take2 (f := 0) hsel hQ hS ps listed a hp h (fun a' ha => wpAnyH_done hr ha 0)
    simpa using this
  | .one ps i t, n, listed, a, w, hS, hB, h => by
    simp only [waysB, Bool.and_eq_true, decide_eq_true_eq] at hB
    obtain ⟨⟨⟨hp, hr⟩, hn⟩, hB'⟩ := hB
    have := plains_take2 (f := n - ps.length - 1 + 1) hsel hQ hS ps listed a hp h (fun a' ha => by
      refine wpAnyH_all hr (by simp) fun j hj => ?_
      have : j = i := by simpa using hj
      subst this
      exact wpOp_mono (fun a2 w2 h2 => ⟨h2.1, ways_walk hsel hQ t _ _ a2 w2 h2.1 hB' h2.2⟩) ha)
    rwa [show ps.length + (n - ps.length - 1 + 1) = n by omega] at this
  | .two ps i t j u, n, listed, a, w, hS, hB, h => by
    simp only [waysB, Bool.and_eq_true, decide_eq_true_eq] at hB
    obtain ⟨⟨⟨⟨hp, hr⟩, hn⟩, hB1⟩, hB2⟩ := hB
    have := plains_take2 (f := n - ps.length - 1 + 1) hsel hQ hS ps listed a hp h (fun a' ha => by
      refine wpAnyH_all hr (by simp) fun k hk => ?_
      have : k = i ∨ k = j := by simpa using hk
      rcases this with rfl | rfl
      · exact wpOp_mono (fun a2 w2 h2 => ⟨h2.1, ways_walk hsel hQ t _ _ a2 w2 h2.1 hB1 h2.2⟩) ha.1
      · exact wpOp_mono (fun a2 w2 h2 => ⟨h2.1, ways_walk hsel hQ u _ _ a2 w2 h2.1 hB2 h2.2⟩) ha.2)
    rwa [show ps.length + (n - ps.length - 1 + 1) = n by omega] at this

/-- A region that draws, by its ways. -/
theorem wp_region_ways {id : Nat} {Q : Exit → Act → World → Prop} {a : Act} {w : World} {l : List Oper} (t : Ways) (hm : P.follows .mixedOrders = true)
    (hB : (Region.noSelect l.toArray && waysB .any l.toArray l.length t (Array.replicate l.length false)) = true)
    (hQ : ∀ c a d u w, Q (.panic c) (a.put d u) w → Q (.panic c) a w) (hS : S w.drew) (h : wpWays P l.toArray Q S t a w.drew) : (Code.region id l.toArray true).wp P Q a w := by
  simp only [Bool.and_eq_true] at hB
  refine wp_region_any hm (wpAny_of_held _ _ _ _ (S := S) ?_)
  have := ways_walk (md := .any) hB.1 hQ t l.length (Array.replicate l.length false) a w.drew hS hB.2 h
  simpa using this

/-- The endings of one operation alone. -/
def ThenK (Q : Exit → Act → World → Prop) (K : Act → World → Prop) (e : Exit) (a : Act) (w : World) : Prop := match e with
  | .normal => K a w
  | e => Q e a w
/-- A law of a list's head, at one operation. -/
theorem wpOp_of_list {Q : Exit → Act → World → Prop} {i : Nat} {o : Oper} {K : Act → World → Prop} {a : Act} {w : World} (ho : ops[i]? = some o) (h : wpList P ops (ThenK Q K) [o] a w) : wpOp P ops Q i K a w := by
  unfold wpOp
  simp only [ho]
  unfold wpList at h
  split
  · rename_i hw
    rw [if_pos hw] at h
    rcases h with h | ⟨h1, h2⟩
    · refine .inl ?_
      unfold Oper.wp at h ⊢
      generalize (execOp a.eval o).run P w = r at *
      cases r with
      | ok n w' =>
        cases n <;> simp only [Oper.upon] at h ⊢ <;> first
          | exact h
          | (refine Calls.mono h fun e w'' he => ?_
             cases e <;> exact he)
      | halt x w' => cases x <;> simp only [Oper.upon] at h ⊢ <;> exact h
    · exact .inr ⟨h1, h2⟩
  · rename_i hw
    rw [if_neg hw] at h
    exact h
theorem wpList_end {Q : Exit → Act → World → Prop} {K : Act → World → Prop} {a : Act} {w : World} (h : K a w) : wpList P ops (ThenK Q K) [] a w := h

/-- A piece of a slice. -/
theorem exec_piece {o : Oper} {a : Act} {t : TypeId} {x : Operand} {lo hi mx : Option Operand} {v : Value} {w : World} (ho : o.op = .slice t x lo hi mx)
    (h : (Instr.sliceAt t (a.eval x) (lo.map a.eval) (hi.map a.eval) (mx.map a.eval)).run P w = .ok v w) : (execOp a.eval o).run P w = .ok (.value v) w := by
  unfold execOp
  simp only [ho, Sem.run_bind, h, Result.andThen_ok, Sem.run_pure]
end
end Go.Proofs.YtiidohaibbdgeaaDoor
