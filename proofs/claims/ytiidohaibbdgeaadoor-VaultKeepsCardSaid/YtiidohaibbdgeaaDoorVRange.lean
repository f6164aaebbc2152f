/-
  A range over a function whose body never leaves its round: the iterator may keep state of its own in cells.
-/
import Derived.RangeFuncNested
import Derived.RangeFuncBound
import Derived.RangeFuncCalls
import Derived.RangeFuncLeaves
import Derived.Test.YtiidohaibbdgeaaDoorVAll
namespace Go.Proofs.YtiidohaibbdgeaaDoor
open Go Go.RowKit

section
variable {n : Nat} {P : Program}

/-- What is no cells lies as it lay. -/
def OthersSame (W W' : World) : Prop := ∀ (k : Nat) (o : Obj), W.heap[k]? = some o → o.isCells = false → W'.heap[k]? = some o
/-- How a body's walk ends: it goes on. -/
def onPost {α : Type} (Kp : World → World → Prop) (I : List α → World → Prop) (xs : List α) (W : World) : Exit → Act → World → Prop
  | .normal, _, W' => OthersSame W W' ∧ Kp W W' ∧ I xs W'
  | _, _, _ => False

/-- One round of such a loop, for its iterator. -/
def Rounds {α : Type} (P : Program) (n l : Nat) (encs : α → Array Value) (Kp : World → World → Prop) (J : List α → World → Prop) (N : Nat) : Prop :=
  ∀ pre x W1, J pre W1 → pre.length < N → YieldAt Fence.wide n P l (encs x) W1 fun e W' => e = .returned (.bool true) ∧ J (pre ++ [x]) W' ∧ Kp W1 W'

theorem wp_range_on {α : Type} {g : Operand} {ps : Array Tmp} {assign body : Code} {Q : Exit → Act → World → Prop} {a : Act} {w : World}
    {gf : Nat} {lb : Array Value} (hg : a.eval g = .func (.func gf) #[] lb) (eg : ∀ args w, (callFunc gf args).run P w = .ok (.enter gf args) w)
    (encs : α → Array Value) (hps : ∀ x, (encs x).size = ps.size) (Kp : World → World → Prop) (I : List α → World → Prop) (S : List α → World → Prop) (N : Nat)
    (hKt : ∀ {A B C : World}, Kp A B → Kp B C → Kp A C)
    (hKb : ∀ (W : World) (l : Nat) (o o' : Obj), w.heap.size ≤ l → W.heap[l]? = some o → o.isCells = false → Kp W (W.putObj l o'))
    (hIb : ∀ (pre : List α) (W : World) (l : Nat) (o o' : Obj), w.heap.size ≤ l → W.heap[l]? = some o → o.isCells = false → I pre W → I pre (W.putObj l o'))
    (h0 : ∀ o o', I [] ((w.alloc o).alloc o'))
    (hiter : ∀ (l : Nat) (W : World) (J : List α → World → Prop), Below w.heap.size w W → (∀ pre W, J pre W → I pre W) →
      (∀ pre A B, J pre A → OthersSame A B → I pre B → J pre B) → Rounds P n l encs Kp J N → J [] W →
      CallsIn Fence.wide n P gf (#[.func (.yield l) #[] #[]] ++ lb) W fun e W' => (∃ v, e = .returned v) ∧ ∃ xs, S xs W' ∧ J xs W')
    (hSb : ∀ (xs : List α) (W : World) (l : Nat) (o o' : Obj), w.heap.size ≤ l → W.heap[l]? = some o → o.isCells = false → S xs W → S xs (W.putObj l o'))
    (a₁ : α → Act)
    (hassign : ∀ (l : Nat) (x : α) (W : World) (K : Act → World → Prop), K (a₁ x) W →
      assign.wpIn (Fence.wide.inRound l) n P (Exit.then K (fun _ _ _ => False)) { tmps := (ps.zip (encs x)).foldl (fun t (p, v) => t.setIfInBounds p v) a.tmps, defers := [] } W)
    (hbody : ∀ (l : Nat) (pre : List α) (x : α) (W : World), I pre W → pre.length < N → body.wpIn (Fence.wide.inRound l) n P (onPost Kp I (pre ++ [x]) W) (a₁ x) W)
    (hdone : ∀ (D : Nat) (xs : List α) (W : World), w.heap.size ≤ D → S xs W → I xs W → W.heap[D]? = some (.deferred (some [])) → Q .normal { a with defers := { target := .collected D, args := #[] } :: a.defers } W) :
    (Code.rangeFunc g ps assign body).wpIn Fence.wide (n + 1) P Q a w := by
  refine wpIn_rangeFunc fun fn hfn => ?_
  let rec1 : LoopState → Loop := fun st => { state := st, pending := none, fn := fn, tmps := a.tmps, params := ps, assign := assign, body := body, defers := w.heap.size }
  let W1 := (w.alloc (.deferred (some []))).alloc (.loop (rec1 .ready))
  have eL : W1.heap[w.heap.size + 1]? = some (.loop (rec1 .ready)) := by
    have := World.alloc_heap_new (w.alloc (.deferred (some []))) (.loop (rec1 .ready))
    rwa [World.size_alloc] at this
  have eD : W1.heap[w.heap.size]? = some (.deferred (some [])) := (Below.heap_alloc _ _ _ (by simp)).trans (World.alloc_heap_new w _)
  have eB : Below w.heap.size w W1 := ((Below.refl _ w).alloc (Nat.le_refl _) _).alloc (by simp) _
  refine ⟨w.heap.size + 1, _, W1, { target := .fn (.func gf) lb, args := #[.func (.yield (w.heap.size + 1)) #[] #[]] }, W1, gf, #[.func (.yield (w.heap.size + 1)) #[] #[]] ++ lb, W1, run_enterLoop_outer _ _ _ _ _, ?_, fun _ _ => trivial, ?_, fun h => (by simp [Fence.wide] at h), ?_⟩
  · simp only [resolve, hg]
    simp [go_sem]
  · simp [invoke, go_sem, eg]
  · -- the iterator, at the invariant with the two facts of book-keeping beside it
    let J : List α → World → Prop := fun pre W => I pre W ∧ W.heap[w.heap.size + 1]? = some (.loop (rec1 .ready)) ∧ W.heap[w.heap.size]? = some (.deferred (some []))
    refine (hiter (w.heap.size + 1) W1 J eB (fun _ _ h => h.1) (fun pre A B hA hs hI => ⟨hI, hs _ _ hA.2.1 rfl, hs _ _ hA.2.2 rfl⟩) ?_ ⟨h0 _ _, eL, eD⟩).mono ?_
    · intro pre x W ⟨hi, hl, hd⟩ hlen
      have hlt : w.heap.size + 1 < W.heap.size := heap_lt hl
      refine ⟨fn, _, assign, body, run_yield hl (hps x), roundIn_of_wpIn hfn (hassign _ x W _ ⟨_, run_beginRound hl rfl, ?_⟩)⟩
      have l2 : (W.putObj (w.heap.size + 1) (.loop (rec1 .busy))).heap[w.heap.size + 1]? = some (.loop (rec1 .busy)) := World.putObj_heap_same hlt
      have d2 : (W.putObj (w.heap.size + 1) (.loop (rec1 .busy))).heap[w.heap.size]? = some (.deferred (some [])) := (World.putObj_heap_other (by omega)).trans hd
      refine wpIn_mono (hbody _ pre x _ (hIb _ _ _ _ _ (by omega) hl rfl hi) hlen) ?_
      intro e a3 W3 hp
      cases e with
      | normal =>
        obtain ⟨hs3, hk3, hi3⟩ := hp
        have l3 := hs3 _ _ l2 rfl
        have d3 := hs3 _ _ d2 rfl
        refine ⟨_, _, run_endRound none l3, rfl, ⟨hIb _ _ _ _ _ (by omega) l3 rfl hi3, World.putObj_heap_same (heap_lt l3), (World.putObj_heap_other (by omega)).trans d3⟩, ?_⟩
        exact hKt (hKt (hKb _ _ _ _ (by omega) hl rfl) hk3) (hKb _ _ _ _ (by omega) l3 rfl)
      | _ => exact hp.elim
    · rintro e W2 ⟨⟨v, rfl⟩, xs, hS, hi, hl, hd⟩
      refine ⟨none, _, run_endLoop hl (by simp [rec1]), ?_⟩
      exact hdone _ xs _ (Nat.le_refl _) (hSb _ _ _ _ _ (by omega) hl rfl hS) (hIb _ _ _ _ _ (by omega) hl rfl hi) ((World.putObj_heap_other (by omega)).trans hd)
end
end Go.Proofs.YtiidohaibbdgeaaDoor
