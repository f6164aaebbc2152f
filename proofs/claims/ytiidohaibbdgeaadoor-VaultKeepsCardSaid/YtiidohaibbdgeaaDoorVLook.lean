/-
  What a file has (vault.whole, vault.look).
-/
import Derived.Test.YtiidohaibbdgeaaDoorVWhole
namespace Go.Proofs.YtiidohaibbdgeaaDoor
open Go Go.RowKit

set_option maxRecDepth 100000 in
set_option maxHeartbeats 1000000 in
theorem whole_any (Y : Bs) (ya : Option Addr) (yc : Nat) (g : Nat) (w : World) :
    Calls Tryd.prog 60 #[.slice ya Y.length yc, .int .u64 g] w fun e w' => e = .returned (.func (.func 74) #[] #[.pointer (some ⟨w.heap.size, 0, none⟩), .pointer (some ⟨w.heap.size + 1, 0, none⟩)]) ∧
      w' = (w.alloc (.cells #[.slice ya Y.length yc] 35)).alloc (.cells #[.int .u64 g] 55) := by
  go_enter Tryd.func60, Tryd.ntmps60
  go_wp2
  go_ret
  exact ⟨by simp, rfl⟩

/-- Records of one's own. -/
def OwnRecs (w : World) (base : Nat) (v : Value) (l : List Bs) : Prop :=
  ∃ xs : List RecV, xs.map (·.bs) = l ∧ w.ownsRow base 35 1 v xs.length (xs.map RecV.val) ∧ ∀ x ∈ xs, x.at_ w

def foundV (f g : Nat) (v : Value) (good : Nat) : Value := .agg #[.int .i64 f, .int .u64 g, v, .int .i64 good]
theorem found_one (f g good : Int) (a : Option Addr) (n c : Nat) : (#[.int .i64 f, .int .u64 g, .slice a n c, .int .i64 good] : Array Value).all (·.oneCell') = true := by simp [Value.oneCell']
attribute [local go_sem] Oper.semAt_some
/-- What look hands back. -/
def LookRet (f : Nat) (r : Option (Nat × List Bs)) (w : World) (e : Ending) (w' : World) : Prop :=
  Below w.heap.size w w' ∧ match r with
    | none => e = .returned (foundV 0 0 (.slice none 0 0) 0)
    | some (g, l) => ∃ v, e = .returned (foundV f g v (44 + sizesL l)) ∧ OwnRecs w' w.heap.size v l

theorem LookRet.nothing {f : Nat} {r : Option (Nat × List Bs)} {w w' : World} (hr : r = none) (hB : Below w.heap.size w w') : LookRet f r w (.returned (.agg #[.int .i64 0, .int .u64 0, .slice none 0 0, .int .i64 0])) w' := by
  subst hr
  exact ⟨hB, rfl⟩
theorem LookRet.found {f g : Nat} {l : List Bs} {v : Value} {r : Option (Nat × List Bs)} {w w' : World} (hr : r = some (g, l)) {Gd : Nat} (hg : Gd = 44 + sizesL l) (hB : Below w.heap.size w w') (ho : OwnRecs w' w.heap.size v l) : LookRet f r w (.returned (.agg #[.int .i64 f, .int .u64 g, v, .int .i64 (Gd : Int)])) w' := by
  subst hr hg
  exact ⟨hB, v, rfl, ho⟩
/-- A walk's end behind no mark. -/
theorem postM_ret {F : Fence} {n : Nat} {P : Program} {fn : Func} {R : Ending → World → Prop} {a : Act} {w : World} {v : Value} (hr : (results fn a.tmps).run P w = .ok v w) (hd : a.defers = []) (h : R (.returned v) w) : bodyPostM F n P fn R .ret a w := by
  obtain ⟨tmps, defers⟩ := a
  simp only at hd
  subst hd
  exact ⟨v, hr, h⟩
/-- .. behind one. -/
theorem postM_mark {F : Fence} {n : Nat} {P : Program} {fn : Func} {R : Ending → World → Prop} {a : Act} {w : World} {D : Nat} {args : Array Value} {v : Value} (hd : a.defers = [{ target := .collected D, args := args }])
    (hD : w.heap[D]? = some (.deferred (some []))) (hr : (results fn a.tmps).run P (w.putObj D (.deferred none)) = .ok v (w.putObj D (.deferred none))) (h : R (.returned v) (w.putObj D (.deferred none))) : bodyPostM F n P fn R .ret a w := by
  obtain ⟨tmps, defers⟩ := a
  simp only at hd
  subst hd
  exact ⟨by simp, .inl ⟨D, _, rfl, run_takeDeferred hD, v, hr, h⟩⟩

/-- No panic. -/
def calmQ (Q : Exit → Act → World → Prop) : Exit → Act → World → Prop
  | .panic _, _, _ => False
  | e, a, w => Q e a w
theorem wp_calm {P : Program} {c : Code} {Q : Exit → Act → World → Prop} {a : Act} {w : World} (h : c.wp P (calmQ Q) a w) : c.wp P Q a w := by
  refine Code.wp_mono ?_ h
  intro e a w hq
  cases e with
  | panic c => exact hq.elim
  | _ => exact hq

theorem look_short {f : Nat} {b : Bs} (h : b.length < 44) : lookL f b = none := by simp [lookL, h]
theorem look_check {f : Nat} {b : Bs} (h : checkL (b.take 12) ≠ (b.drop 12).take 32) : lookL f b = none := by
  unfold lookL
  simp [h]
theorem look_gen {f : Nat} {b : Bs} (h : numL (b.take 8) < 1 ∨ 4611686018427387904 < numL (b.take 8) ∨ numL (b.take 8) % 2 ≠ f) : lookL f b = none := by
  unfold lookL
  simp only [h, if_true, ite_self]
theorem look_few {f : Nat} {b : Bs} (h : (recordsL (numL (b.take 8)) (b.drop 44)).length < numL ((b.drop 8).take 4)) : lookL f b = none := by
  unfold lookL
  simp only [h, if_true, ite_self]
theorem look_good {f : Nat} {b : Bs} (h1 : ¬ b.length < 44) (h2 : checkL (b.take 12) = (b.drop 12).take 32) (h3 : ¬ (numL (b.take 8) < 1 ∨ 4611686018427387904 < numL (b.take 8) ∨ numL (b.take 8) % 2 ≠ f))
    (h4 : ¬ (recordsL (numL (b.take 8)) (b.drop 44)).length < numL ((b.drop 8).take 4)) : lookL f b = some (numL (b.take 8), recordsL (numL (b.take 8)) (b.drop 44)) := by
  unfold lookL
  rw [if_neg h1, if_neg (fun h => h h2), if_neg h3, if_neg h4]

theorem below_put {B : Nat} {w W : World} {l : Nat} (h : Below B w W) (hl : B ≤ l) (o : Obj) : Below B w (W.putObj l o) :=
  ⟨h.os, h.tape, h.output, by simpa using h.size, fun k hk => (World.putObj_heap_other (by omega)).trans (h.block k hk)⟩
theorem below_set {B : Nat} {w W : World} {l : Nat} (h : Below B w W) (hl : B ≤ l) (i : Nat) (u : Value) : Below B w (W.setCell ⟨l, i, none⟩ u) :=
  ⟨h.os, h.tape, h.output, by simpa [World.setCell] using h.size, fun k hk => (Below.heap_setCell W ⟨l, i, none⟩ u k (fun e => by simp only at e; omega)).trans (h.block k hk)⟩
/-- In look's loop, behind some records. -/
def LookInv (w : World) (X n₀ f G : Nat) (pre : List RecV) (W : World) : Prop :=
  Below w.heap.size w W ∧ n₀ ≤ W.heap.size ∧ Blk W w.heap.size 70 #[.int .i64 0, .int .u64 0, .slice none 0 0, .int .i64 0] ∧
  ∃ v, Blk W X 70 #[.int .i64 f, .int .u64 G, v, .int .i64 ((44 + sizesL (pre.map (·.bs)) : Nat) : Int)] ∧ W.ownsRow n₀ 35 1 v pre.length (pre.map RecV.val)
theorem LookInv.below {w A B : World} {X n₀ f G : Nat} {pre : List RecV} (h : LookInv w X n₀ f G pre A) (hb : Below A.heap.size A B) : LookInv w X n₀ f G pre B := by
  obtain ⟨h1, h2, h3, v, h4, h5⟩ := h
  refine ⟨h1.trans (hb.mono h1.size), Nat.le_trans h2 hb.size, h3.below hb h3.lt, v, h4.below hb h4.lt, owns_same h5 fun r hr => ?_⟩
  obtain ⟨cur, hh, _⟩ := owns_block h5 hr
  exact hb.block r (heap_lt hh)
theorem LookInv.set {w A : World} {X n₀ f G bb : Nat} {pre : List RecV} (h : LookInv w X n₀ f G pre A) (h1 : w.heap.size < bb) (h2 : bb ≠ X) (h3 : bb < n₀) (i : Nat) (u : Value) : LookInv w X n₀ f G pre (A.setCell ⟨bb, i, none⟩ u) := by
  obtain ⟨k1, k2, k3, v, k4, k5⟩ := h
  refine ⟨below_set k1 (by omega) i u, by simpa [World.setCell] using k2, k3.far (by simp only; omega) u, v, k4.far (by simp only; omega) u, owns_same k5 fun r hr => ?_⟩
  have := own_ge k5 r hr
  exact Below.heap_setCell A ⟨bb, i, none⟩ u r (fun e => by simp only at e; omega)
theorem LookInv.put {w A : World} {X n₀ f G l : Nat} {pre : List RecV} (h : LookInv w X n₀ f G pre A) {o o' : Obj} (h1 : w.heap.size ≤ l) (ho : A.heap[l]? = some o) (hc : o.isCells = false) : LookInv w X n₀ f G pre (A.putObj l o') := by
  obtain ⟨k1, k2, k3, v, k4, k5⟩ := h
  have hne : ∀ {k : Nat} {cs : Array Value} {t : TypeId} {fr : Nat × Nat}, A.heap[k]? = some (.cells cs t fr) → (A.putObj l o').heap[k]? = A.heap[k]? := fun {k cs t fr} hk => World.putObj_heap_other (fun e => by
    subst e
    rw [ho] at hk
    cases hk
    cases hc)
  refine ⟨below_put k1 h1 _, by simpa using k2, (hne k3).trans k3, v, (hne k4).trans k4, owns_same k5 fun r hr => ?_⟩
  obtain ⟨cur, hh, _⟩ := owns_block k5 hr
  exact hne hh

theorem Tryd.info_u8s : (Tryd.prog.info? 35).map (fun i => (i.zero, i.size, i.bytes)) = some (some (.slice none 0 0), 1, 24) := by kernel_rfl
theorem sizes_le (pre : List RecV) : sizesL (pre.map (·.bs)) ≤ 32804 * pre.length := by
  induction pre with
  | nil => simp [sizesL]
  | cons x l ih =>
    have := x.le
    simp only [List.map_cons, sizesL, List.length_cons]
    omega
theorem look_step {w W w1 : World} {X n₀ f G Gd g5 q5 : Nat} {pre : List RecV} {x : RecV} {v : Value} (hX : w.heap.size < X) (hXn : X < n₀) (k1 : Below w.heap.size w W) (k2 : n₀ ≤ W.heap.size)
    (k3 : Blk W w.heap.size 70 #[.int .i64 0, .int .u64 0, .slice none 0 0, .int .i64 0]) (k4 : Blk W X 70 #[.int .i64 f, .int .u64 G, v, .int .i64 (Gd : Int)])
    (k5 : W.ownsRow n₀ 35 1 v pre.length (pre.map RecV.val)) (hown : w1.ownsRow n₀ 35 1 (.slice (some ⟨g5, 0, none⟩) (pre.length + 1) q5) (pre.length + 1) (pre.map RecV.val ++ [x.val]))
    (hg : (W.alloc (.cells #[x.val] 35)).grownBy w1 v.ownBlock) (hsn : 44 + sizesL ((pre ++ [x]).map (·.bs)) = Gd + (x.bs.length + 36)) (W' : World)
    (hW' : W' = (w1.setCell ⟨X, 2, none⟩ (.slice (some ⟨g5, 0, none⟩) (pre.length + 1) q5)).setCell ⟨X, 3, none⟩ (.int .i64 ((Gd : Int) + ((x.bs.length : Int) + 36)))) :
    OthersSame W W' ∧ Kept3 n₀ X W W' ∧ LookInv w X n₀ f G (pre ++ [x]) W' := by
  have hrow : ∀ k, v.ownBlock = some k → n₀ ≤ k ∧ ∃ cur, W.heap[k]? = some (.cells cur 35 (0, 0)) := fun k hk => by
    obtain ⟨cur, hh, hb⟩ := owns_block k5 hk
    exact ⟨hb, cur, hh⟩
  have hblk : ∀ k, k < W.heap.size → k ≠ X → v.ownBlock ≠ some k → W'.heap[k]? = W.heap[k]? := fun k hk hkX hkr => by
    rw [hW', Below.heap_setCell _ _ _ _ hkX, Below.heap_setCell _ _ _ _ hkX, hg.block k (by simp; omega) (fun e => hkr e.symm)]
    exact Below.heap_alloc _ _ _ hk
  have hX1 : Blk w1 X 70 #[.int .i64 f, .int .u64 G, v, .int .i64 Gd] := (hg.block X (by simp; have := k4.lt; omega) (fun e => by have := (hrow X e.symm).1; omega)).trans (k4.alloc _)
  have hg5 := own_ge hown g5 rfl
  have hs1 : W'.heap.size = w1.heap.size := by rw [hW']; simp [World.setCell]
  have hs2 := hg.size
  rw [World.size_alloc] at hs2
  refine ⟨fun k o hk hc => (hblk k (heap_lt hk) ?_ ?_).trans hk, ⟨by omega, fun k hk hkX => hblk k (by omega) hkX (fun e => by have := (hrow k e).1; omega), fun k cs fr hk => (hblk k (heap_lt hk) ?_ ?_).trans hk⟩, ?_, by omega, (hblk _ k3.lt (by omega) (fun e => by have := (hrow _ e).1; omega)).trans k3, .slice (some ⟨g5, 0, none⟩) (pre.length + 1) q5, ?_, ?_⟩
  · intro e
    subst e
    rw [k4] at hk
    cases hk
    cases hc
  · intro e
    obtain ⟨cur, hh⟩ := (hrow k e).2
    rw [hh] at hk
    cases hk
    cases hc
  · intro e
    subst e
    rw [k4] at hk
    injection hk with hk
    injection hk with _ h2
    exact absurd h2 (by decide)
  · intro e
    obtain ⟨cur, hh⟩ := (hrow k e).2
    rw [hh] at hk
    injection hk with hk
    injection hk with _ h2
    exact absurd h2 (by decide)
  · rw [hW']
    exact below_set (below_set ((k1.alloc k1.size _).grown hg (by have := k1.size; simp; omega) (fun k hk => by have := (hrow k hk).1; omega)) (by omega) _ _) (by omega) _ _
  · have h := (hX1.set 2 (.slice (some ⟨g5, 0, none⟩) (pre.length + 1) q5)).set 3 (.int .i64 ((Gd : Int) + ((x.bs.length : Int) + 36)))
    rw [← hW'] at h
    rw [hsn]
    exact h
  · have h := owns_same (w' := W') hown (fun r hr => by
      cases hr
      rw [hW', Below.heap_setCell _ _ _ _ (by simp only; omega), Below.heap_setCell _ _ _ _ (by simp only; omega)])
    simpa using h
theorem owns_mono {w : World} {base base' : Nat} {e : TypeId} {size : Nat} {v : Value} {n : Nat} {xs : List Value} (h : w.ownsRow base e size v n xs) (hb : base' ≤ base) : w.ownsRow base' e size v n xs :=
  ⟨h.1, h.2.imp id fun ⟨g, cap, cur, h1, h2, rest⟩ => ⟨g, cap, cur, h1, Nat.le_trans hb h2, rest⟩⟩
theorem OwnRecs.same {w w' : World} {base : Nat} {v : Value} {l : List Bs} (h : OwnRecs w base v l)
    (hs : ∀ (k : Nat) (cs : Array Value) (t : TypeId) (fr : Nat × Nat), w.heap[k]? = some (.cells cs t fr) → (t = 5 ∨ t = 35) → w'.heap[k]? = some (.cells cs t fr)) : OwnRecs w' base v l := by
  obtain ⟨xs, h1, h2, h3⟩ := h
  refine ⟨xs, h1, owns_same h2 fun r hr => ?_, fun x hx => (h3 x hx).same fun k cs fr hk => hs k cs _ fr hk (.inl rfl)⟩
  obtain ⟨cur, hh, _⟩ := owns_block h2 hr
  rw [hs r cur _ _ hh (.inr rfl), hh]
theorem OwnRecs.put {w : World} {base : Nat} {v : Value} {l : List Bs} (h : OwnRecs w base v l) {D : Nat} {o : Obj} (ho : w.heap[D]? = some o) (hc : o.isCells = false) (o' : Obj) : OwnRecs (w.putObj D o') base v l :=
  h.same fun k cs t fr hk _ => (World.putObj_heap_other (fun e => by
    subst e
    rw [ho] at hk
    cases hk
    cases hc)).trans hk
theorem OwnRecs.setRow {w : World} {base : Nat} {v : Value} {l : List Bs} (h : OwnRecs w base v l) {g : Nat} {cs : Array Value} (hg : Blk w g 70 cs) (cs' : Array Value) : OwnRecs (w.setRow g cs') base v l :=
  h.same fun k cs t fr hk ht => (setRow_other w g k cs' (fun e => by
    subst e
    rw [hg] at hk
    injection hk with hk
    injection hk with _ h2
    subst h2
    revert ht
    decide)).trans hk
theorem Rounds.any {α : Type} {P : Program} {n m l N : Nat} {encs : α → Array Value} {Kp : World → World → Prop} {J : List α → World → Prop} (h : Rounds P n l encs Kp J N) : Rounds P m l encs Kp J N := fun pre x W1 hJ hl => by
  obtain ⟨fn, tmps, assign, body, h1, h2, h3⟩ := h pre x W1 hJ hl
  exact ⟨fn, tmps, assign, body, h1, h2, fun c cs _ => h3 c cs (fun d hd => by simp [Fence.wide] at hd)⟩
theorem wp_range_on1 {n : Nat} {P : Program} {α : Type} {g : Operand} {p q : Tmp} {assign body : Code} {Q : Exit → Act → World → Prop} {a : Act} {w : World}
    {gf : Nat} {lb : Array Value} (hg : a.eval g = .func (.func gf) #[] lb) (eg : ∀ args w, (callFunc gf args).run P w = .ok (.enter gf args) w)
    (enc : α → Value) (Kp : World → World → Prop) (I : List α → World → Prop) (S : List α → World → Prop) (N : Nat)
    (hKt : ∀ {A B C : World}, Kp A B → Kp B C → Kp A C)
    (hKb : ∀ (W : World) (l : Nat) (o o' : Obj), w.heap.size ≤ l → W.heap[l]? = some o → o.isCells = false → Kp W (W.putObj l o'))
    (hIb : ∀ (pre : List α) (W : World) (l : Nat) (o o' : Obj), w.heap.size ≤ l → W.heap[l]? = some o → o.isCells = false → I pre W → I pre (W.putObj l o'))
    (h0 : ∀ o o', I [] ((w.alloc o).alloc o'))
    (hiter : ∀ (l : Nat) (W : World) (J : List α → World → Prop), Below w.heap.size w W → (∀ pre W, J pre W → I pre W) →
      (∀ pre A B, J pre A → OthersSame A B → I pre B → J pre B) → Rounds P n l (fun x => #[enc x]) Kp J N → J [] W →
      CallsIn Fence.wide n P gf (#[.func (.yield l) #[] #[]] ++ lb) W fun e W' => (∃ v, e = .returned v) ∧ ∃ xs, S xs W' ∧ J xs W')
    (hSb : ∀ (xs : List α) (W : World) (l : Nat) (o o' : Obj), w.heap.size ≤ l → W.heap[l]? = some o → o.isCells = false → S xs W → S xs (W.putObj l o'))
    (hassign : ∀ (l : Nat) (x : α) (W : World) (K : Act → World → Prop), K (({ tmps := a.tmps.setIfInBounds p (enc x), defers := [] } : Act).put (some q) (enc x)) W →
      assign.wpIn (Fence.wide.inRound l) n P (Exit.then K (fun _ _ _ => False)) { tmps := a.tmps.setIfInBounds p (enc x), defers := [] } W)
    (hbody : ∀ (l : Nat) (pre : List α) (x : α) (W : World), I pre W → pre.length < N → body.wpIn (Fence.wide.inRound l) n P (onPost Kp I (pre ++ [x]) W) (({ tmps := a.tmps.setIfInBounds p (enc x), defers := [] } : Act).put (some q) (enc x)) W)
    (hdone : ∀ (D : Nat) (xs : List α) (W : World), w.heap.size ≤ D → S xs W → I xs W → W.heap[D]? = some (.deferred (some [])) → Q .normal { a with defers := { target := .collected D, args := #[] } :: a.defers } W) :
    (Code.rangeFunc g #[p] assign body).wpIn Fence.wide (n + 1) P Q a w :=
  wp_range_on hg eg (fun x => #[enc x]) (fun _ => rfl) Kp I S N hKt hKb hIb h0 hiter hSb _ (fun l x W K hK => by simpa using hassign l x W K hK) hbody hdone

set_option maxRecDepth 100000 in
set_option maxHeartbeats 1000000 in
theorem look_any (f : Nat) (b : Bs) (hb : b.length ≤ 4194304) (ba : Option Addr) (bc : Nat) (hbn : ba = none → bc = 0) (hbc : b.length ≤ bc) (w : World) (hbs : U8At w ba b) (hT : Tab w) :
    Calls Tryd.prog 27 #[.int .i64 f, .slice ba b.length bc] w (LookRet f (lookL f b) w) := by
  have hbs0 := Lib.hid hbs
  have hT0 := Lib.hid hT
  clear hbs hT
  have hi70 : (Tryd.prog.info? 70).map (·.size) = some 4 := by kernel_rfl
  have hres : Blk (w.alloc (.cells #[.int .i64 0, .int .u64 0, .slice none 0 0, .int .i64 0] 70)) w.heap.size 70 #[.int .i64 0, .int .u64 0, .slice none 0 0, .int .i64 0] := Blk.new w _ _
  have hB0 : Below w.heap.size w (w.alloc (.cells #[.int .i64 0, .int .u64 0, .slice none 0 0, .int .i64 0] 70)) := (Below.refl _ _).alloc (Nat.le_refl _) _
  refine (callsIn_wide (n := 3)).1 ?_
  refine callsIn_of_wp_marks Tryd.func27 rfl trivial ?_ rfl
  simp only [Tryd.ntmps27, List.size_toArray, List.length_cons, List.length_nil, Nat.reduceAdd, Nat.reduceSub, Array.replicate_succ, Array.replicate_zero, List.push_toArray, List.append_toArray, List.nil_append, List.cons_append]
  refine wpIn_wide.2 ?_
  go_wp2
  obtain ⟨W0, hW0⟩ : ∃ W0, W0 = w.alloc (.cells #[.int .i64 0, .int .u64 0, .slice none 0 0, .int .i64 0] 70) := ⟨_, rfl⟩
  rw [← hW0] at hres hB0 ⊢
  clear hW0
  by_cases h44 : b.length < 44
  · have hnone := Lib.hid (look_short (f := f) h44)
    have h44' : (b.length : Int) < 44 := by omega
    clear h44
    refine wp_grow W0.heap.size (by kernel_rfl) (by kernel_rfl) ?_
    repeat (go_big_quiet_step (fail))
    refine wpQuiet_nil ?_
    rintro _ ⟨z, rfl⟩
    have hr1 := hres.below z.2 hres.lt
    go_wp2_with (refine wpList_store_row rfl 70 _ _ rfl w.heap.size #[.int .i64 0, .int .u64 0, .slice none 0 0, .int .i64 0] rfl rfl 70 _ hr1 hi70 rfl (found_one _ _ _ _ _ _) ?_)
    refine postM_ret (v := .agg #[.int .i64 0, .int .u64 0, .slice none 0 0, .int .i64 0]) (results_cell_row rfl _ _ w.heap.size 70 #[.int .i64 0, .int .u64 0, .slice none 0 0, .int .i64 0] (0, 0) _ rfl (hr1.row _) Tryd.underlying70 rfl hi70) rfl (LookRet.nothing hnone.out (Below.setRow (hB0.trans (z.2.mono hB0.size)) (Nat.le_refl _) _))
  · have h44' : decide ((b.length : Int) < 44) = false := decide_eq_false (by omega)
    have hl12 : (b.take 12).length = 12 := by rw [List.length_take]; omega
    have hl32 : ((b.drop 12).take 32).length = 32 := by rw [List.length_take, List.length_drop]; omega
    have hl8 : (b.take 8).length = 8 := by rw [List.length_take]; omega
    have hl4 : ((b.drop 8).take 4).length = 4 := by rw [List.length_take, List.length_drop]; omega
    have hlc := checkL_length (b.take 12)
    have hG := numL_lt (b.take 8)
    have hN := numL_lt ((b.drop 8).take 4)
    rw [hl8] at hG
    rw [hl4] at hN
    have k1 := look_check (f := f) (b := b)
    have k2 := look_gen (f := f) (b := b)
    have k3 := look_few (f := f) (b := b)
    have k4 := look_good (f := f) h44
    have hck := fun wx hr hT => check_any (b.take 12) ba bc wx hr (by omega) (by omega) hT
    have hn8 := fun wx hr => number_any (b.take 8) (by omega) ba bc wx hr
    have hn4 := fun (a : Option Addr) (cap : Nat) wx hr => number_any ((b.drop 8).take 4) (by omega) a cap wx hr
    rw [hl12] at hck
    rw [hl8] at hn8
    rw [hl4] at hn4
    have u12 := hbs0.out.take 12
    have u8 := hbs0.out.take 8
    have u32 := (hbs0.out.drop 12 hbc).take 32
    have u4 := (hbs0.out.drop 8 hbc).take 4
    have u44 := hbs0.out.drop 44 hbc
    have hy : (b.drop 44).length = b.length - 44 := by rw [List.length_drop]
    have heq := fun (a c : Option Addr) (d e : Nat) (wx : World) hx hy => equal_any (checkL (b.take 12)) ((b.drop 12).take 32) a c d e wx hx hy
    rw [hl32] at heq
    generalize checkL (b.take 12) = H at *
    generalize (b.drop 12).take 32 = C at *
    generalize numL (b.take 8) = G at *
    generalize numL ((b.drop 8).take 4) = N at *
    generalize b.drop 44 = Y at *
    have hsl1 := fun wx => slice_first ba b.length bc 12 (by omega) 12 rfl .i64 wx
    have hsl2 := fun wx => slice_mid ba b.length bc 12 44 (by omega) (by omega) 12 44 rfl rfl .i64 .i64 wx
    have hsl3 := fun wx => slice_first ba b.length bc 8 (by omega) 8 rfl .i64 wx
    have hsl4 := fun wx => slice_rest ba b.length bc 44 (by omega) 44 rfl .i64 wx
    have hsl5 := fun wx => slice_mid ba b.length bc 8 12 (by omega) (by omega) 8 12 rfl rfl .i64 .i64 wx
    replace hck := Lib.hid hck
    replace hn8 := Lib.hid hn8
    replace hn4 := Lib.hid hn4
    replace heq := Lib.hid heq
    replace k1 := Lib.hid k1
    replace k2 := Lib.hid k2
    replace k3 := Lib.hid k3
    replace k4 := Lib.hid k4
    replace hy := Lib.hid hy
    have hlc0 := Lib.hid hlc
    clear h44 hl12 hl32 hl8 hl4 hlc
    refine wp_calm ?_
    refine wp_region_ways (S := fun w' => ∃ x : Grew W0.heap.size W0, w' = x.1) (.one [0, 1, 2, 3, 4, 5, 7, 8] 6 (.one [] 9 (.last [10, 11]))) (by kernel_rfl) (by kernel_rfl) (by intro c a d u w h; exact h) ⟨⟨W0.drew, (Below.refl _ _).drew⟩, rfl⟩ ?_
    simp only [wpWays, picks, List.getElem?_toArray, List.getElem?_cons_succ, List.getElem?_cons_zero]
    repeat (go_big_quiet_step (fail))
    refine wpQuiet_nil ?_
    refine wpOp_step (by simp only [List.getElem?_toArray, List.getElem?_cons_succ, List.getElem?_cons_zero]; rfl) (fun K hK => ?_)
    go_simp
    refine (hck.out W0.drew ((u12.same (U8Same.of_below hB0.drew)).bytes 0).reads (hT0.out.grown hB0.drew)).mono ?_
    rintro e w1 ⟨a1, q1, rfl, hn1, hl1, hb1, hB1⟩
    have hB1' : Below W0.heap.size W0 w1 := ((Below.refl _ _).drew).trans hB1
    refine hK _ _ ⟨⟨⟨w1, hB1'⟩, rfl⟩, ?_⟩
    clear hK K
    repeat (go_big_quiet_step (fail))
    refine wpQuiet_nil ?_
    refine wpOp_step (by simp only [List.getElem?_toArray, List.getElem?_cons_succ, List.getElem?_cons_zero]; rfl) (fun K hK => ?_)
    go_simp
    have hb1' := hB0.trans (hB1'.mono hB0.size)
    refine (heq.out a1 _ q1 _ w1 (hb1 0).reads ((u32.same (U8Same.of_below hb1')).bytes 0).reads).mono ?_
    rintro e w2 ⟨rfl, rfl⟩
    refine hK _ _ ⟨⟨⟨w1, hB1'⟩, rfl⟩, ?_⟩
    clear hK K hb1 hsl1 hsl2 u12 hB1 hck hn1 hl1 heq u32
    have hr1 := hres.below hB1' hres.lt
    have v8 := u8.same (U8Same.of_below hb1')
    have v4 := u4.same (U8Same.of_below hb1')
    have v44 := u44.same (U8Same.of_below hb1')
    clear u8 u44
    replace u4 := Lib.hid u4
    by_cases hHC : H = C
    · have k4' := Lib.hid (k4.out hHC)
      rw [decide_eq_true hHC]
      clear k4 k1 hHC
      repeat (go_big_quiet_step (fail))
      refine wpQuiet_nil ?_
      simp only [calmQ]
      go_upto_region 4 with (first
        | (go_at_call 59; refine (hn8.out _ (v8.bytes 0).reads).mono ?_; rintro e w2 ⟨rfl, rfl⟩)
        | (refine wpList_store_row rfl 70 _ _ rfl w1.heap.size #[.int .i64 f, .int .u64 G, .slice none 0 0, .int .i64 44] rfl rfl 70 _ (Blk.new w1 _ #[.int .i64 0, .int .u64 0, .slice none 0 0, .int .i64 0]) hi70 rfl (found_one _ _ _ _ _ _) ?_))
      generalize hw2 : World.setRow _ _ _ = W2
      have hb2 : Below w1.heap.size w1 W2 := by rw [← hw2]; exact Below.setRow ((Below.refl _ _).alloc (Nat.le_refl _) _) (Nat.le_refl _) _
      have hx2 : Blk W2 w1.heap.size 70 #[.int .i64 f, .int .u64 G, .slice none 0 0, .int .i64 44] := by rw [← hw2]; exact (Blk.new w1 _ _).row _
      have hr2 := hr1.below hb2 hr1.lt
      have hX : w.heap.size < w1.heap.size := hr1.lt
      have hbw := hb1'.trans (hb2.mono (Nat.le_of_lt hX))
      have w4 := v4.same (U8Same.of_below hb2)
      have w44 := v44.same (U8Same.of_below hb2)
      clear hw2 hr1 v8 v4 v44 hb2 hb1' hB1' hres hB0
      generalize w1.heap.size = X at *
      have c1 : W2.cell? ⟨X, 1, none⟩ = some (.int .u64 G) := hx2.cell 1
      by_cases hbad : G < 1 ∨ 4611686018427387904 < G ∨ G % 2 ≠ f
      · have hnone := Lib.hid (k2.out hbad)
        have hcases : (G : Int) < 1 ∨ (¬ (G : Int) < 1 ∧ 4611686018427387904 < (G : Int)) ∨ (¬ (G : Int) < 1 ∧ ¬ 4611686018427387904 < (G : Int) ∧ ((G % 2 : Nat) : Int) ≠ (f : Int)) := by omega
        clear hbad k2 k3 k4' hx2 w4 w44
        rcases hcases with h1 | ⟨h1, h2⟩ | ⟨h1, h2, h3⟩
        · go_wp2_with (refine wpList_store_row rfl 70 _ _ rfl w.heap.size #[.int .i64 0, .int .u64 0, .slice none 0 0, .int .i64 0] rfl rfl 70 _ hr2 hi70 rfl (found_one _ _ _ _ _ _) ?_)
          refine postM_ret (v := .agg #[.int .i64 0, .int .u64 0, .slice none 0 0, .int .i64 0]) (results_cell_row rfl _ _ w.heap.size 70 #[.int .i64 0, .int .u64 0, .slice none 0 0, .int .i64 0] (0, 0) _ rfl (hr2.row _) Tryd.underlying70 rfl hi70) rfl (LookRet.nothing hnone.out (Below.setRow hbw (Nat.le_refl _) _))
        · have h1' : decide ((G : Int) < 1) = false := decide_eq_false h1
          clear h1
          go_wp2_with (refine wpList_store_row rfl 70 _ _ rfl w.heap.size #[.int .i64 0, .int .u64 0, .slice none 0 0, .int .i64 0] rfl rfl 70 _ hr2 hi70 rfl (found_one _ _ _ _ _ _) ?_)
          refine postM_ret (v := .agg #[.int .i64 0, .int .u64 0, .slice none 0 0, .int .i64 0]) (results_cell_row rfl _ _ w.heap.size 70 #[.int .i64 0, .int .u64 0, .slice none 0 0, .int .i64 0] (0, 0) _ rfl (hr2.row _) Tryd.underlying70 rfl hi70) rfl (LookRet.nothing hnone.out (Below.setRow hbw (Nat.le_refl _) _))
        · have h1' : decide ((G : Int) < 1) = false := decide_eq_false h1
          have h2' : decide (4611686018427387904 < (G : Int)) = false := decide_eq_false h2
          have h3' : ((G : Int) % 2 != (f : Int)) = true := by rw [bne_iff_ne]; omega
          clear h1 h2 h3
          go_wp2_with (refine wpList_store_row rfl 70 _ _ rfl w.heap.size #[.int .i64 0, .int .u64 0, .slice none 0 0, .int .i64 0] rfl rfl 70 _ hr2 hi70 rfl (found_one _ _ _ _ _ _) ?_)
          refine postM_ret (v := .agg #[.int .i64 0, .int .u64 0, .slice none 0 0, .int .i64 0]) (results_cell_row rfl _ _ w.heap.size 70 #[.int .i64 0, .int .u64 0, .slice none 0 0, .int .i64 0] (0, 0) _ rfl (hr2.row _) Tryd.underlying70 rfl hi70) rfl (LookRet.nothing hnone.out (Below.setRow hbw (Nat.le_refl _) _))
      · have h1' : decide ((G : Int) < 1) = false := decide_eq_false (by omega)
        have h2' : decide (4611686018427387904 < (G : Int)) = false := decide_eq_false (by omega)
        have h3' : ((G : Int) % 2 != (f : Int)) = false := by rw [bne_eq_false_iff_eq]; omega
        have k4' := Lib.hid (k4'.out hbad)
        clear k2 hbad
        go_wp2_with (fail)
        refine wp_calm ?_
        have c1' := fun z : Grew W2.heap.size W2 => Grew.cell c1 hx2.lt z
        refine wp_region_ways (S := fun w' => ∃ x : Grew W2.heap.size W2, w' = x.1) (.one [0, 1, 2, 3] 4 (.last [])) (by kernel_rfl) (by kernel_rfl) (by intro c a d u w h; exact h) ⟨⟨W2.drew, (Below.refl _ _).drew⟩, rfl⟩ ?_
        simp only [wpWays, picks, List.getElem?_toArray, List.getElem?_cons_succ, List.getElem?_cons_zero]
        repeat (go_big_quiet_step (fail))
        refine wpQuiet_nil ?_
        refine wpOp_step (by simp only [List.getElem?_toArray, List.getElem?_cons_succ, List.getElem?_cons_zero]; rfl) (fun K hK => ?_)
        go_simp
        rw [← hy.out]
        refine (whole_any Y _ _ G W2.drew).mono ?_
        rintro e W3 ⟨rfl, hW3⟩
        have hB3 : Below W2.heap.size W2 W3 := by rw [hW3]; exact (((Below.refl _ _).drew).alloc (Nat.le_refl _) _).alloc (by simp) _
        refine hK _ _ ⟨⟨⟨W3, hB3⟩, rfl⟩, ?_⟩
        clear hK K c1'
        refine wpQuiet_nil ?_
        simp only [calmQ]
        have hbb := Blk.new W2.drew 35 #[.slice (cutAddr bc 44 ba) Y.length (bc - 44)]
        have hbg := Blk.new (W2.drew.alloc (.cells #[.slice (cutAddr bc 44 ba) Y.length (bc - 44)] 35)) 55 #[.int .u64 G]
        have hbb3 := hbb.alloc (.cells #[.int .u64 G] 55)
        have hsz : W3.heap.size = W2.heap.size + 2 := by rw [hW3]; simp
        rw [← hW3] at hbb3 hbg
        replace hbb3 : Blk W3 W2.heap.size 35 #[.slice (cutAddr bc 44 ba) Y.length (bc - 44)] := hbb3
        replace hbg : Blk W3 (W2.heap.size + 1) 55 #[.int .u64 G] := by simpa using hbg
        clear hW3 hbb
        have hXW := hx2.lt
        have hsz2 : W2.heap.size + 1 < W3.heap.size := by omega
        clear hsz
        have hT3 := hT0.out.grown ((hbw.trans (hB3.mono hbw.size)))
        have u3 := w44.same (U8Same.of_below hB3)
        have hI0 : LookInv w X W3.heap.size f G [] W3 := ⟨hbw.trans (hB3.mono hbw.size), Nat.le_refl _, hr2.below hB3 hr2.lt, .slice none 0 0, hx2.below hB3 hx2.lt, World.ownsRow_nil _ _ _ _⟩
        have hTl : 0 < w.heap.size := by obtain ⟨t, fr, h5⟩ := hT0.out; exact heap_lt h5
        clear hx2 hr2 c1 w44
        go_wp2_with (fail)
        refine (wpIn_wide (n := 4)).1 ?_
        refine wp_range_on1 (q := 6) (gf := 74) rfl (enters_of Tryd.func74 (by kernel_rfl) rfl) RecV.val (Kept3 W3.heap.size X) (LookInv w X W3.heap.size f G) (fun xs W => xs.map (·.bs) = recordsL G Y ∧ ∀ x ∈ xs, x.at_ W) 4194304 Kept3.trans ?kb ?ib ?h0 ?iter ?sb ?assign ?body ?done
        case kb => intro W l o o' hl ho hc; exact Kept3.put hl ho hc
        case ib => intro pre W l o o' hl ho hc hI; exact hI.put (by have := hI0.1.size; omega) ho hc
        case h0 => intro o o'; exact hI0.below (((Below.refl _ _).alloc (Nat.le_refl _) _).alloc (by simp) _)
        case iter =>
          intro l W J hBW hJI hJ hR hJ0
          have hlt := hBW.size
          have hyl := hy.out
          exact whole_iter W3.heap.size X G Y (by omega) (cutAddr bc 44 ba) (bc - 44) (cut_none hbn) (by omega) W2.heap.size (W2.heap.size + 1) (by omega) (by omega) (by omega) (by omega) (by omega) (by omega) (by omega) (by omega) l 3 W J
            (LookInv w X W3.heap.size f G) hJI hJ (fun pre A B h => h.below) (fun pre A u h => h.set (by omega) (by omega) (by omega) 0 u) hR.any hJ0 (hbb3.below hBW hbb3.lt) (u3.same (U8Same.of_below hBW)) (hbg.below hBW hbg.lt) (hT3.grown hBW) hlt
        case sb =>
          intro xs W l o o' hl ho hc hS
          refine ⟨hS.1, fun x hx => (hS.2 x hx).same (fun k cs fr hk => (World.putObj_heap_other (fun e => ?_)).trans hk)⟩
          subst e
          rw [ho] at hk
          cases hk
          cases hc
        case assign =>
          intro l x W K hK
          simp only [List.setIfInBounds_toArray, List.set_cons_succ, List.set_cons_zero]
          gi_wp2
          exact hK
        case body =>
          rintro l pre ⟨xa, xc, xs, xle⟩ W hI hpre
          simp only [RecV.val, Act.put, List.setIfInBounds_toArray, List.set_cons_succ, List.set_cons_zero]
          obtain ⟨k1, k2, k3, v, k4, k5⟩ := hI
          obtain ⟨i5, hi5, hz5, hs5, hy5⟩ := info_parts Tryd.info_u8s
          have d2 : W.cell? ⟨X, 2, none⟩ = some v := k4.cell 2
          have d3 : W.cell? ⟨X, 3, none⟩ = some (.int .i64 ((44 + sizesL (pre.map (·.bs)) : Nat) : Int)) := k4.cell 3
          have hsb := sizes_le pre
          have hxl := xle
          have hsn : sizesL ((pre ++ [(⟨xa, xc, xs, xle⟩ : RecV)]).map (·.bs)) = sizesL (pre.map (·.bs)) + (xs.length + 36) := by rw [List.map_append, sizesL_append]; simp [sizesL]
          obtain ⟨Gd, hGd⟩ : ∃ Gd, Gd = 44 + sizesL (pre.map (·.bs)) := ⟨_, rfl⟩
          rw [← hGd] at k4 d3
          have hGl : Gd ≤ 137594142720 := by omega
          replace hsn : 44 + sizesL ((pre ++ [(⟨xa, xc, xs, xle⟩ : RecV)]).map (·.bs)) = Gd + (xs.length + 36) := by omega
          replace hsn := Lib.hid hsn
          have hwr1 : IntKind.i64.wrap ((xs.length : Int) + 36) = (xs.length : Int) + 36 := IntWalk.i64_in _ (by omega)
          have hwr2 : IntKind.i64.wrap ((Gd : Int) + ((xs.length : Int) + 36)) = (Gd : Int) + ((xs.length : Int) + 36) := IntWalk.i64_in _ (by omega)
          clear hGd hsb
          gi_wp2_with (gi_at_builtin; refine wpListIn_append_own _ rfl _ _ 30 rfl W3.heap.size 35 i5 _ 1 24 Tryd.underlying30 hi5 hz5 hs5 hy5 rfl (by decide) v pre.length (pre.map RecV.val) rfl (k5.alloc _) ⟨W.heap.size, 0, none⟩ 1 1 [.slice xa xs.length xc] rfl rfl (cell_one_new _ _ _) (by simp [Value.oneCell']) (by unfold maxLen; omega) (by omega) (by simp; omega) ?_
                       intro v' w1 hown' hgrow _
                       obtain ⟨g5, q5, rfl, hg5, _⟩ := own_form hown' (by omega)
                       have hX1 : Blk w1 X 70 #[.int .i64 f, .int .u64 G, v, .int .i64 Gd] := (hgrow.block X (by simp; omega) (fun e => by have := own_ge k5 X e.symm; omega)).trans (k4.alloc _)
                       have e2 : w1.cell? ⟨X, 2, none⟩ = some v := hX1.cell 2
                       have e3 : w1.cell? ⟨X, 3, none⟩ = some (.int .i64 Gd) := hX1.cell 3
                       have f2 := hX1.free 2
                       have f3 := hX1.free 3)
          exact look_step (x := ⟨xa, xc, xs, xle⟩) (by omega) (by omega) k1 k2 k3 k4 k5 hown' hgrow hsn.out _ rfl
        case done =>
          intro D xs W hD hS hI hD2
          obtain ⟨k1, k2, j3, v, j4, j5⟩ := hI
          have x4 := u4.out.same (U8Same.of_below k1)
          obtain ⟨hS1, hS2⟩ := hS
          rw [hS1] at j4
          have hRl : (recordsL G Y).length = xs.length := by rw [← hS1]; simp
          have hxm : xs.length ≤ maxLen := by
            rcases j5.2 with ⟨_, h0⟩ | ⟨_, cap, cur, rfl, _, _, hc, hm, _⟩
            · omega
            · omega
          unfold maxLen at hxm
          have hrow : OwnRecs W w.heap.size v (recordsL G Y) := ⟨xs, hS1, owns_mono j5 (by have := k1.size; have := hbw.size; omega), hS2⟩
          rw [hRl] at k3 k4'
          have k3' := Lib.hid k3
          replace hrow := Lib.hid hrow
          obtain ⟨sa, sc, rfl⟩ : ∃ sa sc, v = .slice sa xs.length sc := by
            rcases j5.2 with ⟨hv, h0⟩ | ⟨g, cap, cur, hv, _⟩
            · exact ⟨none, 0, by rw [hv, h0]⟩
            · exact ⟨_, _, hv⟩
          clear k3 hS1 hS2 j5
          generalize recordsL G Y = R at *
          have cx : W.cell? ⟨X, 2, none⟩ = some (.slice sa xs.length sc) := j4.cell 2
          have hDX : D ≠ X := by omega
          go_wp2_with (fail)
          refine wp_calm ?_
          have cx' := fun z : Grew W.heap.size W => Grew.cell cx j4.lt z
          refine wp_region_ways (S := fun w' => ∃ x : Grew W.heap.size W, w' = x.1) (.one [0, 1, 3, 4, 5, 6] 2 (.last [7])) (by kernel_rfl) (by kernel_rfl) (by intro c a d u w h; exact h) ⟨⟨W.drew, (Below.refl _ _).drew⟩, rfl⟩ ?_
          simp only [wpWays, picks, List.getElem?_toArray, List.getElem?_cons_succ, List.getElem?_cons_zero]
          repeat (go_big_quiet_step (fail))
          refine wpQuiet_nil ?_
          refine wpOp_step (by simp only [List.getElem?_toArray, List.getElem?_cons_succ, List.getElem?_cons_zero]; rfl) (fun K hK => ?_)
          go_simp
          refine (hn4.out _ _ W.drew (x4.bytes 0).reads).mono ?_
          rintro e w9 ⟨rfl, rfl⟩
          refine hK _ _ ⟨⟨⟨W.drew, (Below.refl _ _).drew⟩, rfl⟩, ?_⟩
          clear hK K
          have hr9 : Blk W.drew w.heap.size 70 _ := j3
          have hx9 : Blk W.drew X 70 _ := j4
          have hD9 : W.drew.heap[D]? = some (.deferred (some [])) := hD2
          have hB9 : Below w.heap.size w W.drew := k1.drew
          have ho9 : OwnRecs W.drew w.heap.size (.slice sa xs.length sc) R := hrow.out
          replace ho9 := Lib.hid ho9
          have hDw : D ≠ w.heap.size := by omega
          by_cases hfew : xs.length < N
          · have hnone := Lib.hid (k3'.out hfew)
            have hfew' : (xs.length : Int) < (N : Int) := by omega
            clear k4' k3' hfew
            repeat (go_big_quiet_step (fail))
            refine wpQuiet_nil ?_
            simp only [calmQ]
            generalize W.drew = V at *
            clear cx' cx j3 j4 hrow
            go_wp2_with (refine wpList_store_row rfl 70 _ _ rfl w.heap.size #[.int .i64 0, .int .u64 0, .slice none 0 0, .int .i64 0] rfl rfl 70 _ hr9 hi70 rfl (found_one _ _ _ _ _ _) ?_)
            refine postM_mark (v := .agg #[.int .i64 0, .int .u64 0, .slice none 0 0, .int .i64 0]) rfl ((setRow_other _ _ _ _ hDw).trans hD9) (results_cell_row rfl _ _ w.heap.size 70 #[.int .i64 0, .int .u64 0, .slice none 0 0, .int .i64 0] (0, 0) _ rfl ((World.putObj_heap_other (Ne.symm hDw)).trans (hr9.row _)) Tryd.underlying70 rfl hi70) ?_
            exact LookRet.nothing hnone.out (below_put (Below.setRow hB9 (Nat.le_refl _) _) (by omega) _)
          · have hsome := Lib.hid (k4'.out hfew)
            have hnf : decide ((xs.length : Int) < (N : Int)) = false := decide_eq_false (by omega)
            have hnf2 : decide (xs.length < N) = false := decide_eq_false (by omega)
            obtain ⟨Gd, hGd⟩ : ∃ Gd, Gd = 44 + sizesL R := ⟨_, rfl⟩
            rw [← hGd] at hx9 j4
            replace hGd := Lib.hid hGd
            clear k4' k3' hfew
            repeat (go_big_quiet_step (fail))
            refine wpQuiet_nil ?_
            simp only [calmQ]
            generalize W.drew = V at *
            clear cx' cx j3 j4 hrow
            go_wp2_with (first
              | (refine wpList_load_row rfl 70 _ rfl X rfl 70 _ (0, 0) _ hx9 Tryd.underlying70 rfl hi70 ?_)
              | (refine wpList_store_row rfl 70 _ _ rfl w.heap.size #[.int .i64 f, .int .u64 G, .slice sa xs.length sc, .int .i64 (Gd : Int)] rfl rfl 70 _ hr9 hi70 rfl (found_one _ _ _ _ _ _) ?_))
            refine postM_mark (v := .agg #[.int .i64 f, .int .u64 G, .slice sa xs.length sc, .int .i64 (Gd : Int)]) rfl ((setRow_other _ _ _ _ hDw).trans hD9) (results_cell_row rfl _ _ w.heap.size 70 #[.int .i64 f, .int .u64 G, .slice sa xs.length sc, .int .i64 (Gd : Int)] (0, 0) _ rfl ((World.putObj_heap_other (Ne.symm hDw)).trans (hr9.row _)) Tryd.underlying70 rfl hi70) ?_
            exact LookRet.found hsome.out hGd.out (below_put (Below.setRow hB9 (Nat.le_refl _) _) (by omega) _) ((ho9.out.setRow hr9 _).put ((setRow_other _ _ _ _ hDw).trans hD9) rfl _)
    · have hnone := Lib.hid (k1.out hHC)
      rw [decide_eq_false hHC]
      clear k1 k2 k3 k4 hHC
      repeat (go_big_quiet_step (fail))
      refine wpQuiet_nil ?_
      simp only [calmQ]
      go_wp2_with (refine wpList_store_row rfl 70 _ _ rfl w.heap.size #[.int .i64 0, .int .u64 0, .slice none 0 0, .int .i64 0] rfl rfl 70 _ hr1 hi70 rfl (found_one _ _ _ _ _ _) ?_)
      refine postM_ret (v := .agg #[.int .i64 0, .int .u64 0, .slice none 0 0, .int .i64 0]) (results_cell_row rfl _ _ w.heap.size 70 #[.int .i64 0, .int .u64 0, .slice none 0 0, .int .i64 0] (0, 0) _ rfl (hr1.row _) Tryd.underlying70 rfl hi70) rfl (LookRet.nothing hnone.out (Below.setRow hb1' (Nat.le_refl _) _))
end Go.Proofs.YtiidohaibbdgeaaDoor
