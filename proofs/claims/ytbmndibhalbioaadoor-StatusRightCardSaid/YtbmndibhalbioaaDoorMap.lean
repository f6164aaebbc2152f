/-
  A map whose keys are hashes: look-up and store.
-/
import Derived.Test.YtbmndibhalbioaaDoorRRight
import Derived.Carry
import Derived.MapKept
namespace Go.Proofs.YtbmndibhalbioaaDoor
open Go Go.RowKit

theorem part_u8 (f : Nat → BitVec 8) (j : Nat) (hj : j < 32) (w : World) : (Go.part 5 (tabulate 32 fun i => B8 (f i)) (j * 1)).run Tryd.prog w = .ok (B8 (f j)) w := by
  simp only [Go.part, Sem.run_bind, isAgg_u8, Result.andThen_ok, Bool.false_eq_true, if_false, Nat.mul_one, tabulate_get hj, Sem.run_pure]
theorem check_items (em : Bool) (n : Nat) (f : Nat → BitVec 8) (w : World) : ∀ is : List Nat, (∀ j ∈ is, j < 32) →
    (forIn is PUnit.unit fun i (_ : PUnit) => do
      let s ← sizeOf 5
      let a ← Go.part 5 (tabulate 32 fun i => B8 (f i)) (i * s)
      Instr.checkKey em (n + 1) 5 a
      pure (ForInStep.yield PUnit.unit) : Sem PUnit).run Tryd.prog w = .ok PUnit.unit w
  | [], _ => by simp
  | j :: is, h => by
    have hj : j < 32 := h j (by simp)
    have ih := check_items em n f w is fun k hk => h k (by simp [hk])
    have hc : (Instr.checkKey em (n + 1) 5 (B8 (f j))).run Tryd.prog w = .ok () w := by
      simp [Instr.checkKey, run_underlying Tryd.underlying5, B8]
    obtain ⟨i5, hi5, _, hs5, _⟩ := info_parts Tryd.info_u8
    simp only [List.forIn_cons, Sem.run_bind, run_sizeOf w hi5, cells_u8, part_u8 f j hj w, Result.andThen_ok, Sem.run_pure, hc]
    exact ih

theorem check_hash (em : Bool) (n : Nat) (t : List (BitVec 8)) (w : World) : (Instr.checkKey em (n + 2) 27 (HV t)).run Tryd.prog w = .ok () w := by
  obtain ⟨i5, hi5, _, hs5, _⟩ := info_parts Tryd.info_u8
  have h := check_items em n (fun i => t.getD i 0) w (List.range' 0 32) (fun j hj => by simp at hj; omega)
  unfold HV
  rw [Instr.checkKey]
  simp only [Sem.run_bind, run_underlying Tryd.underlying27, Result.andThen_ok]
  simp only [Std.Legacy.Range.forIn_eq_forIn_range', Std.Legacy.Range.size, Nat.sub_zero, Nat.add_one_sub_one, Nat.div_one]
  rw [h]
  rfl

theorem findAsking_hash (t : List (BitVec 8)) (ht : t.length = 32) (w : World) : ∀ (es : List MapEntry) (ks : List (List (BitVec 8))) (i : Nat), es.map (·.key) = ks.map HV → (∀ k ∈ ks, k.length = 32) →
    ∃ r, (Instr.findAsking 27 (HV t) es i).run Tryd.prog w = .ok r w ∧ (r = none ↔ t ∉ ks)
  | [], [], _, _, _ => ⟨none, by simp [Instr.findAsking], by simp⟩
  | [], _ :: _, _, h, _ => by simp at h
  | _ :: _, [], _, h, _ => by simp at h
  | e :: es, k :: ks, i, h, hl => by
    simp only [List.map_cons, List.cons.injEq] at h
    obtain ⟨r, hr, hi⟩ := findAsking_hash t ht w es ks (i + 1) h.2 fun x hx => hl x (by simp [hx])
    have he := hash_equal ht (hl k (by simp)) w
    rw [Instr.findAsking, Sem.run_bind, h.1, he, Result.andThen_ok]
    by_cases hk : t = k
    · refine ⟨some (i, e.val), ?_, by simp [hk]⟩
      rw [decide_eq_true hk]; rfl
    · refine ⟨r, ?_, ?_⟩
      · rw [decide_eq_false hk]; exact hr
      · rw [hi]; simp [hk]

theorem findKey_hash (t : List (BitVec 8)) (ht : t.length = 32) (w : World) (es : List MapEntry) (ks : List (List (BitVec 8))) (h : es.map (·.key) = ks.map HV) (hl : ∀ k ∈ ks, k.length = 32) :
    ∃ r, (Instr.findKey 27 (HV t) es).run Tryd.prog w = .ok r w ∧ (r = none ↔ t ∉ ks) := by
  unfold Instr.findKey
  rw [Sem.run_bind, run_underlying Tryd.underlying27, Result.andThen_ok]
  cases es with
  | nil =>
    have : ks = [] := by simpa using h.symm
    subst this
    exact ⟨none, by simp [Instr.findNow], by simp⟩
  | cons e es =>
    obtain ⟨r, hr, hi⟩ := findAsking_hash t ht w (e :: es) ks 0 h hl
    exact ⟨r, hr, hi⟩

/-- A map that has these keys. -/
def MapIs (w : World) (g : Nat) (ks : List (List (BitVec 8))) : Prop := ∃ es clock, w.heap[g]? = some (.map es clock) ∧ es.toList.map (·.key) = ks.map HV
theorem MapIs.lt {w : World} {g : Nat} {ks : List (List (BitVec 8))} (h : MapIs w g ks) : g < w.heap.size := by
  obtain ⟨es, clock, h, _⟩ := h
  rcases Nat.lt_or_ge g w.heap.size with hl | hl
  · exact hl
  · rw [Array.getElem?_eq_none hl] at h; cases h
theorem MapIs.grown {w w' : World} {g : Nat} {ks : List (List (BitVec 8))} (h : MapIs w g ks) (hb : Below w.heap.size w w') : MapIs w' g ks := by
  have hlt := h.lt
  obtain ⟨es, clock, h, hk⟩ := h
  exact ⟨es, clock, (hb.block g hlt).trans h, hk⟩
theorem MapIs.drewN {w : World} {g : Nat} {ks : List (List (BitVec 8))} (h : MapIs w g ks) (n : Nat) : MapIs (w.drewN n) g ks := h

theorem lookup_hash {w : World} {g : Nat} {ks : List (List (BitVec 8))} (h : MapIs w g ks) (hl : ∀ k ∈ ks, k.length = 32) (t : List (BitVec 8)) (ht : t.length = 32) :
    ∃ v, (Instr.lookup 43 (.map (some g)) (HV t) true).run Tryd.prog w = .ok (.tuple #[v, .bool (decide (t ∈ ks))]) w := by
  obtain ⟨es, clock, hb, hk⟩ := h
  obtain ⟨r, hr, hi⟩ := findKey_hash t ht w es.toList ks hk hl
  have hz : (zeroValue 3).run Tryd.prog w = .ok (.int .i64 0) w := Tryd.zeroValue3 w
  unfold Instr.lookup
  simp only [Sem.run_bind, run_underlying Tryd.underlying43, Result.andThen_ok, MapKept.run_getObj_map hb, Sem.run_pure, check_hash es.isEmpty 9998 t w, hr]
  cases r with
  | none => exact ⟨_, by simp only [Sem.run_bind, hz, Result.andThen_ok, Sem.run_pure, if_true]; rw [decide_eq_false (hi.1 rfl)]⟩
  | some p =>
    have : t ∈ ks := Classical.byContradiction fun h => by have := hi.2 h; cases this
    exact ⟨p.2, by simp only [Sem.run_bind, Sem.run_pure, Result.andThen_ok, if_true]; rw [decide_eq_true this]⟩

theorem update_hash {w : World} {g : Nat} {ks : List (List (BitVec 8))} (h : MapIs w g ks) (hl : ∀ k ∈ ks, k.length = 32) (t : List (BitVec 8)) (ht : t.length = 32) (hn : t ∉ ks) (v : Value) :
    ∃ w', (Instr.mapUpdate 43 (.map (some g)) (HV t) v).run Tryd.prog w = .ok () w' ∧ MapIs w' g (ks ++ [t]) ∧ Below g w w' ∧ w.grownBy w' (some g) := by
  have hlt := h.lt
  obtain ⟨es, clock, hb, hk⟩ := h
  obtain ⟨r, hr, hi⟩ := findKey_hash t ht w es.toList ks hk hl
  have hr0 : r = none := hi.2 hn
  subst hr0
  refine ⟨{ w with heap := w.heap.setIfInBounds g (.map (es.push { key := HV t, val := v, born := clock }) (clock + 1)) }, ?_, ?_, ?_, ?_⟩
  · unfold Instr.mapUpdate
    simp only [Sem.run_bind, run_underlying Tryd.underlying43, Result.andThen_ok, MapKept.run_getObj_map hb, check_hash false 9998 t w, hr, MapKept.run_setObj_map _ hb]
  · exact ⟨es.push { key := HV t, val := v, born := clock }, clock + 1, by simp [hlt], by simp [hk]⟩
  · refine ⟨rfl, rfl, rfl, by simp, fun k hk => ?_⟩
    simp only [Array.getElem?_setIfInBounds]
    rw [if_neg (by omega)]
  · refine ⟨rfl, rfl, rfl, by simp, fun k _ hk => ?_⟩
    simp only [Array.getElem?_setIfInBounds]
    rw [if_neg (fun e => hk (by rw [e]))]

theorem exec_lookup_hash {o : Oper} {ρ : Operand → Value} (m x : Operand) (ho : o.op = .lookup 43 m x true) {w : World} {g : Nat} {ks : List (List (BitVec 8))} (hm : ρ m = .map (some g)) {t : List (BitVec 8)} (hx : ρ x = HV t)
    (h : MapIs w g ks) (hl : ∀ k ∈ ks, k.length = 32) (ht : t.length = 32) : ∃ v, (execOp ρ o).run Tryd.prog w = .ok (.value (.tuple #[v, .bool (decide (t ∈ ks))])) w := by
  obtain ⟨v, hv⟩ := lookup_hash h hl t ht
  refine ⟨v, ?_⟩
  unfold execOp
  simp only [ho, hm, hx, Sem.run_bind, hv, Result.andThen_ok, Sem.run_pure]
theorem wpList_lookup_hash {w : World} {ops : Array Oper} {rest : List Oper} {o : Oper} {a : Act} {Q : Exit → Act → World → Prop} (hgd : o.guard = none) (m x : Operand) (ho : o.op = .lookup 43 m x true)
    {g : Nat} {ks : List (List (BitVec 8))} (hm : a.eval m = .map (some g)) {t : List (BitVec 8)} (hx : a.eval x = HV t) (h : MapIs w g ks) (hl : ∀ k ∈ ks, k.length = 32) (ht : t.length = 32)
    (hK : ∀ v, wpList Tryd.prog ops Q rest (a.put o.dst (.tuple #[v, .bool (decide (t ∈ ks))])) w) : wpList Tryd.prog ops Q (o :: rest) a w := by
  obtain ⟨v, hv⟩ := exec_lookup_hash (ρ := a.eval) m x ho hm hx h hl ht
  exact wpList_of_run hgd _ hv (hK v)
theorem wp_update_hash {w : World} {o : Oper} {a : Act} {K : Act → World → Prop} {Q : Exit → Act → World → Prop} (m x v : Operand) (ho : o.op = .mapUpdate 43 m x v)
    {g : Nat} {ks : List (List (BitVec 8))} (hm : a.eval m = .map (some g)) {t : List (BitVec 8)} (hx : a.eval x = HV t) (h : MapIs w g ks) (hl : ∀ k ∈ ks, k.length = 32) (ht : t.length = 32) (hn : t ∉ ks)
    (hK : ∀ w', MapIs w' g (ks ++ [t]) → w.grownBy w' (some g) → Below g w w' → K (a.put o.dst undef) w') : o.wp Tryd.prog a w K Q := by
  obtain ⟨w', hrun, r1, r2, r3⟩ := update_hash h hl t ht hn (a.eval v)
  unfold Oper.wp
  simp [execOp, ho, hm, hx, hrun, Result.andThen]
  exact hK w' r1 r3 r2
end Go.Proofs.YtbmndibhalbioaaDoor
