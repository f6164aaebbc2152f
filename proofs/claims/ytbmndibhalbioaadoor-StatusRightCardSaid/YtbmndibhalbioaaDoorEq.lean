/-
  '==' on hashes and on entries.
-/
import Derived.Test.YtbmndibhalbioaaDoorOf
import Derived.ChangeKeysEq
import Derived.Laws.StructEq
namespace Go.Proofs.YtbmndibhalbioaaDoor
open Go Go.RowKit

/-- A known run as one step. -/
theorem wpList_of_run {P : Program} {ops : Array Oper} {rest : List Oper} {o : Oper} {a : Act} {w w' : World} {Q : Exit → Act → World → Prop} (hgd : o.guard = none) (v : Value)
    (hrun : (execOp a.eval o).run P w = .ok (.value v) w') (h : wpList P ops Q rest (a.put o.dst v) w') : wpList P ops Q (o :: rest) a w :=
  wpList_plain hgd fun _ hK => by
    unfold Oper.wp
    rw [hrun, Oper.upon_value]
    exact hK _ _ h
theorem wpQuiet_of_run {P : Program} {ops : Array Oper} {C : World → Prop} {Q : Act → Prop} {a : Act} {o : Oper} {rest : List Oper} (hgd : o.guard = none) (v : Value)
    (hrun : ∀ w, C w → (execOp a.eval o).run P w = .ok (.value v) w) (h : wpQuiet P ops C Q rest (a.put o.dst v)) : wpQuiet P ops C Q (o :: rest) a := by
  have hw : Region.wanted o (yielded ops a.tmps) = true := by simp [Region.wanted, hgd]
  refine wpQuiet_step fun K hK => ?_
  rw [if_pos hw]
  refine ⟨v, fun w hw' => ?_, hK _ h⟩
  unfold Oper.quietAt
  rw [hrun w hw']
  exact ⟨rfl, rfl⟩

theorem isAgg_u8 (w : World) : (isAgg 5).run Tryd.prog w = .ok false w := by
  unfold isAgg
  rw [Sem.run_bind, run_underlying Tryd.underlying5 w]; rfl

theorem eqItems_bytes (d : Nat) (f g : Nat → BitVec 8) (w : World) : ∀ is : List Nat, (∀ j ∈ is, j < 32) →
    (Op.eqItems (d + 1) 5 1 (tabulate 32 fun i => B8 (f i)) (tabulate 32 fun i => B8 (g i)) is).run Tryd.prog w = .ok (is.all fun j => f j == g j) w
  | [], _ => by simp [Op.eqItems]
  | j :: is, h => by
    have hj : j < 32 := h j (by simp)
    have ih := eqItems_bytes d f g w is fun k hk => h k (by simp [hk])
    have hb : ((f j).toNat : Int) = ((g j).toNat : Int) ↔ f j = g j := by
      constructor
      · intro h'; exact BitVec.eq_of_toNat_eq (by omega)
      · intro h'; rw [h']
    simp only [Op.eqItems, Sem.run_bind, Go.part, B8, isAgg_u8, Result.andThen_ok, Bool.false_eq_true, if_false, Nat.mul_one, tabulate_get hj, Sem.run_pure, run_equalIn_int w d 5 .u8 .u8 _ _ Tryd.underlying5]
    by_cases he : f j = g j
    · have h1 : (((f j).toNat : Int) == ((g j).toNat : Int)) = true := by rw [he]; simp
      simp only [h1, Bool.not_true, Bool.false_eq_true, if_false, ih]
      simp [he]
    · have h1 : (((f j).toNat : Int) == ((g j).toNat : Int)) = false := by rw [beq_eq_false_iff_ne]; exact fun h' => he (hb.1 h')
      simp only [h1, Bool.not_false, if_true, Sem.run_pure]
      simp [he]

theorem all_bytes {a b : List (BitVec 8)} (ha : a.length = 32) (hb : b.length = 32) : ((List.range 32).all fun j => a.getD j 0 == b.getD j 0) = decide (a = b) := by
  by_cases h : a = b
  · subst h; simp
  · rw [decide_eq_false h, Bool.eq_false_iff]
    intro hall
    refine h (List.ext_getElem (by omega) fun j h1 h2 => ?_)
    have := List.all_eq_true.1 hall j (List.mem_range.2 (by omega))
    simpa [List.getD, h1, h2] using this

set_option maxRecDepth 100000 in
theorem hash_equalIn (d : Nat) {a b : List (BitVec 8)} (ha : a.length = 32) (hb : b.length = 32) (w : World) : (Op.equalIn (d + 2) 27 (HV a) (HV b)).run Tryd.prog w = .ok (decide (a = b)) w := by
  obtain ⟨i5, hi5, _, _, _⟩ := info_parts Tryd.info_u8
  unfold HV
  rw [run_equalIn_array w (d + 1) _ _ Tryd.underlying27 hi5, cells_u8, eqItems_bytes d _ _ w (List.range 32) (fun j hj => List.mem_range.1 hj), all_bytes ha hb]

theorem hash_equal {a b : List (BitVec 8)} (ha : a.length = 32) (hb : b.length = 32) (w : World) : (Op.equal 27 (HV a) (HV b)).run Tryd.prog w = .ok (decide (a = b)) w := hash_equalIn 9998 ha hb w


theorem exec_eql_hash {o : Oper} {ρ : Operand → Value} (x y : Operand) (r : TypeId) (ho : o.op = .binOp .eql 27 x y r) {a b : List (BitVec 8)} (hx : ρ x = HV a) (hy : ρ y = HV b) (ha : a.length = 32) (hb : b.length = 32) (w : World) :
    (execOp ρ o).run Tryd.prog w = .ok (.value (.bool (decide (a = b)))) w := by
  have he := hash_equal ha hb w
  unfold HV at hx hy he
  unfold execOp
  simp only [ho, hx, hy, Sem.run_bind, run_eqGuard_agg w .eql 27 x y _ _ Tryd.eqGuardType27, Result.andThen_ok, binOp, he, Sem.run_pure]

theorem fields_ent : ∃ f0 f1, (Tryd.prog.fieldsOf 29).toList = [f0, f1] ∧ f0.name ≠ "_" ∧ f0.type = 3 ∧ f0.offset = 0 ∧ f1.name ≠ "_" ∧ f1.type = 27 ∧ f1.offset = 1 :=
  ⟨(Tryd.prog.fieldsOf 29)[0]!, (Tryd.prog.fieldsOf 29)[1]!, by kernel_rfl, by decide +kernel, by kernel_rfl, by kernel_rfl, by decide +kernel, by kernel_rfl, by kernel_rfl⟩

theorem part_hash (e : Ent) (_ : e.ok) (w : World) : (Go.part 27 (entCells e) 1).run Tryd.prog w = .ok (HV e.tx) w := by
  have hi : (Tryd.prog.info? 27).map (·.size) = some 32 := by kernel_rfl
  have hagg : (isAgg 27).run Tryd.prog w = .ok true w := by
    unfold isAgg
    rw [Sem.run_bind, run_underlying Tryd.underlying27 w]; rfl
  cases hq : Tryd.prog.info? 27 with
  | none => simp [hq] at hi
  | some i =>
    have hs : i.size = 32 := by simpa [hq] using hi
    simp only [Go.part, Sem.run_bind, hagg, Result.andThen_ok, if_true, sizeOf, typeInfo, Sem.run_pure]
    simp [hq, hs]
    rw [← HV_eq]
    refine congrArg Value.agg ?_
    have hl := hashCells_length e.tx
    apply Array.ext'
    simp only [entCells, List.extract_toArray, List.toList_toArray]
    simp [List.extract, hl]
    exact List.take_of_length_le (by omega)

theorem part_height (e : Ent) (w : World) : (Go.part 3 (entCells e) 0).run Tryd.prog w = .ok (.int .i64 e.h) w := by
  have hagg : (isAgg 3).run Tryd.prog w = .ok false w := by
    unfold isAgg
    rw [Sem.run_bind, run_underlying Tryd.underlying3 w]; rfl
  simp only [Go.part, Sem.run_bind, hagg, Result.andThen_ok, Bool.false_eq_true, if_false]
  simp [entCells]

theorem ent_eq_iff (x y : Ent) : x = y ↔ x.h = y.h ∧ x.tx = y.tx := by
  cases x; cases y; simp
instance : DecidableEq Ent := fun x y => decidable_of_iff _ (ent_eq_iff x y).symm

theorem struct_ent : Tryd.prog.underlying 29 = some (.struct (Tryd.prog.fieldsOf 29)) := by kernel_rfl

theorem ent_equalIn (d : Nat) {x y : Ent} (hx : x.ok) (hy : y.ok) (w : World) : (Op.equalIn (d + 3) 29 (EV x) (EV y)).run Tryd.prog w = .ok (decide (x = y)) w := by
  obtain ⟨f0, f1, hf, n0, t0, o0, n1, t1, o1⟩ := fields_ent
  unfold EV
  rw [run_equalIn_struct w (d + 2) 29 _ _ struct_ent Tryd.stoodInHeld29, hf]
  simp only [Op.eqFields, Sem.run_bind, if_pos n0, if_pos n1, t0, o0, t1, o1, part_height, part_hash x hx w, part_hash y hy w, Result.andThen_ok, run_equalIn_int w (d + 1) 3 .i64 .i64 _ _ Tryd.underlying3, hash_equalIn d hx.1 hy.1 w]
  by_cases h1 : x.h = y.h
  · rw [if_neg (by simp [h1])]
    rw [Sem.run_bind, part_hash x hx w, Result.andThen_ok, Sem.run_bind, part_hash y hy w, Result.andThen_ok, Sem.run_bind, hash_equalIn d hx.1 hy.1 w, Result.andThen_ok]
    by_cases h2 : x.tx = y.tx
    · rw [decide_eq_true h2, decide_eq_true ((ent_eq_iff x y).2 ⟨h1, h2⟩)]
      rfl
    · rw [decide_eq_false h2, decide_eq_false (fun e => h2 ((ent_eq_iff x y).1 e).2)]
      rfl
  · rw [if_pos (by simp [h1]), decide_eq_false (fun e => h1 ((ent_eq_iff x y).1 e).1)]
    rfl

theorem ent_equal {x y : Ent} (hx : x.ok) (hy : y.ok) (w : World) : (Op.equal 29 (EV x) (EV y)).run Tryd.prog w = .ok (decide (x = y)) w := ent_equalIn 9997 hx hy w

theorem exec_eql_ent {o : Oper} {ρ : Operand → Value} (x y : Operand) (r : TypeId) (ho : o.op = .binOp .eql 29 x y r) {a b : Ent} (hx : ρ x = EV a) (hy : ρ y = EV b) (ha : a.ok) (hb : b.ok) (w : World) :
    (execOp ρ o).run Tryd.prog w = .ok (.value (.bool (decide (a = b)))) w := by
  have he := ent_equal ha hb w
  unfold EV at hx hy he
  unfold execOp
  simp only [ho, hx, hy, Sem.run_bind, run_eqGuard_agg w .eql 29 x y _ _ Tryd.eqGuardType29, Result.andThen_ok, binOp, he, Sem.run_pure]
theorem exec_neq_ent {o : Oper} {ρ : Operand → Value} (x y : Operand) (r : TypeId) (ho : o.op = .binOp .neq 29 x y r) {a b : Ent} (hx : ρ x = EV a) (hy : ρ y = EV b) (ha : a.ok) (hb : b.ok) (w : World) :
    (execOp ρ o).run Tryd.prog w = .ok (.value (.bool (!decide (a = b)))) w := by
  have he := ent_equal ha hb w
  unfold EV at hx hy he
  unfold execOp
  simp only [ho, hx, hy, Sem.run_bind, run_eqGuard_agg w .neq 29 x y _ _ Tryd.eqGuardType29, Result.andThen_ok, binOp, he, Sem.run_pure]
end Go.Proofs.YtbmndibhalbioaaDoor
