/-
  The anchor of the statements of layer 17 (works): it is true.
-/
import Derived.Test.YtbmndibhalbioaaDoorPRight
import Derived.Test.YtbmndibhalbioaaDoorSegs
namespace Go.Proofs.YtbmndibhalbioaaDoor
open Go Go.RowKit

def h0 : List (BitVec 8) := 1 :: List.replicate 31 0
theorem h0_len : h0.length = 32 := rfl
def n0 : List (BitVec 8) := List.replicate 32 0
theorem itoa12 : Lib.itoa 12 = [49, 50] := by
  rw [itoa_pos (by omega)]
  exact Lib.decDigits_two (by decide) (by decide)
theorem built_12 : Tryd.prog.built 29 [(0, .int .i64 12), (1, HV h0)] = some (entCells ⟨12, h0⟩) := by kernel_rfl
theorem built_1 : Tryd.prog.built 29 [(0, .int .i64 1), (1, HV h0)] = some (entCells ⟨1, h0⟩) := by kernel_rfl
theorem built_2 : Tryd.prog.built 29 [(0, .int .i64 2), (1, HV h0)] = some (entCells ⟨2, h0⟩) := by kernel_rfl
theorem built_10 : Tryd.prog.built 29 [(0, .int .i64 1)] = some (entCells ⟨1, n0⟩) := by kernel_rfl
theorem built_h : Tryd.prog.built 27 [(0, .int .u8 1)] = some (tabulate 32 fun i => B8 (h0.getD i 0)) := by kernel_rfl

theorem info_ent : (Tryd.prog.info? 29).map (fun i => (i.zero, i.size, i.bytes)) = some (some (EV ⟨0, n0⟩), 33, 40) := by kernel_rfl
theorem fill_12 : Instr.fill (fun i => some (i * 33, 33)) ((Array.range (1 * 33)).map ((EV ⟨0, n0⟩).cells[· % (EV ⟨0, n0⟩).cells.size]!)) [(0, EV ⟨12, h0⟩)] = some (entCells ⟨12, h0⟩) := by kernel_rfl
theorem fill_1 : Instr.fill (fun i => some (i * 33, 33)) ((Array.range (2 * 33)).map ((EV ⟨0, n0⟩).cells[· % (EV ⟨0, n0⟩).cells.size]!)) [(0, EV ⟨1, h0⟩), (1, EV ⟨1, n0⟩)] = some (entCells ⟨1, h0⟩ ++ entCells ⟨1, n0⟩) := by kernel_rfl
theorem fill_2 : Instr.fill (fun i => some (i * 33, 33)) ((Array.range (2 * 33)).map ((EV ⟨0, n0⟩).cells[· % (EV ⟨0, n0⟩).cells.size]!)) [(0, EV ⟨2, h0⟩), (1, EV ⟨1, n0⟩)] = some (entCells ⟨2, h0⟩ ++ entCells ⟨1, n0⟩) := by kernel_rfl
theorem exec_slice_ents {o : Oper} {a : Act} (n : Nat) (parts : Array (Nat × Operand)) (ho : o.op = .buildSlice 22 n parts) (hn : 0 < n) (hn2 : n ≤ 1000) (vs : List (Nat × Value)) (hp : (parts.map fun (i, x) => (i, a.eval x)).toList = vs) (cells : Array Value)
    (hf : Instr.fill (fun i => some (i * 33, 33)) ((Array.range (n * 33)).map ((EV ⟨0, n0⟩).cells[· % (EV ⟨0, n0⟩).cells.size]!)) vs = some cells) (w : World) :
    (execOp a.eval o).run Tryd.prog w = .ok (.value (.slice (some ⟨w.heap.size, 0, none⟩) n n)) (w.alloc (.cells cells 29)) := by
  obtain ⟨i29, hi29, hz29, hs29, _⟩ := info_parts info_ent
  unfold execOp
  simp only [ho, Sem.run_bind]
  rw [run_buildSlice w 22 29 n _ cells i29 _ Tryd.underlying22 hi29 hz29 (by rw [hs29]; omega) (by rw [hs29]; omega) (by rw [hp, hs29]; exact hf)]
  simp
theorem wpOp_val {P : Program} {ops : Array Oper} {Q : Exit → Act → World → Prop} {i : Nat} {o : Oper} {K : Act → World → Prop} {a : Act} {w w2 : World} {v : Value} (ho : ops[i]? = some o) (hw : Region.wanted o (yielded ops a.tmps) = true)
    (hrun : (execOp a.eval o).run P w = .ok (.value v) w2) (h : K (a.put o.dst v) w2) : wpOp P ops Q i K a w := by
  unfold wpOp
  simp only [ho, hw, if_true]
  refine .inl ?_
  unfold Oper.wp
  rw [hrun, Oper.upon_value]
  exact h

theorem ents_two {w : World} {g : Nat} {t : TypeId} {e1 e2 : Ent} (h : Blk w g t (entCells e1 ++ entCells e2)) : EntsAt w w.heap.size (some ⟨g, 0, none⟩) [e1, e2] := fun _ => by
  refine ⟨g, 0, rfl, h.lt, fun j hj => ?_⟩
  have s1 := entCells_size e1
  match j, hj with
  | 0, _ =>
    refine ⟨?_, fun q v hq => ?_⟩
    · rw [h.cell, Array.getElem?_append_left (by omega)]; rfl
    · have hq32 : q < 32 := by
        have := (List.getElem?_eq_some_iff.1 hq).1
        rwa [hashCells_length] at this
      rw [h.cell, Array.getElem?_append_left (by omega)]
      simpa [entCells, entAt, Nat.add_comm 1 q] using hq
  | 1, _ =>
    refine ⟨?_, fun q v hq => ?_⟩
    · rw [h.cell, Array.getElem?_append_right (by omega), s1]; rfl
    · rw [h.cell, Array.getElem?_append_right (by omega), s1, show 0 + 1 * 33 + 1 + q - 33 = q + 1 by omega]
      simpa [entCells, entAt] using hq
theorem maybe_1 : MayBe [⟨1, h0⟩, ⟨1, n0⟩] := fun i hi => by
  match i, hi with
  | 0, _ => exact ⟨by decide, fun h => by omega, fun k hk => by omega⟩
  | 1, _ => exact ⟨by decide, fun _ => by decide, fun k hk => by
      have : k = 0 := by omega
      subst this
      intro h
      have := congrArg (fun l => l.getD 0 0) h
      simp [entAt, h0, n0] at this⟩
theorem maybe_2 : ¬ MayBe [⟨2, h0⟩, ⟨1, n0⟩] := fun h => by
  have := (h 1 (by simp)).2.1 (by omega)
  simp [entAt] at this
theorem oks_two (a b : Int) (ha : -9223372036854775808 ≤ a) (ha2 : a ≤ 9223372036854775807) (hb : -9223372036854775808 ≤ b) (hb2 : b ≤ 9223372036854775807) : Oks [⟨a, h0⟩, ⟨b, n0⟩] := fun e he => by
  simp at he
  rcases he with rfl | rfl
  · exact ⟨rfl, ha, ha2⟩
  · exact ⟨rfl, hb, hb2⟩

/-- A known run of a guarded operation. -/
theorem wpQuiet_guarded {P : Program} {ops : Array Oper} {C : World → Prop} {Q : Act → Prop} {a : Act} {o : Oper} {rest : List Oper} (hw : Region.wanted o (yielded ops a.tmps) = true) (v : Value)
    (hrun : ∀ w, C w → (execOp a.eval o).run P w = .ok (.value v) w) (h : wpQuiet P ops C Q rest (a.put o.dst v)) : wpQuiet P ops C Q (o :: rest) a := by
  refine wpQuiet_step fun K hK => ?_
  rw [if_pos hw]
  refine ⟨v, fun w hw' => ?_, hK _ h⟩
  unfold Oper.quietAt
  rw [hrun w hw']
  exact ⟨rfl, rfl⟩
theorem exec_load_row {P : Program} {a : Act} {o : Oper} (ty : TypeId) (x : Operand) (ho : o.op = .load ty x) (g : Nat) (hx : a.eval x = .pointer (some ⟨g, 0, none⟩)) (t : TypeId) (cs : Array Value) (fr : Nat × Nat) (d : TypeDesc) (w : World) (hC : w.heap[g]? = some (.cells cs t fr))
    (hu : P.underlying ty = some d) (hd : (match d with | .struct _ | .array _ _ => true | _ => false) = true) (hi : (P.info? ty).map (·.size) = some cs.size) : (execOp a.eval o).run P w = .ok (.value (.agg cs)) w := by
  unfold execOp
  simp only [ho, hx, Instr.loadAt, Instr.sureAddr, Sem.run_bind, Sem.run_pure, Result.andThen_ok, run_loadVar_row w g t ty cs fr d hC hu hd hi]

theorem exec_built {P : Program} {o : Oper} {a : Act} (t : TypeId) (parts : Array (Nat × Operand)) (ho : o.op = .build t parts) (vs : List (Nat × Value)) (hp : (parts.map fun (i, x) => (i, a.eval x)).toList = vs) (cells : Array Value) (hb : P.built t vs = some cells) (w : World) :
    (execOp a.eval o).run P w = .ok (.value (.agg cells)) w := by
  unfold execOp
  simp only [ho, Sem.run_bind, run_build w t _ cells (by rw [hp]; exact hb), Result.andThen_ok, Sem.run_pure]

set_option maxRecDepth 100000 in
set_option maxHeartbeats 1000000 in
theorem works_any (w : World) (hT : Tab w) (hP : Pow w) : Calls Tryd.prog 6 #[] w fun e w' => e = .returned (.bool true) ∧ Below w.heap.size w w' := by
  obtain ⟨i5, hi5, _, hs5, _⟩ := info_parts Tryd.info_u8
  have hT0 := Lib.hid hT
  have hP0 := Lib.hid hP
  clear hT hP
  go_enter Tryd.func6, Tryd.ntmps6
  have hi27 : (Tryd.prog.info? 27).map (·.size) = some (tabulate 32 fun i => B8 (h0.getD i 0)).size := by rw [tabulate_size]; kernel_rfl
  replace hi27 := Lib.hid hi27
  have h1 := Blk.new w 27 (tabulate 32 fun _ => B8 0)
  go_upto_region 2 with (first
    | (refine wpList_of_run rfl (HV h0) (exec_built 27 _ rfl _ (by kernel_rfl) _ built_h _) ?_)
    | (refine wpList_store_row rfl 27 _ _ rfl w.heap.size (tabulate 32 fun i => B8 (h0.getD i 0)) rfl rfl 27 _ h1 hi27.out (by rw [tabulate_size, tabulate_size]) (tabulate_one fun _ _ => rfl) ?_))
  generalize hw1 : World.setRow _ _ _ = w1
  have hH1 : Blk w1 w.heap.size 27 (tabulate 32 fun i => B8 (h0.getD i 0)) := by rw [← hw1]; exact h1.row _
  have hB1 : Below w.heap.size w w1 := by rw [← hw1]; exact Below.setRow ((Below.refl _ _).alloc (Nat.le_refl _) _) (Nat.le_refl _) _
  clear hw1 h1
  have htn := rturned_any h0 w1
  obtain ⟨A, hA⟩ : ∃ A, A = hexL (backL h0) := ⟨_, rfl⟩
  have hAl : A.length = 64 := by rw [hA]; exact backText_length h0
  rw [← hA] at htn
  obtain ⟨T0, hT⟩ : ∃ T, T = A ++ [58, 49, 50, 58] := ⟨_, rfl⟩
  have hTl : T0.length = 68 := by rw [hT]; simp [hAl]
  have hcat : (⟨A.toArray⟩ : ByteArray) ++ ⟨#[58, 49, 50, 58]⟩ = ⟨T0.toArray⟩ := by
    rw [hT]; apply ByteArray.ext; simp
  have hm : (T0.map UB).length = 68 := by rw [List.length_map, hTl]
  have htext : textOf [⟨12, h0⟩] = T0 := by
    rw [hT, hA]; simp [textOf, entText, itoa12]
  replace htn := Lib.hid htn
  replace hA := Lib.hid hA
  replace hT := Lib.hid hT
  replace htext := Lib.hid htext
  have hi27' : (Tryd.prog.info? 27).map (·.size) = some (tabulate 32 fun q => B8 ((sumL (T0.map UB)).getD q 0)).size := by rw [tabulate_size]; kernel_rfl
  replace hi27' := Lib.hid hi27'
  go_upto_region 3 with (first
    | (refine wpList_load_row rfl 27 _ rfl w.heap.size rfl 27 _ (0, 0) _ hH1 Tryd.underlying27 rfl hi27.out ?_)
    | (go_at_call 13
       refine htn.out.mono ?_
       rintro e w2 ⟨rfl, hB2⟩)
    | (refine wpList_str_bytes rfl _ rfl T0 rfl ?_
       intro c2 w3 hB3 hz3 hr3 _
       have hsum := rsum_any (T0.map UB) (some ⟨w2.heap.size, 0, none⟩) c2 w3 hr3 (by simp) (by rw [hm]; omega)
       rw [hm, sumL_val] at hsum
       rw [hTl]
       replace hsum := Lib.hid hsum)
    | (go_at_call 12
       refine hsum.out.mono ?_
       rintro e w4 ⟨rfl, hB4⟩
       have h4 : Blk (w4.alloc (.cells (tabulate 32 fun _ => B8 0) 27)) w4.heap.size 27 (tabulate 32 fun _ => B8 0) := Blk.new w4 _ _)
    | (refine wpList_store_row rfl 27 _ _ rfl w4.heap.size (tabulate 32 fun q => B8 ((sumL (T0.map UB)).getD q 0)) rfl rfl 27 _ h4 hi27'.out (by rw [tabulate_size, tabulate_size]) (tabulate_one fun _ _ => rfl) ?_))
  generalize hw5 : World.setRow _ _ _ = w5
  have hS5 : Blk w5 w4.heap.size 27 (tabulate 32 fun q => B8 ((sumL (T0.map UB)).getD q 0)) := by rw [← hw5]; exact h4.row _
  have hg4 : Below w1.heap.size w1 w4 := (hB2.trans (hB3.mono hB2.size)).trans (hB4.mono (Nat.le_trans hB2.size hB3.size))
  have hg5 : Below w1.heap.size w1 w5 := by rw [← hw5]; exact Below.setRow (hg4.alloc hg4.size _) hg4.size _
  have hH5 : Blk w5 w.heap.size 27 (tabulate 32 fun i => B8 (h0.getD i 0)) := hH1.below hg5 hH1.lt
  have hB5 : Below w.heap.size w w5 := hB1.trans (hg5.mono hB1.size)
  clear hw5 h4 hH1
  obtain ⟨gs, hgs⟩ : ∃ g, w4.heap.size = g := ⟨_, rfl⟩
  rw [hgs] at hS5 ⊢
  have hof : ofL [⟨12, h0⟩] = hexL (sumL (T0.map UB)) := by rw [ofL, if_neg (by simp), htext.out]
  clear hg4 hg5 hB2 hB3 hB4 hr3 hz3 hgs
  have hsl := fun wx => sliceAt_whole (P := Tryd.prog) Tryd.underlying27 hi5 hs5 gs 0 wx
  refine wp_region_segs (S := fun w' => ∃ x : Grew w5.heap.size w5, w' = x.1) [([0, 1, 4], 2), ([], 3), ([], 5), ([6, 7], 8), ([9, 10, 11, 12, 13, 14], 15), ([], 16), ([17, 18, 19, 20, 21], 22), ([], 23)] [24, 25, 26] (by kernel_rfl) (by kernel_rfl) (by intro c a d u w h; cases d <;> exact h) ⟨⟨w5.drew, (Below.refl _ _).drew⟩, rfl⟩ ?_
  simp only [wpSegs, picks, List.getElem?_toArray, List.getElem?_cons_succ, List.getElem?_cons_zero]
  have hrowC : ∀ wx, (∃ x : Grew w5.heap.size w5, wx = x.1) → wx.heap[w.heap.size]? = some (.cells (tabulate 32 fun i => B8 (h0.getD i 0)) 27 (0, 0)) := by
    rintro _ ⟨x, rfl⟩
    exact hH5.below x.2 hH5.lt
  refine wpQuiet_load_row rfl 27 _ rfl w.heap.size rfl 27 _ (0, 0) _ hrowC Tryd.underlying27 rfl hi27.out ?_
  refine wpQuiet_of_run rfl (EV ⟨12, h0⟩) (fun wx _ => exec_built 29 _ rfl _ (by kernel_rfl) _ built_12 wx) ?_
  go_frame
  repeat (go_big_quiet_step (fail))
  refine wpQuiet_nil ?_
  refine wpOp_val rfl rfl (exec_slice_ents 1 _ rfl (by omega) (by omega) _ (by kernel_rfl) _ fill_12 _) ?_
  go_frame
  have hg6 : Below w5.heap.size w5 (w5.drew.alloc (.cells (entCells ⟨12, h0⟩) 29)) := ((Below.refl _ _).drew).alloc (Nat.le_refl _) _
  have hE6 := Blk.new w5.drew 29 (entCells ⟨12, h0⟩)
  refine ⟨⟨⟨_, hg6⟩, rfl⟩, wpQuiet_nil ?_⟩
  generalize hw6 : World.alloc _ _ = w6
  rw [hw6] at hg6 hE6
  clear hw6
  change Blk w6 w5.heap.size _ _ at hE6
  have hB6 := hB5.trans (hg6.mono hB5.size)
  have hok1 : Oks [⟨12, h0⟩] := fun e he => by
    have : e = ⟨12, h0⟩ := by simpa using he
    subst this; exact ⟨rfl, by decide, by decide⟩
  have hof1 := of_any [⟨12, h0⟩] hok1 (some ⟨w5.heap.size, 0, none⟩) 1 w6 (fun _ => ⟨w5.heap.size, 0, rfl, hE6.lt, fun j hj => by
    have hj0 : j = 0 := by simpa using hj
    subst hj0
    exact ⟨by rw [hE6.cell]; rfl, fun q v hq => by rw [hE6.cell]; simpa [entCells, entAt, Nat.add_comm 1 q] using hq⟩⟩) (by simp) (hT0.out.grown hB6) (hP0.out.grown hB6)
  rw [hof] at hof1
  obtain ⟨R, hR⟩ : ∃ R, R = hexL (sumL (T0.map UB)) := ⟨_, rfl⟩
  have hRd : Reads w5 w5.heap.size (some ⟨gs, 0, none⟩) (sumL (T0.map UB)) := fun _ => ⟨gs, 0, rfl, hS5.lt, fun j hj => by
    rw [sumL_length] at hj
    rw [Nat.zero_add, hS5.cell, tabulate_get hj]⟩
  have hne : sumL (T0.map UB) ≠ [] := fun h => by have := sumL_length (T0.map UB); rw [h] at this; simp at this
  have hhx := fun w7 (hb : Below w5.heap.size w5 w7) => rhex_any (sumL (T0.map UB)) (some ⟨gs, 0, none⟩) 32 w7 (fun hn => by
    obtain ⟨b, o, ha, hb', hc⟩ := (hRd.below hb) hn
    exact ⟨b, o, ha, Nat.lt_of_lt_of_le hb' hb.size, hc⟩) hne (by rw [sumL_length]; omega)
  rw [sumL_length, ← hR] at hhx
  rw [← hR] at hof1
  replace hhx := Lib.hid hhx
  replace hof1 := Lib.hid hof1
  clear hR hof
  refine wpOp_step rfl (fun K hK => ?_)
  go_simp
  refine hof1.out.mono ?_
  rintro e w7 ⟨rfl, hB7⟩
  have hg7 := hg6.trans (hB7.mono hg6.size)
  refine hK _ _ ⟨⟨⟨w7, hg7⟩, rfl⟩, wpQuiet_nil ?_⟩
  clear hK K hof1 hE6 hg6 hB6 hB7
  refine wpOp_step rfl (fun K hK => ?_)
  go_simp
  refine (hhx.out w7 hg7).mono ?_
  rintro e w8 ⟨rfl, hB8⟩
  have hg8 := hg7.trans (hB8.mono hg7.size)
  refine hK _ _ ⟨⟨⟨w8, hg8⟩, rfl⟩, ?_⟩
  clear hK K hhx hg7 hB8
  repeat (go_big_quiet_step (fail))
  refine wpQuiet_nil ?_
  have hof0 := of_any [] (fun e he => by cases he) none 0 w8 (fun h => by simp at h) (by simp) (hT0.out.grown (hB5.trans (hg8.mono hB5.size))) (hP0.out.grown (hB5.trans (hg8.mono hB5.size)))
  have hofe : ofL [] = [] := rfl
  rw [hofe] at hof0
  replace hof0 := Lib.hid hof0
  clear hofe
  refine wpOp_step rfl (fun K hK => ?_)
  go_simp
  refine hof0.out.mono ?_
  rintro e w9 ⟨rfl, hB9⟩
  have hg9 := hg8.trans (hB9.mono hg8.size)
  refine hK _ _ ⟨⟨⟨w9, hg9⟩, rfl⟩, ?_⟩
  clear hK K hof0 hg8 hB9
  go_big_quiet_step (fail)
  go_big_quiet_step (fail)
  go_big_quiet_step (fail)
  refine wpQuiet_guarded rfl (.agg (tabulate 32 fun i => B8 (h0.getD i 0))) (fun wx hwx => exec_load_row 27 _ rfl w.heap.size rfl 27 _ (0, 0) _ wx (hrowC wx hwx) Tryd.underlying27 rfl hi27.out) ?_
  refine wpQuiet_guarded rfl (EV ⟨1, h0⟩) (fun wx _ => exec_built 29 _ rfl _ (by kernel_rfl) _ built_1 wx) ?_
  refine wpQuiet_guarded rfl (EV ⟨1, n0⟩) (fun wx _ => exec_built 29 _ rfl _ (by kernel_rfl) _ built_10 wx) ?_
  go_frame
  refine wpQuiet_nil ?_
  refine wpOp_val rfl rfl (exec_slice_ents 2 _ rfl (by omega) (by omega) _ (by kernel_rfl) _ fill_1 _) ?_
  go_frame
  have hgX : Below w5.heap.size w5 (w9.alloc (.cells (entCells ⟨1, h0⟩ ++ entCells ⟨1, n0⟩) 29)) := hg9.alloc hg9.size _
  have hEX := ents_two (Blk.new w9 29 (entCells ⟨1, h0⟩ ++ entCells ⟨1, n0⟩))
  refine ⟨⟨⟨_, hgX⟩, rfl⟩, wpQuiet_nil ?_⟩
  generalize hwX : World.alloc _ _ = w10
  rw [hwX] at hgX hEX
  clear hwX
  have hrt := pright_bool_any [⟨1, h0⟩, ⟨1, n0⟩] (oks_two 1 1 (by decide) (by decide) (by decide) (by decide)) _ 2 w10 hEX (by simp)
  replace hrt := Lib.hid hrt
  refine wpOp_step rfl (fun K hK => ?_)
  go_simp
  refine hrt.out.mono ?_
  rintro e w11 ⟨⟨r, rfl, hr⟩, hBX⟩
  have hrv : r = true := by exact hr.2 maybe_1
  subst hrv
  have hg11 := hgX.trans (hBX.mono hgX.size)
  refine hK _ _ ⟨⟨⟨w11, hg11⟩, rfl⟩, ?_⟩
  clear hK K hrt hEX hgX hBX hr
  go_big_quiet_step (fail)
  go_big_quiet_step (fail)
  refine wpQuiet_guarded rfl (.agg (tabulate 32 fun i => B8 (h0.getD i 0))) (fun wx hwx => exec_load_row 27 _ rfl w.heap.size rfl 27 _ (0, 0) _ wx (hrowC wx hwx) Tryd.underlying27 rfl hi27.out) ?_
  refine wpQuiet_guarded rfl (EV ⟨2, h0⟩) (fun wx _ => exec_built 29 _ rfl _ (by kernel_rfl) _ built_2 wx) ?_
  refine wpQuiet_guarded rfl (EV ⟨1, n0⟩) (fun wx _ => exec_built 29 _ rfl _ (by kernel_rfl) _ built_10 wx) ?_
  go_frame
  refine wpQuiet_nil ?_
  refine wpOp_val rfl rfl (exec_slice_ents 2 _ rfl (by omega) (by omega) _ (by kernel_rfl) _ fill_2 _) ?_
  go_frame
  have hgX : Below w5.heap.size w5 (w11.alloc (.cells (entCells ⟨2, h0⟩ ++ entCells ⟨1, n0⟩) 29)) := hg11.alloc hg11.size _
  have hEX := ents_two (Blk.new w11 29 (entCells ⟨2, h0⟩ ++ entCells ⟨1, n0⟩))
  refine ⟨⟨⟨_, hgX⟩, rfl⟩, wpQuiet_nil ?_⟩
  generalize hwX : World.alloc _ _ = w12
  rw [hwX] at hgX hEX
  clear hwX
  have hrt := pright_bool_any [⟨2, h0⟩, ⟨1, n0⟩] (oks_two 2 1 (by decide) (by decide) (by decide) (by decide)) _ 2 w12 hEX (by simp)
  replace hrt := Lib.hid hrt
  refine wpOp_step rfl (fun K hK => ?_)
  go_simp
  refine hrt.out.mono ?_
  rintro e w13 ⟨⟨r, rfl, hr⟩, hBX⟩
  have hrv : r = false := by cases r with | false => rfl | true => exact absurd (hr.1 rfl) maybe_2
  subst hrv
  have hg13 := hgX.trans (hBX.mono hgX.size)
  refine hK _ _ ⟨⟨⟨w13, hg13⟩, rfl⟩, ?_⟩
  clear hK K hrt hEX hgX hBX hr
  repeat (go_big_quiet_step (fail))
  refine wpQuiet_nil ?_
  go_wp2
  go_ret
  exact ⟨rfl, hB5.trans (hg13.mono hB5.size)⟩
end Go.Proofs.YtbmndibhalbioaaDoor
