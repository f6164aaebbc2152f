/-
  The words behind one piece more: the program's ((sha.words).with).
-/
import Derived.Test.YtiidohaibbdgeaaDoorShaSched
namespace Go.Proofs.YtiidohaibbdgeaaDoor
open Go.RowKit

/-- What the program's table holds. -/
def tabCells : Array Value := tabulate 64 fun i => U (kk i)
/-- The table lies where it was laid. -/
def Tab (w : World) : Prop := ∃ t fr, w.heap[0]? = some (.cells tabCells t fr)
theorem Tab.lt {w : World} (h : Tab w) : 0 < w.heap.size := by
  obtain ⟨t, fr, h⟩ := h
  by_cases hl : 0 < w.heap.size
  · exact hl
  · rw [Array.getElem?_eq_none (by omega)] at h; cases h
theorem Tab.below {B : Nat} {w w' : World} (h : Tab w) (hb : Below B w w') (hB : 0 < B) : Tab w' := by
  obtain ⟨t, fr, h⟩ := h
  exact ⟨t, fr, (hb.block _ hB).trans h⟩
theorem Tab.grown {w w' : World} (h : Tab w) (hb : Below w.heap.size w w') : Tab w' := h.below hb h.lt
theorem Tab.alloc {w : World} (h : Tab w) (o : Obj) : Tab (w.alloc o) := h.grown ((Below.refl _ _).alloc (Nat.le_refl _) _)
theorem Tab.drew {w : World} (h : Tab w) : Tab w.drew := h
theorem Tab.drewN {w : World} (h : Tab w) (n : Nat) : Tab (w.drewN n) := h

theorem Tryd.info_u32 : (Tryd.prog.info? 115).map (fun i => (i.zero, i.size, i.bytes)) = some (some (.int .u32 0), 1, 4) := by kernel_rfl

theorem turns_succ (p : Nat → BitVec 8) (s : Eight) (t : Nat) : turns p s (t + 1) = turn (kk t) (sched p t) (turns p s t) := rfl

theorem one_val (k w : BitVec 32) (q : Eight) : ((q.h.toNat : Int) + bits BinOp.xor IntKind.u32 (bits BinOp.xor IntKind.u32 (ror q.e 6).toNat (ror q.e 11).toNat) (ror q.e 25).toNat +
    bits BinOp.xor IntKind.u32 q.g.toNat (bits BinOp.and IntKind.u32 q.e.toNat (bits BinOp.xor IntKind.u32 q.f.toNat q.g.toNat)) + (k.toNat : Int) + (w.toNat : Int)) % 4294967296 = ((one k w q).toNat : Int) := by
  rw [i_xor, i_xor, i_xor, i_and, i_xor, i_add5]; rfl
theorem two_val (q : Eight) : (bits BinOp.xor IntKind.u32 (bits BinOp.xor IntKind.u32 (ror q.a 2).toNat (ror q.a 13).toNat) (ror q.a 22).toNat +
    bits BinOp.or IntKind.u32 (bits BinOp.and IntKind.u32 q.a.toNat q.b.toNat) (bits BinOp.and IntKind.u32 q.c.toNat (bits BinOp.or IntKind.u32 q.a.toNat q.b.toNat))) % 4294967296 = ((two q).toNat : Int) := by
  rw [i_xor, i_xor, i_and, i_or, i_and, i_or, i_add]; rfl

def Eight.word (s : Eight) (j : Nat) : Value := U (s.at_ j)
theorem Eight.cells_tab (s : Eight) : s.cells = tabulate 8 s.word := rfl
theorem Eight.cells_get (s : Eight) (j : Nat) (h : j < 8) : s.cells[j]? = some (s.word j) := by rw [s.cells_tab, tabulate_get h]
theorem Eight.cells_one (s : Eight) : s.cells.all (·.oneCell') = true := by rw [s.cells_tab]; exact tabulate_one fun _ _ => rfl
theorem plus_at (s q : Eight) (j : Nat) : (plus s q).at_ j = s.at_ j + q.at_ j := by
  unfold Eight.at_ plus; split <;> rfl
/-- The words while others are added to them. -/
def plusCells (s q : Eight) (j : Nat) : Array Value := tabulate 8 fun i => if i < j then U (s.at_ i + q.at_ i) else U (s.at_ i)
theorem plusCells_zero (s q : Eight) : plusCells s q 0 = s.cells := by
  rw [s.cells_tab]; exact tabulate_ext fun i _ => by simp [Eight.word]
theorem plusCells_all (s q : Eight) : plusCells s q 8 = (plus s q).cells := by
  rw [(plus s q).cells_tab]; exact tabulate_ext fun i h => by rw [if_pos h, Eight.word, plus_at]
theorem plusCells_get (s q : Eight) (j : Nat) (h : j < 8) : (plusCells s q j)[j]? = some (U (s.at_ j)) := by
  rw [plusCells, tabulate_get h, if_neg (by omega)]
theorem plusCells_set (s q : Eight) (j : Nat) : (plusCells s q j).setIfInBounds j (U (s.at_ j + q.at_ j)) = plusCells s q (j + 1) := by
  unfold plusCells
  rw [tabulate_set]
  refine tabulate_ext fun i _ => ?_
  by_cases h : i = j
  · subst h; simp
  · by_cases h2 : i < j
    · simp only [h, h2, if_false, if_true, (by omega : i < j + 1)]
    · have h3 : ¬ i < j + 1 := by omega
      simp only [h, h2, h3, if_false]

set_option maxRecDepth 100000 in
set_option maxHeartbeats 2000000 in
theorem with_any (s : Eight) (p : Nat → BitVec 8) (b off : Nat) (w : World) (hp : ∀ i, i < 64 → w.cell? ⟨b, off + i, none⟩ = some (B8 (p i))) (hT : Tab w) :
    Calls Tryd.prog 90 #[.agg #[U s.a, U s.b, U s.c, U s.d, U s.e, U s.f, U s.g, U s.h], .pointer (some ⟨b, off, none⟩)] w fun e w' => e = .returned (.agg (press s p).cells) ∧ Below w.heap.size w w' := by
  have hb : b < w.heap.size := by
    have := block_lt_of_cell (hp 0 (by omega)); simpa using this
  have hp0 := Lib.hid hp
  have hT0 := Lib.hid hT
  clear hp hT
  go_enter Tryd.func90, Tryd.ntmps90
  go_wp2
  go_quiet (fail)
  generalize hw1 : World.drewN _ nq = w1
  have hA : Blk w1 w.heap.size 121 s.cells := by
    rw [← hw1]; exact ((Blk.new w _ _).alloc _).drewN _
  have hR : Blk w1 (w.heap.size + 1) 121 (tabulate 8 fun _ => U 0) := by
    rw [← hw1]
    have := Blk.new (w.alloc (.cells #[U s.a, U s.b, U s.c, U s.d, U s.e, U s.f, U s.g, U s.h] 121)) 121 (tabulate 8 fun _ => U 0)
    rw [World.size_alloc] at this
    exact this.drewN _
  have hB1 : Below w.heap.size w w1 := by
    rw [← hw1]; exact Below.drewN (((Below.refl _ _).alloc (Nat.le_refl _) _).alloc (by simp) _) _
  have hz1 : w.heap.size + 2 = w1.heap.size := by rw [← hw1]; simp
  clear hw1
  have hp1 : ∀ i, i < 64 → w1.cell? ⟨b, off + i, none⟩ = some (B8 (p i)) := fun i hi => (hB1.cell (by exact hb)).trans (hp0.out i hi)
  have hc := schedule_any p b off w1 hp1
  replace hc := Lib.hid hc
  have hz1' := Lib.hid hz1
  clear hz1 hp1
  have hi80 : (Tryd.prog.info? 132).map (·.size) = some (tabulate 64 fun i => U (sched p i)).size := by rw [tabulate_size]; kernel_rfl
  have ht80 : (Tryd.prog.info? 132).map (·.size) = some tabCells.size := by rw [tabCells, tabulate_size]; kernel_rfl
  have h1 : (tabulate 64 fun i => U (sched p i)).all (·.oneCell') = true := tabulate_one fun i hi => rfl
  go_wp2_with (first
    | (go_at_call 91; refine hc.out.mono ?_; rintro e w2 ⟨rfl, hB2⟩)
    | (refine wpList_store_row rfl 132 _ _ rfl w2.heap.size _ rfl rfl 132 _ (Blk.new w2 _ _) hi80 rfl h1 ?_
       generalize hw3 : World.setRow _ _ _ = w3
       have hS : Blk w3 w2.heap.size 132 (tabulate 64 fun i => U (sched p i)) := by rw [← hw3]; exact (Blk.new w2 _ _).row _
       have hB3 : Below w1.heap.size w1 w3 := by rw [← hw3]; exact Below.setRow (hB2.alloc hB2.size _) hB2.size _
       clear hw3
       obtain ⟨tt, fr, hTT⟩ := Tab.grown (Tab.grown hT0.out hB1) hB3)
    | (refine wpList_load_row rfl 132 _ rfl 0 rfl tt _ fr _ hTT Tryd.underlying132 rfl ht80 ?_))
  obtain ⟨i46, hi46, _, hs46, _⟩ := info_parts Tryd.info_u32
  have hx : ∀ j : Nat, j < 64 → ∀ wx, (Instr.index 132 (.agg tabCells) (.int .i64 (j : Int))).run Tryd.prog wx = .ok (U (kk j)) wx := fun (j : Nat) hj wx =>
    index_agg Tryd.underlying132 hi46 hs46 Tryd.underlying115 rfl tabCells .i64 (j : Int) j _ rfl hj (by rw [tabCells, tabulate_get hj]) wx
  replace hx := Lib.hid hx
  clear hi80 ht80 h1
  go_loopw [5, 6, 7, 8, 9, 10, 11, 12, 39] (fun a b c d e f g h i wr => ∃ t : Nat, t ≤ 64 ∧ i = .int .i64 t ∧ a = U (turns p s t).a ∧ b = U (turns p s t).b ∧ c = U (turns p s t).c ∧ d = U (turns p s t).d ∧
      e = U (turns p s t).e ∧ f = U (turns p s t).f ∧ g = U (turns p s t).g ∧ h = U (turns p s t).h ∧ Blk wr w2.heap.size 132 (tabulate 64 fun i => U (sched p i)) ∧ Below w1.heap.size w1 wr)
    (fun _ _ _ _ _ _ _ _ i _ => 64 - (intOf i).toNat)
  case atStart => exact ⟨0, by omega, rfl, rfl, rfl, rfl, rfl, rfl, rfl, rfl, rfl, hS, hB3⟩
  case round =>
    obtain ⟨t, ht, rfl, rfl, rfl, rfl, rfl, rfl, rfl, rfl, rfl, hSr, hBr⟩ := hrel
    clear hS hB3 hTT
    by_cases hlt : t < 64
    · have hxt := hx.out t hlt
      have hq := turns_succ p s t
      have hc : wr.cell? ⟨w2.heap.size, t, none⟩ = some (U (sched p t)) := by rw [hSr.cell, tabulate_get hlt]
      generalize turns p s t = q at *
      replace hq := Lib.hid hq
      go_wp2
      go_quiet ((go_at_call 92; exact Calls.quiet_of_same (right_st _ _ _ (by omega) (by omega))))
      go_wp2_with (go_at_call 92; refine (right_any _ _ _ (by omega) (by omega)).mono ?_; rintro e w' ⟨rfl, rfl⟩)
      go_roundw
      case rel =>
        refine ⟨t + 1, by omega, by go_num, ?_, ?_, ?_, ?_, ?_, ?_, ?_, ?_, hSr.drewN nq, Below.drewN hBr nq⟩
        all_goals rw [hq.out]
        · rw [one_val, two_val, i_add]; rfl
        · rfl
        · rfl
        · rfl
        · rw [one_val, i_add]; rfl
        · rfl
        · rfl
        · rfl
      case measure => simp [intOf]; omega
    · obtain rfl : t = 64 := by omega
      generalize hqq : turns p s 64 = q at *
      replace hqq := Lib.hid hqq
      have hiA : wr.heap[w.heap.size]? = some (.cells s.cells 121 (0, 0)) := hA.below hBr (by have := hz1'.out; omega)
      have hRr : Blk wr (w.heap.size + 1) 121 (tabulate 8 fun _ => U 0) := hR.below hBr (by have := hz1'.out; omega)
      replace hiA := Lib.hid hiA
      go_wp2
      have hx8 : ∀ j : Nat, j < 8 → ∀ wx, (Instr.index 121 (.agg #[U q.a, U q.b, U q.c, U q.d, U q.e, U q.f, U q.g, U q.h]) (.int .i64 (j : Int))).run Tryd.prog wx = .ok (U (q.at_ j)) wx := fun (j : Nat) hj wx =>
        index_agg Tryd.underlying121 hi46 hs46 Tryd.underlying115 rfl q.cells .i64 (j : Int) j _ rfl hj (q.cells_get j hj) wx
      replace hx8 := Lib.hid hx8
      clear hx
      go_loopw [107] (fun i wq => ∃ j : Nat, j ≤ 8 ∧ i = .int .i64 j ∧ Blk wq w.heap.size 121 (plusCells s q j) ∧ Blk wq (w.heap.size + 1) 121 (tabulate 8 fun _ => U 0) ∧ Below w.heap.size w wq) (fun i _ => 8 - (intOf i).toNat)
      case atStart => exact ⟨0, by omega, rfl, by rw [plusCells_zero]; exact hiA.out, hRr, hB1.trans (hBr.mono (by have := hz1'.out; omega))⟩
      case round =>
        obtain ⟨j, hj, rfl, hAj, hRj, hBj⟩ := hrel
        by_cases hj8 : j < 8
        · have hxj := hx8.out j hj8
          have hcj : wr.cell? ⟨w.heap.size, j, none⟩ = some (U (s.at_ j)) := by rw [hAj.cell]; exact plusCells_get s q j hj8
          have hfj := hAj.free j
          go_wp2
          go_roundw
          case rel =>
            refine ⟨j + 1, by omega, by go_num, ?_, hRj.far (by simp) _, hBj.setCell (Nat.le_refl _) _⟩
            rw [i_add, ← plusCells_set]
            exact hAj.set _ _
          case measure => simp [intOf]; omega
        · obtain rfl : j = 8 := by omega
          rw [plusCells_all] at hAj
          have hi8 : (Tryd.prog.info? 121).map (·.size) = some (plus s q).cells.size := by kernel_rfl
          go_wp2_with (first
            | (refine wpList_load_row rfl 121 _ rfl w.heap.size rfl 121 _ (0, 0) _ hAj Tryd.underlying121 rfl hi8 ?_)
            | (refine wpList_store_row rfl 121 _ _ rfl (w.heap.size + 1) _ rfl rfl 121 _ hRj hi8 (by rw [tabulate_size, Eight.cells_tab, tabulate_size]) (Eight.cells_one _) ?_))
          refine bodyPost_ret (v := .agg (plus s q).cells) (results_cell_row rfl _ _ (w.heap.size + 1) 121 (plus s q).cells (0, 0) _ rfl (hRj.row _) Tryd.underlying121 rfl hi8) rfl ⟨?_, Below.setRow hBj (by omega) _⟩
          rw [press, hqq.out]
end Go.Proofs.YtiidohaibbdgeaaDoor
