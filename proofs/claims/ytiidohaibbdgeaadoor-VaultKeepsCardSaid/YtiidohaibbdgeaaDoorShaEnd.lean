/-
  The sum of a text: the program's (sha.Begin, (sha.State).End, sha.Sum).
-/
import Derived.Test.YtiidohaibbdgeaaDoorShaAdd
import Derived.Deep.LoopGhost
namespace Go.Proofs.YtiidohaibbdgeaaDoor
open Go.RowKit

set_option maxHeartbeats 400000 in
theorem start_any (w : World) : Calls Tryd.prog 89 #[] w fun e w' => e = .returned (.agg iv.cells) ∧ Below w.heap.size w w' := by
  go_enter Tryd.func89, Tryd.ntmps89
  go_wp2
  refine bodyPost_ret (v := .agg iv.cells) (results_cell_row rfl _ _ w.heap.size 121 iv.cells (0, 0) _ rfl (Blk.new w _ _) Tryd.underlying121 rfl (by kernel_rfl)) rfl ⟨rfl, (Below.refl _ _).alloc (Nat.le_refl _) _⟩

set_option maxRecDepth 100000 in
set_option maxHeartbeats 1000000 in
theorem begin_any (w : World) : Calls Tryd.prog 86 #[] w fun e w' => e = .returned (.agg (stCells iv (fun _ => 0) 0)) ∧ Below w.heap.size w w' := by
  go_enter Tryd.func86, Tryd.ntmps86
  have hz := (zero_of_info Tryd.info_state).1
  have hi67 : (Tryd.prog.info? 124).map (·.size) = some (stCells iv (fun _ => 0) 0).size := by rw [stCells_size]; kernel_rfl
  replace hi67 := Lib.hid hi67
  go_wp2_with (first
    | (go_at_call 89
       refine (start_any _).mono ?_
       rintro e w1 ⟨rfl, hB1⟩
       have hK1 := (Blk.new w 124 stZero).below hB1 (by simp)
       have hB1' : Below w.heap.size w w1 := ((Below.refl _ w).alloc (Nat.le_refl _) _).trans (hB1.mono (by simp)))
    | (refine wpList_store_row rfl 124 _ _ rfl w.heap.size (stCells iv (fun _ => 0) 0) rfl (by kernel_rfl) 124 _ hK1 hi67.out (by rw [stCells_size]; rfl) (stCells_one _ _ _) ?_))
  exact bodyPost_ret (v := .agg (stCells iv (fun _ => 0) 0)) (results_cell_row rfl _ _ w.heap.size 124 _ (0, 0) _ rfl (hK1.row _) Tryd.underlying124 rfl hi67.out) rfl ⟨rfl, Below.setRow hB1' (Nat.le_refl _) _⟩

/-- The length's bytes while they are laid. -/
def longCells (n i : Nat) : Array Value := tabulate 8 fun j => if j < i then B8 ((bits8 n).getD j 0) else B8 0

theorem bits8_length (n : Nat) : (bits8 n).length = 8 := by simp [bits8]
theorem bits8_get (n i : Nat) (h : i < 8) : (bits8 n).getD i 0 = BitVec.ofNat 8 (8 * n / 2 ^ (56 - 8 * i)) := by simp [bits8, List.getD, h]
theorem byte_of (n e : Nat) : ((n : Int) * 8 / 2 ^ e % 256) = ((BitVec.ofNat 8 (8 * n / 2 ^ e)).toNat : Int) := by
  rw [BitVec.toNat_ofNat, Nat.mul_comm 8 n]
  simp
theorem longCells_set (n i : Nat) (h : i < 8) : (longCells n i).setIfInBounds i (.int .u8 ((n : Int) * 8 / 2 ^ (56 - 8 * i) % 256)) = longCells n (i + 1) := by
  unfold longCells
  rw [tabulate_set, byte_of, ← bits8_get n i h]
  refine tabulate_ext fun j _ => ?_
  by_cases h1 : j = i
  · subst h1; simp
  · by_cases h2 : j < i
    · simp only [h1, h2, if_false, if_true, (by omega : j < i + 1)]
    · have h3 : ¬ j < i + 1 := by omega
      simp only [h1, h2, h3, if_false]
theorem reads_long {w : World} {L : Nat} {t : TypeId} {n : Nat} (h : Blk w L t (longCells n 8)) : Reads w w.heap.size (some ⟨L, 0, none⟩) (bits8 n) := fun _ =>
  ⟨L, 0, rfl, h.lt, fun j hj => by
    rw [bits8_length] at hj
    rw [Nat.zero_add, h.cell, longCells, tabulate_get hj, if_pos hj]⟩
/-- The sum's bytes while they are laid. -/
def outCells (m : List (BitVec 8)) (i : Nat) : Array Value := tabulate 32 fun j => if j < i then B8 (sumByte m j) else B8 0
theorem outCells_set (m : List (BitVec 8)) (i : Nat) : (outCells m i).setIfInBounds i (B8 (sumByte m i)) = outCells m (i + 1) := by
  unfold outCells
  rw [tabulate_set]
  refine tabulate_ext fun j _ => ?_
  by_cases h1 : j = i
  · subst h1; simp
  · by_cases h2 : j < i
    · simp only [h1, h2, if_false, if_true, (by omega : j < i + 1)]
    · have h3 : ¬ j < i + 1 := by omega
      simp only [h1, h2, h3, if_false]
theorem sum_byte (m : List (BitVec 8)) (i : Nat) : (((lastWords m).at_ (i / 4)).toNat : Int) / 2 ^ (24 - 8 * (i % 4)) % 256 = ((sumByte m i).toNat : Int) := by
  rw [sumByte, BitVec.toNat_setWidth, i_shr]; simp
theorem stCells_word {w : World} {g : Nat} {t : TypeId} {s : Eight} {pc : Nat → BitVec 8} {n : Nat} (h : Blk w g t (stCells s pc n)) (i : Nat) (hi : i < 8) : w.cell? ⟨g, 1 + i, none⟩ = some (U (s.at_ i)) := by
  rw [h.cell, stCells, tabulate_get (by omega), if_neg (by omega), if_pos (by omega), Nat.add_sub_cancel_left]; rfl

/-- One byte as a new slice. -/
theorem reads_one (w : World) (t : TypeId) (x : BitVec 8) (v : Value) (hv : v = B8 x) : Reads (w.alloc (.cells #[v] t)) (w.alloc (.cells #[v] t)).heap.size (some ⟨w.heap.size, 0, none⟩) [x] := fun _ => by
  subst hv
  refine ⟨w.heap.size, 0, rfl, by simp, fun j hj => ?_⟩
  have : j = 0 := by simpa using hj
  subst this
  rw [(Blk.new w t #[B8 x]).cell]; rfl

set_option maxRecDepth 100000 in
set_option maxHeartbeats 2000000 in
theorem end_any (m : List (BitVec 8)) (pc : Nat → BitVec 8) (w : World) (hpc : PcOf m pc) (hlen : m.length < 1152921504606846976) (hT : Tab w) :
    Calls Tryd.prog 88 #[.agg (stCells (pieces m (m.length / 64)) pc m.length)] w fun e w' => e = .returned (.agg (tabulate 32 fun i => B8 (sumByte m i))) ∧ Below w.heap.size w w' := by
  have gn : (stCells (pieces m (m.length / 64)) pc m.length)[73]? = some (.int .u64 (m.length : Int)) := stCells_n _ _ _
  have hT0 := Lib.hid hT
  have hpc0 := Lib.hid hpc
  clear hT hpc
  go_enter Tryd.func88, Tryd.ntmps88
  go_upto_region 2 with (fail)
  generalize hw1 : World.alloc _ _ = w1
  have hK : Blk w1 w.heap.size 124 (stCells (pieces m (m.length / 64)) pc m.length) := by
    rw [← hw1]; exact (Blk.new w _ _).alloc _
  have hR : Blk w1 (w.heap.size + 1) 105 (tabulate 32 fun _ => B8 0) := by
    rw [← hw1]
    have := Blk.new (w.alloc (.cells (stCells (pieces m (m.length / 64)) pc m.length) 124)) 105 (tabulate 32 fun _ => B8 0)
    rw [World.size_alloc] at this
    exact this
  have hB : Below w.heap.size w w1 := by
    rw [← hw1]; exact ((Below.refl _ _).alloc (Nat.le_refl _) _).alloc (by simp) _
  clear hw1 gn
  have h67 : ∀ (s : Eight) pc n, (Tryd.prog.info? 124).map (·.size) = some (stCells s pc n).size := fun s pc n => by rw [stCells_size]; kernel_rfl
  replace h67 := Lib.hid h67
  obtain ⟨M1, hM1⟩ : ∃ M1, M1 = m ++ [0x80] := ⟨_, rfl⟩
  have hadd := add_any m [0x80] pc (some ⟨w1.heap.size, 0, none⟩) 1 (w1.alloc (.cells #[.int .u8 128] 5)) (reads_one w1 _ _ _ rfl) (by simp) hpc0.out (by simp; omega) ((hT0.out.grown hB).alloc _)
  rw [← hM1] at hadd
  replace hadd := Lib.hid hadd
  replace hM1 := Lib.hid hM1
  go_upto_block 0 with (first
    | (refine wpList_load_row rfl 124 _ rfl w.heap.size rfl 124 _ (0, 0) _ hK Tryd.underlying124 rfl (h67.out _ _ _) ?_)
    | (go_at_call 87
       refine hadd.out.mono ?_
       rintro e w2 ⟨pc2, rfl, hpc2, hB2⟩
       have hK2 := (hK.alloc (.cells #[.int .u8 128] 5)).below hB2 (by have := hK.lt; simp; omega)
       have hR2 := (hR.alloc (.cells #[.int .u8 128] 5)).below hB2 (by have := hR.lt; simp; omega)
       have hB2' : Below w.heap.size w w2 := (hB.alloc hB.size _).trans (hB2.mono (by have := hB.size; simp; omega)))
    | (refine wpList_store_row rfl 124 _ _ rfl w.heap.size (stCells (pieces M1 (M1.length / 64)) pc2 M1.length) rfl rfl 124 _ hK2 (h67.out _ _ _) (by rw [stCells_size, stCells_size]) (stCells_one _ _ _) ?_
       generalize hw3 : World.setRow _ _ _ = w3
       have hK3 : Blk w3 w.heap.size 124 (stCells (pieces M1 (M1.length / 64)) pc2 M1.length) := by rw [← hw3]; exact hK2.row _
       have hR3 : Blk w3 (w.heap.size + 1) 105 (tabulate 32 fun _ => B8 0) := by rw [← hw3]; exact hR2.row_far (by omega) _
       have hB3 : Below w.heap.size w w3 := by rw [← hw3]; exact Below.setRow hB2' (Nat.le_refl _) _
       clear hw3 hK2 hR2 hB2 hB2'))
  have hl1 : M1.length = m.length + 1 := by rw [hM1.out]; simp
  have hz := noughts_fit m.length
  obtain ⟨Z, hZ⟩ : ∃ Z, Z = noughts m.length := ⟨_, rfl⟩
  rw [← hZ] at hz
  obtain ⟨hz1, hz2⟩ := hz
  have hzf : ∀ z, z < Z → (m.length + 1 + z) % 64 ≠ 56 := fun z h => noughts_first m.length z (by rw [← hZ]; exact h)
  replace hZ := Lib.hid hZ
  replace hzf := Lib.hid hzf
  replace hl1 := Lib.hid hl1
  replace hz1 := Lib.hid hz1
  go_frame
  go_wp2_with (fail)
  go_loopg [14] Z (fun k _ wr => ∃ (z : Nat) (M : List (BitVec 8)) (pc : Nat → BitVec 8), k = Z - z ∧ z ≤ Z ∧ Hid (M = M1 ++ List.replicate z 0) ∧ Blk wr w.heap.size 124 (stCells (pieces M (M.length / 64)) pc M.length) ∧ PcOf M pc ∧
    Blk wr (w.heap.size + 1) 105 (tabulate 32 fun _ => B8 0) ∧ Below w.heap.size w wr)
  case atStart => exact ⟨0, M1, pc2, by omega, by omega, by show M1 = _; simp, hK3, hpc2, hR3, hB3⟩
  case round =>
    obtain ⟨z, M, pc, rfl, hzZ, hM, hKr, hpcr, hRr, hBr⟩ := hrel
    clear hK hR hB hK3 hR3 hB3 hpc2
    have hlM : M.length = m.length + 1 + z := by rw [hM.out, List.length_append, hl1.out]; simp
    have hcn : wr.cell? ⟨w.heap.size, 73, none⟩ = some (.int .u64 (M.length : Int)) := by rw [hKr.cell]; exact stCells_n _ _ _
    have hlb : M.length < 2305843009213693952 := by omega
    by_cases hzl : z < Z
    · have ht : ((M.length : Int) % 64 != 56) = true := by
        rw [bne_iff_ne]; have := hzf.out z hzl; omega
      obtain ⟨M', hM'⟩ : ∃ M', M' = M ++ [0] := ⟨_, rfl⟩
      have hadd := add_any M [0] pc (some ⟨wr.heap.size, 0, none⟩) 1 (wr.alloc (.cells #[.int .u8 0] 5)) (reads_one wr _ _ _ rfl) (by simp) hpcr (by simp; omega) ((hT0.out.grown hBr).alloc _)
      rw [← hM'] at hadd
      replace hadd := Lib.hid hadd
      replace hM' := Lib.hid hM'
      replace hlM := Lib.hid hlM
      go_wp2_with (first
        | (refine wpList_load_row rfl 124 _ rfl w.heap.size rfl 124 _ (0, 0) _ hKr Tryd.underlying124 rfl (h67.out _ _ _) ?_)
        | (go_at_call 87
           refine hadd.out.mono ?_
           rintro e w2 ⟨pc2, rfl, hpc2, hB2⟩
           have hK2 := (hKr.alloc (.cells #[.int .u8 0] 5)).below hB2 (by have := hKr.lt; simp; omega)
           have hR2 := (hRr.alloc (.cells #[.int .u8 0] 5)).below hB2 (by have := hRr.lt; simp; omega)
           have hB2' : Below w.heap.size w w2 := (hBr.alloc hBr.size _).trans (hB2.mono (by have := hBr.size; simp; omega)))
        | (refine wpList_store_row rfl 124 _ _ rfl w.heap.size (stCells (pieces M' (M'.length / 64)) pc2 M'.length) rfl rfl 124 _ hK2 (h67.out _ _ _) (by rw [stCells_size, stCells_size]) (stCells_one _ _ _) ?_
           go_frame))
      go_roundg (Z - (z + 1))
      case measure => omega
      case rel => exact ⟨z + 1, M', pc2, rfl, by omega, by show M' = _; rw [hM'.out, hM.out, List.replicate_succ', List.append_assoc], hK2.row _, hpc2, hR2.row_far (by omega) _, Below.setRow hB2' (Nat.le_refl _) _⟩
    · obtain rfl : z = Z := by omega
      have ht : ((M.length : Int) % 64 != 56) = false := by
        rw [bne_eq_false_iff_eq]; have := hz1.out; omega
      replace hlM := Lib.hid hlM
      go_upto_block 2 with (fail)
      generalize hw5 : World.alloc _ _ = w5
      have hL5 : Blk w5 wr.heap.size 131 (longCells m.length 0) := by rw [← hw5]; exact Blk.new wr _ _
      have hK5 := hKr.alloc (.cells (longCells m.length 0) 131)
      have hR5 := hRr.alloc (.cells (longCells m.length 0) 131)
      have hB5 := hBr.alloc hBr.size (.cells (longCells m.length 0) 131)
      change Blk (wr.alloc (.cells _ _)) _ _ _ at hK5
      have e5 : wr.alloc (.cells (longCells m.length 0) 131) = w5 := hw5
      rw [e5] at hK5 hR5 hB5
      have hLb : w.heap.size + 1 < wr.heap.size := hRr.lt
      clear e5 hw5 hcn
      obtain ⟨L, hL⟩ : ∃ L, wr.heap.size = L := ⟨_, rfl⟩
      rw [hL] at hL5 hLb ⊢
      replace hL := Lib.hid hL
      clear hKr hRr hBr
      go_wp2_with (fail)
      go_loopw [21] (fun v wq => ∃ i : Nat, i ≤ 8 ∧ v = .int .i64 i ∧ Blk wq L 131 (longCells m.length i) ∧ Blk wq w.heap.size 124 (stCells (pieces M (M.length / 64)) pc M.length) ∧
        Blk wq (w.heap.size + 1) 105 (tabulate 32 fun _ => B8 0) ∧ Below w.heap.size w wq) (fun v _ => 8 - (intOf v).toNat)
      case atStart => exact ⟨0, by omega, rfl, hL5, hK5, hR5, hB5⟩
      case round =>
        obtain ⟨i, hi, rfl, hLq, hKq, hRq, hBq⟩ := hrel
        clear hL5 hK5 hR5 hB5
        by_cases hi8 : i < 8
        · have hcl : wr.cell? ⟨L, i, none⟩ = some (B8 0) := by rw [hLq.cell, longCells, tabulate_get hi8, if_neg (by omega)]
          have hfl := hLq.free i
          go_wp2
          go_roundw
          case rel =>
            refine ⟨i + 1, by omega, by go_num, ?_, hKq.far (by simp; omega) _, hRq.far (by simp; omega) _, hBq.setCell (by simp; omega) _⟩
            rw [← longCells_set _ _ hi8]
            exact hLq.set _ _
          case measure => simp [intOf]; omega
        · obtain rfl : i = 8 := by omega
          have hpad : M ++ bits8 m.length = padded m := by rw [hM.out, hM1.out, hZ.out]; rfl
          have hlp : (padded m).length < 2305843009213693952 := by rw [padded_length]; have := (noughts_fit m.length).2; omega
          replace hpad := Lib.hid hpad
          replace hlp := Lib.hid hlp
          obtain ⟨i5, hi5, _, hs5, _⟩ := info_parts Tryd.info_u8
          have hsl := fun wx => sliceAt_whole (P := Tryd.prog) Tryd.underlying131 hi5 hs5 L 0 wx
          go_upto_region 11 with (fail)
          refine wp_quiet_tail 2 (by kernel_rfl) (by kernel_rfl) ?_
          simp only [List.take_succ_cons, List.take_zero, List.drop_succ_cons, List.drop_zero]
          refine wpQuiet_load_row rfl 124 _ rfl w.heap.size rfl 124 _ (0, 0) _ (by rintro _ ⟨n, rfl⟩; exact hKq) Tryd.underlying124 rfl (h67.out _ _ _) ?_
          go_frame
          go_big_quiet_step (fail)
          refine wpQuiet_nil ?_
          rintro _ ⟨nr, rfl⟩
          have hadd := add_any M (bits8 m.length) pc (some ⟨L, 0, none⟩) 8 (wr.drewN nr) (reads_long (hLq.drewN nr)) (by rw [bits8_length]; omega) hpcr (by rw [bits8_length]; have := hlM.out; omega) ((hT0.out.grown hBq).drewN nr)
          rw [hpad.out, bits8_length] at hadd
          have hSum : pieces (padded m) ((padded m).length / 64) = lastWords m := rfl
          generalize padded m = Pd at *
          replace hadd := Lib.hid hadd
          replace hSum := Lib.hid hSum
          go_upto_block 4 with (first
            | (go_at_call 87
               refine hadd.out.mono ?_
               rintro e w6 ⟨pc6, rfl, hpc6, hB6⟩
               have hK6 := (hKq.drewN nr).below hB6 hKq.lt
               have hR6 := (hRq.drewN nr).below hB6 hRq.lt
               have hB6' : Below w.heap.size w w6 := (Below.drewN hBq nr).trans (hB6.mono (by have := hBq.size; simpa using this)))
            | (refine wpList_store_row rfl 124 _ _ rfl w.heap.size (stCells (pieces Pd (Pd.length / 64)) pc6 Pd.length) rfl rfl 124 _ hK6 (h67.out _ _ _) (by rw [stCells_size, stCells_size]) (stCells_one _ _ _) ?_
               generalize hw7 : World.setRow _ _ _ = w7
               have hK7 : Blk w7 w.heap.size 124 (stCells (pieces Pd (Pd.length / 64)) pc6 Pd.length) := by rw [← hw7]; exact hK6.row _
               have hR7 : Blk w7 (w.heap.size + 1) 105 (tabulate 32 fun _ => B8 0) := by rw [← hw7]; exact hR6.row_far (by omega) _
               have hB7 : Below w.heap.size w w7 := by rw [← hw7]; exact Below.setRow hB6' (Nat.le_refl _) _
               clear hw7
               go_frame))
          generalize hw8 : World.alloc _ _ = w8
          have e8 : w7.alloc (.cells (outCells m 0) 105) = w8 := hw8
          have hO8 : Blk w8 w7.heap.size 105 (outCells m 0) := by rw [← e8]; exact Blk.new w7 _ _
          have hK8 := hK7.alloc (.cells (outCells m 0) 105)
          have hR8 := hR7.alloc (.cells (outCells m 0) 105)
          have hB8 := hB7.alloc hB7.size (.cells (outCells m 0) 105)
          rw [e8] at hK8 hR8 hB8
          have hOb : w.heap.size + 1 < w7.heap.size := hR7.lt
          clear e8 hw8 hK7 hR7 hB7 hK6 hR6 hB6 hB6' hLq hKq hRq hBq hadd hsl
          obtain ⟨O, hO⟩ : ∃ O, w7.heap.size = O := ⟨_, rfl⟩
          rw [hO] at hO8 hOb ⊢
          replace hO := Lib.hid hO
          go_wp2_with (fail)
          go_loopw [36] (fun v wq => ∃ i : Nat, i ≤ 32 ∧ v = .int .i64 i ∧ Blk wq O 105 (outCells m i) ∧ Blk wq w.heap.size 124 (stCells (pieces Pd (Pd.length / 64)) pc6 Pd.length) ∧
            Blk wq (w.heap.size + 1) 105 (tabulate 32 fun _ => B8 0) ∧ Below w.heap.size w wq) (fun v _ => 32 - (intOf v).toNat)
          case atStart => exact ⟨0, by omega, rfl, hO8, hK8, hR8, hB8⟩
          case round =>
            obtain ⟨i, hi, rfl, hOq, hKq, hRq, hBq⟩ := hrel
            clear hO8 hK8 hR8 hB8
            by_cases hi32 : i < 32
            · have hco : wr.cell? ⟨O, i, none⟩ = some (B8 0) := by rw [hOq.cell, outCells, tabulate_get hi32, if_neg (by omega)]
              have hfo := hOq.free i
              have hcw : wr.cell? ⟨w.heap.size, 1 + i / 4, none⟩ = some (U ((lastWords m).at_ (i / 4))) := by rw [stCells_word hKq (i / 4) (by omega), hSum.out]
              go_wp2
              go_roundw
              case rel =>
                refine ⟨i + 1, by omega, by go_num, ?_, hKq.far (by simp; omega) _, hRq.far (by simp; omega) _, hBq.setCell (by simp; omega) _⟩
                rw [sum_byte, ← outCells_set]
                exact hOq.set _ _
              case measure => simp [intOf]; omega
            · obtain rfl : i = 32 := by omega
              have hi27 : (Tryd.prog.info? 105).map (·.size) = some (outCells m 32).size := by rw [outCells, tabulate_size]; kernel_rfl
              replace hi27 := Lib.hid hi27
              have h1 : (outCells m 32).all (·.oneCell') = true := tabulate_one fun j _ => by split <;> rfl
              go_wp2_with (first
                | (refine wpList_load_row rfl 105 _ rfl O rfl 105 _ (0, 0) _ hOq Tryd.underlying105 rfl hi27.out ?_)
                | (refine wpList_store_row rfl 105 _ _ rfl (w.heap.size + 1) _ rfl rfl 105 _ hRq hi27.out (by rw [outCells, tabulate_size, tabulate_size]) h1 ?_))
              refine bodyPost_ret (v := .agg (outCells m 32)) (results_cell_row rfl _ _ (w.heap.size + 1) 105 _ (0, 0) _ rfl (hRq.row _) Tryd.underlying105 rfl hi27.out) rfl ⟨?_, Below.setRow hBq (by omega) _⟩
              rw [outCells]
              refine congrArg (fun x => Ending.returned (.agg x)) (tabulate_ext fun j hj => ?_)
              rw [if_pos hj]

set_option maxRecDepth 100000 in
set_option maxHeartbeats 1000000 in
/-- The program's sum of bytes is the sum of these bytes. -/
theorem sum_any (xs : List (BitVec 8)) (a : Option Addr) (cap : Nat) (w : World) (hr : Reads w w.heap.size a xs) (hcap : xs.length ≤ cap) (hlen : xs.length < 1152921504606846976) (hT : Tab w) :
    Calls Tryd.prog 80 #[.slice a xs.length cap] w fun e w' => e = .returned (.agg (tabulate 32 fun i => B8 (sumByte xs i))) ∧ Below w.heap.size w w' := by
  have hr0 := Lib.hid hr
  have hT0 := Lib.hid hT
  clear hr hT
  have hi27 : (Tryd.prog.info? 105).map (·.size) = some (tabulate 32 fun i => B8 (sumByte xs i)).size := by rw [tabulate_size]; kernel_rfl
  replace hi27 := Lib.hid hi27
  go_enter Tryd.func80, Tryd.ntmps80
  go_wp2_with (first
    | (go_at_call 86
       refine (begin_any _).mono ?_
       rintro e w1 ⟨rfl, hB1⟩
       have hR1 := (Blk.new w 105 (tabulate 32 fun _ => B8 0)).below hB1 (by simp)
       have hB1' : Below w.heap.size w w1 := ((Below.refl _ w).alloc (Nat.le_refl _) _).trans (hB1.mono (by simp))
       have hadd := add_any [] xs (fun _ => 0) a cap w1 (fun hn => by
         obtain ⟨b, o, ha, hb, hc⟩ := (hr0.out.below hB1') hn
         exact ⟨b, o, ha, Nat.lt_of_lt_of_le hb hB1'.size, hc⟩) hcap (fun i hi => by simp at hi) (by simp; omega) (hT0.out.grown hB1')
       rw [List.nil_append] at hadd
       replace hadd := Lib.hid hadd)
    | (go_at_call 87
       refine hadd.out.mono ?_
       rintro e w2 ⟨pc2, rfl, hpc2, hB2⟩
       have hR2 := hR1.below hB2 hR1.lt
       have hB2' : Below w.heap.size w w2 := hB1'.trans (hB2.mono hB1'.size))
    | (go_at_call 88
       refine (end_any xs pc2 w2 hpc2 hlen (hT0.out.grown hB2')).mono ?_
       rintro e w3 ⟨rfl, hB3⟩
       have hR3 := hR2.below hB3 hR2.lt
       have hB3' : Below w.heap.size w w3 := hB2'.trans (hB3.mono hB2'.size))
    | (refine wpList_store_row rfl 105 _ _ rfl w.heap.size _ rfl rfl 105 _ hR3 hi27.out (by rw [tabulate_size, tabulate_size]) (tabulate_one fun _ _ => rfl) ?_))
  exact bodyPost_ret (v := .agg (tabulate 32 fun i => B8 (sumByte xs i))) (results_cell_row rfl _ _ w.heap.size 105 _ (0, 0) _ rfl (hR3.row _) Tryd.underlying105 rfl hi27.out) rfl ⟨rfl, Below.setRow hB3' (Nat.le_refl _) _⟩
end Go.Proofs.YtiidohaibbdgeaaDoor
