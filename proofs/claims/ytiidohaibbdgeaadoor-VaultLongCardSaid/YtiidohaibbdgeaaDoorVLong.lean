/-
  VaultLong, walked whole: how long a record may be.
-/
import Derived.Test.YtiidohaibbdgeaaDoorVTurn
namespace Go.Proofs.YtiidohaibbdgeaaDoor
open Go Go.RowKit

def zerosL (n : Nat) : Bs := List.replicate n 0
theorem zerosL_length (n : Nat) : (zerosL n).length = n := List.length_replicate

theorem fill_two (a1 a2 : Option Addr) (n1 n2 c1 c2 : Nat) : Instr.fill (fun i => some (i * 1, 1)) ((Array.range (2 * 1)).map ((Value.slice none 0 0).cells[· % (Value.slice none 0 0).cells.size]!)) [(0, .slice a1 n1 c1), (1, .slice a2 n2 c2)] = some #[.slice a1 n1 c1, .slice a2 n2 c2] := by kernel_rfl
theorem wpOp_val {P : Program} {ops : Array Oper} {Q : Exit → Act → World → Prop} {i : Nat} {o : Oper} {K : Act → World → Prop} {a : Act} {w w2 : World} {v : Value} (ho : ops[i]? = some o) (hw : Region.wanted o (yielded ops a.tmps) = true)
    (hrun : (execOp a.eval o).run P w = .ok (.value v) w2) (h : K (a.put o.dst v) w2) : wpOp P ops Q i K a w := by
  unfold wpOp
  simp only [ho, hw, if_true]
  refine .inl ?_
  unfold Oper.wp
  rw [hrun, Oper.upon_value]
  exact h
theorem exec_slice_two {o : Oper} {a : Act} (parts : Array (Nat × Operand)) (ho : o.op = .buildSlice 30 2 parts) (a1 a2 : Option Addr) (n1 n2 c1 c2 : Nat) (hp : (parts.map fun (i, x) => (i, a.eval x)).toList = [(0, .slice a1 n1 c1), (1, .slice a2 n2 c2)]) (w : World) :
    (execOp a.eval o).run Tryd.prog w = .ok (.value (.slice (some ⟨w.heap.size, 0, none⟩) 2 2)) (w.alloc (.cells #[.slice a1 n1 c1, .slice a2 n2 c2] 35)) := by
  obtain ⟨i35, hi, hz, hs, _⟩ := info_parts Tryd.info_recs
  unfold execOp
  simp only [ho, Sem.run_bind]
  rw [run_buildSlice w 30 35 2 _ #[.slice a1 n1 c1, .slice a2 n2 c2] i35 _ Tryd.underlying30 hi hz (by rw [hs]; omega) (by rw [hs]; omega) (by rw [hp, hs]; exact fill_two a1 a2 n1 n2 c1 c2)]
  simp

set_option maxRecDepth 100000 in
set_option maxHeartbeats 1000000 in
theorem vaultlong_any (z : Int) (hz0 : -128 ≤ z) (hz1 : z ≤ 127) (comp : Bool) (w : World) (hT : Tab w) : Calls Tryd.prog 6 #[.int .i8 z, .bool comp] w fun e w' => e = .returned (.bool true) ∧ Below w.heap.size w w' := by
  have hTB := hT.lt
  obtain ⟨B, hBe⟩ : ∃ B, B = w.heap.size := ⟨_, rfl⟩
  rw [← hBe] at hTB
  have hB : B ≤ w.heap.size := by omega
  have hw := fun wx (hl : LiesV B w wx) => (works_any B wx (Nat.le_trans hB hl.size) (hT.lv hl hTB) hTB).mono fun (e : Ending) w' ⟨k1, k2⟩ => (⟨k1, by have := (hl.trans k2).below; rw [hBe] at this; exact this⟩ : e = Ending.returned (.bool true) ∧ Below w.heap.size w w')
  have hnew := new_good B 262144 (by omega) (by omega) w hB
  have ha := b1_any 97 ⟨#[97]⟩ rfl
  have hopn := fun wx k1 k2 => open_new B 262144 w.heap.size (by omega) (by omega) wx k1 k2 hTB
  have hT0 := Lib.hid hT
  obtain ⟨N, hN⟩ : ∃ N : Nat, (32768 : Int) + z = (N : Int) := ⟨(32768 + z).toNat, by omega⟩
  have hN1 : 32640 ≤ N := by omega
  have hN2 : N ≤ 32895 := by omega
  obtain ⟨i5, hi5, hz5, hs5, hy5⟩ := info_parts Tryd.info_u8
  have hlong : longL [[97], zerosL N] = decide (0 < z) := by
    have e : longL [[97], zerosL N] = decide (32768 < N) := by simp [longL, zerosL_length]
    rw [e]
    exact decide_eq_decide.2 (by omega)
  have hsz : sizesL [[97], zerosL N] = N + 73 := by simp [sizesL, zerosL_length]; omega
  replace hBe := Lib.hid hBe
  replace hnew := Lib.hid hnew
  replace ha := Lib.hid ha
  replace hopn := Lib.hid hopn
  replace hw := Lib.hid hw
  replace hlong := Lib.hid hlong
  replace hsz := Lib.hid hsz
  clear hT
  go_enter Tryd.func6, Tryd.ntmps6
  go_upto_region 5 with (first
    | (go_at_call 10; refine hnew.out.mono ?_; rintro e w1 ⟨rfl, hD1, hB1⟩; have hL1 := (Lies.new hB1 hB).toV; have hT1 := hT0.out.lv hL1 hTB)
    | (go_at_call 11; refine (hopn.out w1 hD1 hT1).mono ?_; rintro e w2 ⟨vg, a2, c2, rfl, hG2, _, hL2⟩; have hT2 := hT1.lv hL2 hTB))
  have hL02 := hL1.trans hL2
  have hBw2 := hG2.base
  clear hL1 hL2 hT1 hD1 hB1
  go_cut [10] (fun s wx => ∃ a, s = .slice a 2 2 ∧ Below w2.heap.size w2 wx ∧ RecsAt B wx a [[97], zerosL N])
  case first =>
    rename_i J K' hJ hK'
    have hJ0 := Lib.hid hJ
    have hd : Below w2.heap.size w2 w2.drew := (Below.refl _ _).drew
    refine wp_region_ways (S := fun w' => ∃ x : Grew w2.heap.size w2, w' = x.1) (.two [1, 2, 3] 0 (.one [] 4 (.one [] 5 (.last [6]))) 4 (.one [] 0 (.one [] 5 (.last [6])))) (by kernel_rfl) (by kernel_rfl) (by intro c a d u w h; cases d <;> exact h) ⟨⟨w2.drew, hd⟩, rfl⟩ ?_
    simp only [wpWays, picks, List.getElem?_toArray, List.getElem?_cons_succ, List.getElem?_cons_zero]
    repeat (go_big_quiet_step (fail))
    refine wpQuiet_nil ?_
    replace hN := Lib.hid hN
    refine ⟨?_, ?_⟩
    · refine wpOp_step (by simp only [List.getElem?_toArray, List.getElem?_cons_zero]; rfl) (fun K hK => ?_)
      go_simp
      refine (ha.out w2.drew).mono ?_
      rintro e w3 ⟨a3, c3, rfl, hn3, hq3, hB3, hb3⟩
      have hB3' := hd.trans hB3
      have hBw3 := Nat.le_trans hBw2 hB3'.size
      refine hK _ _ ⟨⟨⟨w3, hB3'⟩, rfl⟩, ?_⟩
      clear hK K
      refine wpQuiet_nil ?_
      refine wpOp_of_list (by simp only [List.getElem?_toArray, List.getElem?_cons_succ, List.getElem?_cons_zero]; rfl) ?_
      refine wpList_make_full w3 rfl (.tmp 30) (.tmp 30) 35 rfl w3.heap.size 5 i5 _ 1 Tryd.underlying35 hi5 hz5 hs5 .i64 .i64 N N N rfl rfl rfl rfl (by rw [hy5]; omega) (by unfold maxLen; omega) (Nat.le_refl _) ?_
      intro w4 hown4 hg4
      have hB4 : Below w3.heap.size w3 w4 := (Below.refl _ _).grown hg4 (Nat.le_refl _) (fun k e => by cases e)
      rw [made_bytes] at hown4
      have ho4 : OwnBytes w4 w3.heap.size (.slice (some ⟨w3.heap.size, 0, none⟩) N N) (zerosL N) := by unfold OwnBytes; rw [zerosL_length]; exact hown4
      obtain ⟨a4, c4, he4, hn4, hq4, _, hb4⟩ := BytesAt.of_own (B := B) ho4
      injection he4 with he4 he6 he5
      clear he6
      subst he4 he5
      clear hown4 ho4 hg4 hi5 hz5 hs5 hy5
      have hB4' := hB3'.trans (hB4.mono hB3'.size)
      refine wpList_end ⟨⟨⟨w4, hB4'⟩, rfl⟩, ?_⟩
      refine wpQuiet_nil ?_
      go_frame
      refine wpOp_val (by simp only [List.getElem?_toArray, List.getElem?_cons_succ, List.getElem?_cons_zero]; rfl) rfl (exec_slice_two _ rfl a3 (some ⟨w3.heap.size, 0, none⟩) 1 N c3 N (by kernel_rfl) _) ?_
      have hB5 : Below w2.heap.size w2 (w4.alloc (.cells #[.slice a3 1 c3, .slice (some ⟨w3.heap.size, 0, none⟩) N N] 35)) := hB4'.alloc hB4'.size _
      have hre := recs_two (B := B) (w := w4) (t1 := [97]) (t2 := zerosL N) (n1 := 1) (n2 := N) (Nat.le_trans hBw3 hB4.size) rfl (zerosL_length N).symm hn3 hn4 hq3 (by rw [zerosL_length] at hq4; exact hq4) ((hb3 B).rest (Lies.new hB4 hBw3)) hb4
      refine ⟨⟨⟨_, hB5⟩, rfl⟩, ?_⟩
      go_frame
      repeat (go_big_quiet_step (fail))
      refine wpQuiet_nil ?_
      refine hK' _ _ (Met.intro (hJ0.out _ _ ?_))
      repeat apply Exists.intro
      refine ⟨?_, rfl⟩
      exact ⟨_, rfl, hB5, hre⟩
    · refine wpOp_of_list (by simp only [List.getElem?_toArray, List.getElem?_cons_succ, List.getElem?_cons_zero]; rfl) ?_
      refine wpList_make_full w2.drew rfl (.tmp 30) (.tmp 30) 35 rfl w2.heap.size 5 i5 _ 1 Tryd.underlying35 hi5 hz5 hs5 .i64 .i64 N N N rfl rfl rfl rfl (by rw [hy5]; omega) (by unfold maxLen; omega) (Nat.le_refl _) ?_
      intro w4 hown4 hg4
      have hB4 : Below w2.drew.heap.size w2.drew w4 := (Below.refl _ _).grown hg4 (Nat.le_refl _) (fun k e => by cases e)
      rw [made_bytes] at hown4
      have ho4 : OwnBytes w4 w2.heap.size (.slice (some ⟨w2.heap.size, 0, none⟩) N N) (zerosL N) := by unfold OwnBytes; rw [zerosL_length]; exact hown4
      obtain ⟨a4, c4, he4, hn4, hq4, _, hb4⟩ := BytesAt.of_own (B := B) ho4
      injection he4 with he4 he6 he5
      clear he6
      subst he4 he5
      clear hown4 ho4 hg4 hi5 hz5 hs5 hy5
      have hB4' : Below w2.heap.size w2 w4 := hd.trans hB4
      have hBw4 := Nat.le_trans hBw2 hB4'.size
      refine wpList_end ⟨⟨⟨w4, hB4'⟩, rfl⟩, ?_⟩
      refine wpQuiet_nil ?_
      go_frame
      refine wpOp_step (by simp only [List.getElem?_toArray, List.getElem?_cons_zero]; rfl) (fun K hK => ?_)
      go_simp
      refine (ha.out w4).mono ?_
      rintro e w3 ⟨a3, c3, rfl, hn3, hq3, hB3, hb3⟩
      have hB3' := hB4'.trans (hB3.mono hB4'.size)
      refine hK _ _ ⟨⟨⟨w3, hB3'⟩, rfl⟩, ?_⟩
      clear hK K
      refine wpQuiet_nil ?_
      refine wpOp_val (by simp only [List.getElem?_toArray, List.getElem?_cons_succ, List.getElem?_cons_zero]; rfl) rfl (exec_slice_two _ rfl a3 (some ⟨w2.heap.size, 0, none⟩) 1 N c3 N (by kernel_rfl) _) ?_
      have hB5 : Below w2.heap.size w2 (w3.alloc (.cells #[.slice a3 1 c3, .slice (some ⟨w2.heap.size, 0, none⟩) N N] 35)) := hB3'.alloc hB3'.size _
      have hre := recs_two (B := B) (w := w3) (t1 := [97]) (t2 := zerosL N) (n1 := 1) (n2 := N) (Nat.le_trans hBw4 hB3.size) rfl (zerosL_length N).symm hn3 hn4 hq3 (by rw [zerosL_length] at hq4; exact hq4) (hb3 B) (hb4.rest (Lies.new hB3 hBw4))
      refine ⟨⟨⟨_, hB5⟩, rfl⟩, ?_⟩
      go_frame
      repeat (go_big_quiet_step (fail))
      refine wpQuiet_nil ?_
      refine hK' _ _ (Met.intro (hJ0.out _ _ ?_))
      repeat apply Exists.intro
      refine ⟨?_, rfl⟩
      exact ⟨_, rfl, hB5, hre⟩
  case rest =>
    obtain ⟨al, rfl, hB3, hre⟩ := hcut
    rename World => w3
    have hG3 := hG2.grown hB3
    have hL3 := (Lies.new hB3 hBw2).toV
    have hT3 := hT2.lv hL3 hTB
    have hL03 := hL02.trans hL3
    clear hG2 hT2 hL02 hL3 hB3 hBw2
    obtain ⟨rl, hrl⟩ : ∃ rl : List Bs, rl = [[97], zerosL N] := ⟨_, rfl⟩
    have hlen : rl.length = 2 := by rw [hrl]; rfl
    have hlong' := hlong.out
    have hsz' := hsz.out
    rw [← hrl] at hre hlong' hsz'
    by_cases hz : 0 < z
    · have hlt : longL rl = true := by rw [hlong']; exact decide_eq_true hz
      have hadd := ga_add_no B 262144 w.heap.size vg [] rl 1 1 4 (by omega) (by omega) (by omega) (.inl hlt) al 2 w3 hG3 hre hT3
      have hcom := ga_comp_no B 262144 w.heap.size vg [] rl 1 1 4 (by omega) (by omega) (by omega) (by omega) (.inl hlt) al 2 w3 hG3 hre hT3
      rw [if_pos hlt, hlen] at hadd hcom
      replace hadd := Lib.hid hadd
      replace hcom := Lib.hid hcom
      clear hlong' hsz' hlen hrl hG3
      have hz' : (0 : Int) < z := hz
      cases comp
      all_goals
        go_wp2_with (first
          | (go_at_call 13; refine hcom.out.mono ?_; rintro e w4 ⟨rfl, hG4, hL4⟩; have hL04 := hL03.trans hL4; have hT4 := hT3.lv hL4 hTB)
          | (go_at_call 12; refine hadd.out.mono ?_; rintro e w4 ⟨rfl, hG4, hL4⟩; have hL04 := hL03.trans hL4; have hT4 := hT3.lv hL4 hTB)
          | (go_at_call 11; refine (open_closed B 262144 w.heap.size [] 1 1 4 (by omega) w4 hG4.closed hT4 hTB).mono ?_; rintro e w5 ⟨vg5, a5, c5, rfl, _, _, hL5⟩; have hL05 := hL04.trans hL5)
          | (go_at_call 9; refine (hw.out w5 hL05).mono ?_; rintro e w6 ⟨rfl, hB6⟩))
        go_ret
        exact ⟨rfl, hB6⟩
    · have hlt : longL rl = false := by rw [hlong']; exact decide_eq_false hz
      have hadd := ga_add B 262144 w.heap.size vg [] rl 1 1 4 (by omega) hlt (by rw [hsz']; simp [sizesL]; omega) al 2 w3 hG3 hre hT3
      have hcom := ga_comp B 262144 w.heap.size vg [] rl 1 1 4 (by omega) (by omega) hlt (by rw [hsz']; simp [sizesL]; omega) al 2 w3 hG3 hre hT3
      rw [hlen] at hadd hcom
      rw [List.nil_append] at hadd
      have hsame := fun (wx : World) (a5 : Option Addr) (c5 : Nat) (hr5 : RecsAt B wx a5 rl) (hL : LiesV B w3 wx) (hbw : B ≤ wx.heap.size) => same_any B rl rl (by omega) (by omega) a5 al c5 2 wx hbw hr5 (hre.restV hL)
      rw [hlen, decide_eq_true (rfl : rl = rl)] at hsame
      have hop := fun (wx : World) (f g cnt : Nat) (hc : cnt + 10 ≤ 1099511627776) (hC : CA B wx w.heap.size 262144 rl f g cnt) (hTx : Tab wx) => (open_closed B 262144 w.heap.size rl f g cnt hc wx hC hTx hTB)
      unfold OpenGood at hop
      rw [hlen] at hop
      replace hadd := Lib.hid hadd
      replace hcom := Lib.hid hcom
      replace hsame := Lib.hid hsame
      replace hop := Lib.hid hop
      clear hlong' hsz' hlen hrl hG3
      have hz' : decide ((0 : Int) < z) = false := decide_eq_false hz
      cases comp
      all_goals
        go_wp2_with (first
          | (go_at_call 13; refine hcom.out.mono ?_; rintro e w4 ⟨rfl, hG4, hL4⟩; have hL04 := hL03.trans hL4; have hT4 := hT3.lv hL4 hTB)
          | (go_at_call 12; refine hadd.out.mono ?_; rintro e w4 ⟨rfl, hG4, hL4⟩; have hL04 := hL03.trans hL4; have hT4 := hT3.lv hL4 hTB)
          | (go_at_call 11; refine (hop.out w4 _ _ _ (by omega) hG4.closed hT4).mono ?_; rintro e w5 ⟨vg5, a5, c5, rfl, hG5, hown5, hL5⟩; have hL05 := hL04.trans hL5)
          | (go_at_call 19; refine (hsame.out w5 a5 c5 (hown5.recs (B := B)) (hL4.trans hL5) hG5.base).mono ?_; rintro e w6 ⟨rfl, hB6⟩; have hL06 := hL05.trans (Lies.new hB6 hG5.base).toV)
          | (go_at_call 9; refine (hw.out w6 hL06).mono ?_; rintro e w7 ⟨rfl, hB7⟩))
        go_ret
        exact ⟨rfl, hB7⟩
end Go.Proofs.YtiidohaibbdgeaaDoor
