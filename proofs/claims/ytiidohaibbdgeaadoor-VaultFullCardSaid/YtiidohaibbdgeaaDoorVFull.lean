/-
  VaultFull, walked whole: what does not fit is told, and turns nothing; what fits is there behind an Open.
-/
import Derived.Test.YtiidohaibbdgeaaDoorVTurn
namespace Go.Proofs.YtiidohaibbdgeaaDoor
open Go Go.RowKit

theorem sizes_mem {r : Bs} : ∀ {l : List Bs}, r ∈ l → r.length + 36 ≤ sizesL l
  | x :: l, h => by
    rw [sizesL]
    rcases List.mem_cons.1 h with rfl | h
    · omega
    · have := sizes_mem h; omega
theorem sizes_step {l : List Bs} {k : Nat} (h : k < l.length) : sizesL (l.take (k + 1)) = sizesL (l.take k) + ((l.getD k []).length + 36) := by
  rw [take_one h ([] : Bs), sizesL_append]; simp [sizesL]
theorem longL_of {l : List Bs} (h : ∀ r ∈ l, r.length ≤ 32768) : longL l = false := longL_none fun j hj => by
  have : l.getD j [] = l[j] := by simp [List.getD, hj]
  rw [this]
  exact h _ (List.getElem_mem hj)

set_option maxRecDepth 100000 in
set_option maxHeartbeats 1000000 in
theorem vaultfull_any (most : Nat) (hm : most ≤ 65535) (l : List Bs) (hl24 : l.length * 24 ≤ reachBytes) (hle : ∀ j, j < l.length → (l.getD j []).length ≤ reachBytes) (left : Nat) (hleft : left ≤ 255) (a : Option Addr) (cap : Nat) (_hn : a = none → cap = 0) (_hlc : l.length ≤ cap) (w : World) (hlow : RecsLow w.heap.size w a l) (hT : Tab w) :
    Calls Tryd.prog 4 #[.int .u16 most, .slice a l.length cap, .int .u8 left] w fun e w' => e = .returned (.bool true) ∧ Below w.heap.size w w' := by
  have hTB := hT.lt
  obtain ⟨B, hBe⟩ : ∃ B, B = w.heap.size := ⟨_, rfl⟩
  rw [← hBe] at hTB hlow
  have hB : B ≤ w.heap.size := by omega
  have hw := fun wx (hl : Below B w wx) => works_end w wx (by rw [← hBe]; exact hl) hT
  have hnew := fun h1 => new_good B most h1 (by omega) w hB
  have hopn := fun wx h44 k1 k2 => open_new B most w.heap.size h44 (by omega) wx k1 k2 hTB
  have hT0 := Lib.hid hT
  have hllen : l.length ≤ 5864062014634 := by unfold reachBytes at hl24; omega
  have hle' : ∀ j, j < l.length → (l.getD j []).length ≤ 140737488351232 := hle
  replace hBe := Lib.hid hBe
  replace hw := Lib.hid hw
  replace hnew := Lib.hid hnew
  replace hopn := Lib.hid hopn
  replace hlow := Lib.hid hlow
  replace hle' := Lib.hid hle'
  clear hT hl24 hle
  go_enter Tryd.func4, Tryd.ntmps4
  go_upto_block 0 with (fail)
  go_cut [7] (fun n wx => ∃ N : Nat, n = .int .i64 N ∧ wx = w ∧ ((N = sizesL l ∧ N ≤ 8192) ∨ 8192 < N))
  case first =>
    go_wp2_with (fail)
    go_loopg [7, 8] (l.length + 1) (fun g n i wr => ∃ k : Nat, g = l.length + 1 - k ∧ k ≤ l.length ∧ i = .int .i64 k ∧ n = .int .i64 (sizesL (l.take k)) ∧ wr = w ∧ sizesL (l.take k) ≤ 281474976710656)
    case atStart => exact ⟨0, by omega, by omega, rfl, rfl, rfl, by simp [sizesL]⟩
    case round =>
      obtain ⟨k, rfl, hk, rfl, rfl, rfl, hsz⟩ := hrel
      by_cases hlt : k < l.length
      · have hkl : (k : Int) < (l.length : Int) := by omega
        by_cases h8 : sizesL (l.take k) ≤ 8192
        · obtain ⟨b, o, rfl, _, hc⟩ := hlow.out (by omega)
          obtain ⟨xa, xc, hv, _⟩ := hc k hlt
          have hS := sizes_step hlt
          have hX := hle'.out k hlt
          generalize l.getD k [] = X at *
          generalize sizesL (l.take k) = S at *
          have hS0 := Lib.hid hS
          have h8' : (S : Int) ≤ 8192 := by omega
          clear hc hS
          go_wp2_with (fail)
          go_roundg (l.length + 1 - (k + 1))
          case measure => omega
          case rel => exact ⟨k + 1, by omega, by omega, by go_num, by rw [hS0.out]; go_num, rfl, by rw [hS0.out]; omega⟩
        · generalize sizesL (l.take k) = S at *
          have h8' : decide ((S : Int) ≤ 8192) = false := decide_eq_false (by omega)
          have h82 : decide (S ≤ 8192) = false := decide_eq_false h8
          go_wp2_with (fail)
          go_meet
          exact ⟨S, rfl, rfl, .inr (by omega)⟩
      · obtain rfl : k = l.length := by omega
        rw [List.take_length] at hsz ⊢
        have hq : sizesL l ≤ 8192 ∨ 8192 < sizesL l := by omega
        have hq0 := Lib.hid hq
        generalize sizesL l = S at *
        clear hq
        go_wp2_with (fail)
        go_meet
        exact ⟨S, rfl, rfl, hq0.out.imp (fun h => ⟨rfl, h⟩) id⟩
  case rest =>
    obtain ⟨N, rfl, hwc, hN⟩ := hcut
    replace hwc := hwc.symm
    subst hwc
    by_cases hbig : 8192 < N
    · have hbig' : (8192 : Int) < (N : Int) := by omega
      clear hN
      have hb0 := Below.refl B w
      go_wp2_with (go_at_call 9; refine (hw.out w hb0).mono ?_; rintro e w1 ⟨rfl, hB1⟩)
      go_ret
      exact ⟨rfl, hB1⟩
    have hbig1 : decide ((8192 : Int) < (N : Int)) = false := decide_eq_false (by omega)
    have hbig2 : decide (8192 < N) = false := decide_eq_false hbig
    obtain ⟨hNS, hN8⟩ : N = sizesL l ∧ N ≤ 8192 := hN.elim id (fun h => absurd h hbig)
    clear hN hbig
    by_cases h44 : most < 44
    · have h44' : (most : Int) < 44 := by omega
      have hb0 := Below.refl B w
      clear hNS
      go_wp2_with (go_at_call 9; refine (hw.out w hb0).mono ?_; rintro e w1 ⟨rfl, hB1⟩)
      go_ret
      exact ⟨rfl, hB1⟩
    have h441 : decide ((most : Int) < 44) = false := decide_eq_false (by omega)
    have h442 : decide (most < 44) = false := decide_eq_false h44
    have h443 : 44 ≤ most := by omega
    have hnew1 := hnew.out (by omega)
    have hS8 : sizesL l ≤ 8192 := by omega
    have hrec : ∀ r ∈ l, r.length ≤ 32768 := fun r hr => by have := sizes_mem hr; omega
    replace hnew1 := Lib.hid hnew1
    replace hrec := Lib.hid hrec
    clear hNS h44 hnew
    go_upto_region 12 with (first
      | (go_at_call 10; refine hnew1.out.mono ?_; rintro e w1 ⟨rfl, hD1, hB1⟩; have hL1 := (Lies.new hB1 hB).toV; have hT1 := hT0.out.lv hL1 hTB)
      | (go_at_call 11; refine (hopn.out w1 h443 hD1 hT1).mono ?_; rintro e w2 ⟨vg, a2, c2, rfl, hG2, _, hL2⟩; have hT2 := hT1.lv hL2 hTB))
    have hB2 := (hL1.trans hL2).below
    have hG20 := Lib.hid hG2
    replace hT2 := Lib.hid hT2
    clear hL1 hL2 hT1 hD1 hB1 hG2 h441 h442
    go_wp2_with (fail)
    go_loopw [14, 15] (fun v i wr => ∃ (k : Nat) (all : List Bs), k ≤ l.length ∧ i = .int .i64 k ∧ Hid (RowOf B wr v all) ∧ Hid (GA B wr w.heap.size vg most false all 1 1 (4 + 3 * k)) ∧ Below B w wr ∧ Hid (Tab wr) ∧ sizesL all ≤ sizesL (l.take k) ∧ Hid (∀ r ∈ all, r.length ≤ 32768)) (fun _ i _ => l.length - (intOf i).toNat)
    case atStart => exact ⟨0, [], by omega, rfl, Lib.hid (RowOf.nil _ _), hG20, hB2, hT2, by simp [sizesL], Lib.hid (fun r hr => by cases hr)⟩
    case round =>
      obtain ⟨k, all, hk, rfl, hrow, hG, hBr, hTr, hsa, hra⟩ := hrel
      have hBw := hG.out.base
      by_cases hlt : k < l.length
      · have hkl : (k : Int) < (l.length : Int) := by omega
        obtain ⟨b, o, rfl, hbB, hc⟩ := (hlow.out.below hBr) (by omega)
        obtain ⟨xa, xc, hv, hx1, hx2, hx3⟩ := hc k hlt
        have hSt := sizes_step hlt
        have hSle := sizesL_take l (k + 1)
        have hXr : (l.getD k []).length ≤ 32768 := by omega
        generalize l.getD k [] = X at *
        generalize sizesL (l.take k) = S0 at *
        have hSt0 := Lib.hid hSt
        have hx20 := hx2
        have hl1 : longL [X] = false := longL_of fun r hr => by rw [List.mem_singleton] at hr; rw [hr]; exact hXr
        have hsX : sizesL [X] = X.length + 36 := by simp [sizesL]
        have hk30 : k ≤ 8192 := by
          have := sizes_len (l.take k)
          rw [List.length_take, Nat.min_eq_left hk] at this
          have := sizesL_take l k
          omega
        have hall8 : sizesL all ≤ 8192 := by omega
        have hroom := ga_room B most w.heap.size vg _ _ _ _ _ wr hG.out
        have hcell : ∀ wx : World, Below B wr wx → wx.cell? ⟨b, o + k, none⟩ = some (.slice xa X.length xc) := fun wx hb => (hb.cell (p := ⟨b, o + k, none⟩) hbB).trans hv
        have hre : ∀ wx : World, Below B wr wx → RecsAt B (wx.alloc (.cells #[.slice xa X.length xc] 35)) (some ⟨wx.heap.size, 0, none⟩) [X] := fun wx hb => recs_one (Nat.le_trans hBw hb.size) rfl hx1 hx2 (BytesAt.of_reads (Reads.below hx3 hb))
        have halc : ∀ wx : World, Below B wr wx → Below wx.heap.size wx (wx.alloc (.cells #[.slice xa X.length xc] 35)) := fun wx _ => (Below.refl _ _).alloc (Nat.le_refl _) _
        obtain ⟨R, hR⟩ : ∃ R, R = most - (44 + sizesL all) := ⟨_, rfl⟩
        rw [← hR] at hroom
        have hR2 : R ≤ 65535 := by omega
        have hadd := fun (wx : World) (hb : Below wr.heap.size wr wx) (hfit : X.length + 36 ≤ R) => ga_add B most w.heap.size vg all [X] 1 1 (4 + 3 * k) (by omega) hl1 (by rw [hsX]; omega) (some ⟨wx.heap.size, 0, none⟩) 1 (wx.alloc (.cells #[.slice xa X.length xc] 35)) ((hG.out.grown hb).grown (halc wx (hb.mono hBw))) (hre wx (hb.mono hBw)) (((hTr.out).grown hb).grown (halc wx (hb.mono hBw)))
        have hano := fun (wx : World) (hb : Below wr.heap.size wr wx) (hfit : ¬ X.length + 36 ≤ R) => ga_add_no B most w.heap.size vg all [X] 1 1 (4 + 3 * k) (by omega) (by simp) (by rw [hsX]; omega) (.inr (by rw [hsX]; omega)) (some ⟨wx.heap.size, 0, none⟩) 1 (wx.alloc (.cells #[.slice xa X.length xc] 35)) ((hG.out.grown hb).grown (halc wx (hb.mono hBw))) (hre wx (hb.mono hBw)) (((hTr.out).grown hb).grown (halc wx (hb.mono hBw)))
        rw [hl1] at hano
        simp only [Bool.false_eq_true, if_false] at hano
        replace hroom := Lib.hid hroom
        replace hcell := Lib.hid hcell
        replace hre := Lib.hid hre
        replace halc := Lib.hid halc
        replace hadd := Lib.hid hadd
        replace hano := Lib.hid hano
        replace hR := Lib.hid hR
        replace hsX := Lib.hid hsX
        clear hc hSt hl1 hx20 hx2 hx1 hx3
        by_cases hfit : X.length + 36 ≤ R
        · have hfit' : (X.length : Int) + 36 ≤ (R : Int) := by omega
          go_wp2_with (first
            | (at_builtin
               refine wpList_append_recs rfl (.tmp 106) (.tmp 111) rfl B hBw4 _ all rfl hrow4 (some ⟨w3.heap.size, 0, none⟩) 1 1 [X] rfl rfl (hre.out w3 hB13) (fun h => by cases h) hal4 ?_
               intro v5 w5 hrow5 htu5)
            | (go_at_call 18; refine hroom.out.mono ?_; rintro e w1 ⟨rfl, hb1⟩; have hB1 := hb1.mono hBw; have c1 := hcell.out w1 hB1)
            | (go_at_call 12
               refine (hadd.out w1 hb1 hfit).mono ?_
               rintro e w3 ⟨rfl, hG3, hL3⟩
               have hLw := ((Lies.new hb1 hBw).trans (Lies.new (halc.out w1 hB1) (Nat.le_trans hBw hb1.size))).toV.trans hL3
               have hB13 := hLw.below
               have hBw3 := Nat.le_trans hBw hB13.size
               have hB34 := halc.out w3 hB13
               have hBw4 := Nat.le_trans hBw3 hB34.size
               have hrow4 := (hrow.out.liesV hLw).grown hB34 hBw3
               have hal4 : all.length + [X].length ≤ 1099511627776 := by have := sizes_len all; simp; omega
               have c3 := hcell.out w3 hB13))
          go_roundw
          case rel =>
            refine ⟨k + 1, all ++ [X], by omega, by go_num, Lib.hid hrow5, Lib.hid ?_, (hBr.trans hB13).trans ((hB34.mono hBw3).trans htu5.below), Lib.hid ((((hTr.out.lv hLw hTB)).grown hB34).turned htu5 hTB), ?_, Lib.hid fun r hr => ?_⟩
            · rw [show 4 + 3 * (k + 1) = 4 + 3 * k + 3 by omega]
              exact (hG3.grown hB34).turned htu5
            · rw [sizesL_append, hsX.out, hSt0.out]; omega
            · rcases List.mem_append.1 hr with hr | hr
              · exact hra.out r hr
              · rw [List.mem_singleton] at hr
                rw [hr]
                exact hXr
          case measure => simp [intOf]; omega
        · have hfit1 : decide ((X.length : Int) + 36 ≤ (R : Int)) = false := decide_eq_false (by omega)
          have hfit2 : decide (X.length + 36 ≤ R) = false := decide_eq_false hfit
          go_wp2_with (first
            | (go_at_call 18; refine hroom3.out.mono ?_; rintro e w4 ⟨rfl, hB34⟩)
            | (go_at_call 18; refine hroom.out.mono ?_; rintro e w1 ⟨rfl, hb1⟩; have hB1 := hb1.mono hBw; have c1 := hcell.out w1 hB1)
            | (go_at_call 12
               refine (hano.out w1 hb1 hfit).mono ?_
               rintro e w3 ⟨rfl, hG3, hL3⟩
               have hLw := ((Lies.new hb1 hBw).trans (Lies.new (halc.out w1 hB1) (Nat.le_trans hBw hb1.size))).toV.trans hL3
               have hB13 := hLw.below
               have hBw3 := Nat.le_trans hBw hB13.size
               have hroom3 := ga_room B most w.heap.size vg _ _ _ _ _ w3 hG3
               rw [← hR.out] at hroom3
               replace hroom3 := Lib.hid hroom3
               have c3 := hcell.out w3 hB13))
          go_roundw
          case rel =>
            refine ⟨k + 1, all, by omega, by go_num, Lib.hid ((hrow.out.liesV hLw).grown hB34 hBw3), Lib.hid ((hG3.grown hB34).more (by omega) (by omega)), (hBr.trans hB13).trans (hB34.mono hBw3), Lib.hid ((hTr.out.lv hLw hTB).grown hB34), ?_, hra⟩
            rw [hSt0.out]; omega
          case measure => simp [intOf]; omega
      · obtain rfl : k = l.length := by omega
        rw [List.take_length] at hsa
        have hrw := hrow.out
        obtain ⟨va, vc, rfl, hvn, hvl, hvm⟩ := hrw.form
        have hrecs := hrw.recs
        have hall8 : sizesL all ≤ 8192 := by omega
        have halen : all.length ≤ 8192 := by have := sizes_len all; omega
        replace hrecs := Lib.hid hrecs
        clear hrw
        have hnlt : decide ((l.length : Int) < (l.length : Int)) = false := decide_eq_false (by omega)
        go_upto_block 4 with (fail)
        obtain ⟨K, hK, hKl⟩ : ∃ K : Nat, (if all.length < left then (all.length : Int) else (left : Int)) = (K : Int) ∧ K ≤ all.length := by
          by_cases h : all.length < left
          · exact ⟨all.length, by rw [if_pos h], Nat.le_refl _⟩
          · exact ⟨left, by rw [if_neg h], by omega⟩
        rw [hK]
        clear hK
        go_cut [19] (fun s wx => s = .int .i64 ((44 + sizesL (all.take K) : Nat) : Int) ∧ wx = wr)
        case first =>
          go_wp2_with (fail)
          go_loopg [19, 20] (all.length + 1) (fun g n i wz => ∃ j : Nat, g = all.length + 1 - j ∧ j ≤ K ∧ i = .int .i64 j ∧ n = .int .i64 ((44 + sizesL (all.take j) : Nat) : Int) ∧ wz = wr)
          case atStart => exact ⟨0, by omega, by omega, rfl, rfl, rfl⟩
          case round =>
            obtain ⟨j, rfl, hj, rfl, rfl, rfl⟩ := hrel
            by_cases hjK : j < K
            · have hjl : (j : Int) < (K : Int) := by omega
              have hja : j < all.length := by omega
              have hja' : (j : Int) < (all.length : Int) := by omega
              obtain ⟨b1, o1, rfl, _, hc1⟩ := hrecs.out (by omega)
              obtain ⟨v1, hv1, ya, yc, rfl, _⟩ := hc1 j hja
              have hS := sizes_step hja
              have hS1 := sizesL_take all j
              have hS2 := sizesL_take all (j + 1)
              generalize all.getD j [] = Y at *
              generalize sizesL (all.take j) = S at *
              have hS0 := Lib.hid hS
              have hSY : S + (Y.length + 36) ≤ 8192 := by omega
              clear hc1 hS
              go_wp2_with (fail)
              go_roundg (all.length + 1 - (j + 1))
              case measure => omega
              case rel => exact ⟨j + 1, by omega, by omega, by go_num, by rw [hS0.out]; go_num, rfl⟩
            · obtain rfl : j = K := by omega
              go_wp2_with (fail)
              go_meet
              exact ⟨rfl, rfl⟩
        case rest =>
          obtain ⟨hs19, hwz⟩ := hcut
          subst hs19
          replace hwz := hwz.symm
          subst hwz
          obtain ⟨Z, hZ⟩ : ∃ Z, Z = 44 + sizesL (all.take K) := ⟨_, rfl⟩
          rw [← hZ]
          have hSK := sizesL_take all K
          have hl8 : l.length ≤ 8192 := by have := sizes_len l; omega
          have hZ1 : Z ≤ 8236 := by omega
          have hTl : (all.take K).length = K := List.length_take_of_le hKl
          have hl3 : longL (all.take K) = false := longL_of fun r hr => hra.out r (List.mem_of_mem_take hr)
          have hroom := ga_room B most w.heap.size vg _ _ _ _ _ wr hG.out
          obtain ⟨R, hR⟩ : ∃ R, R = most - (44 + sizesL all) := ⟨_, rfl⟩
          rw [← hR] at hroom
          have hR2 : R ≤ 65535 := by omega
          have hrK := hrecs.out.take K
          have hcom := fun (wx : World) (hb : Below wr.heap.size wr wx) (hfit : Z ≤ R) => ga_comp B most w.heap.size vg all (all.take K) 1 1 (4 + 3 * l.length) (by omega) (by omega) hl3 (by omega) va vc wx (hG.out.grown hb) (hrK.lies (Lies.new hb hBw)) ((hTr.out).grown hb)
          have hcno := fun (wx : World) (hb : Below wr.heap.size wr wx) (hfit : ¬ Z ≤ R) => ga_comp_no B most w.heap.size vg all (all.take K) 1 1 (4 + 3 * l.length) (by omega) (by omega) (by omega) (by omega) (.inr (by omega)) va vc wx (hG.out.grown hb) (hrK.lies (Lies.new hb hBw)) ((hTr.out).grown hb)
          rw [hl3] at hcno
          simp only [Bool.false_eq_true, if_false] at hcno
          rw [hTl] at hcom hcno
          have hop := fun (wx : World) (al : List Bs) (f g cnt : Nat) (hc : cnt + 10 ≤ 1099511627776) (hC : CA B wx w.heap.size most al f g cnt) (hTx : Tab wx) => (open_closed B most w.heap.size al f g cnt hc wx hC hTx hTB)
          have hsame1 := fun (wx : World) (a5 : Option Addr) (c5 : Nat) (hr5 : RecsAt B wx a5 (all.take K)) (hL : LiesV B wr wx) (hbw : B ≤ wx.heap.size) => same_any B (all.take K) (all.take K) (by omega) (by omega) a5 va c5 vc wx hbw hr5 (hrK.restV hL)
          have hsame2 := fun (wx : World) (a5 : Option Addr) (c5 : Nat) (hr5 : RecsAt B wx a5 all) (hL : LiesV B wr wx) (hbw : B ≤ wx.heap.size) => same_any B all all (by omega) (by omega) a5 va c5 vc wx hbw hr5 (hrecs.out.restV hL)
          rw [hTl, decide_eq_true (rfl : all.take K = all.take K)] at hsame1
          rw [decide_eq_true (rfl : all = all)] at hsame2
          unfold OpenGood at hop
          have hKvc : (K : Int) ≤ (vc : Int) := by omega
          have hgr := fun (wx : World) (hb : Below wr.heap.size wr wx) => (Lies.new hb hBw).toV
          have hT4 := hTr.out
          replace hroom := Lib.hid hroom
          replace hcom := Lib.hid hcom
          replace hcno := Lib.hid hcno
          replace hop := Lib.hid hop
          replace hsame1 := Lib.hid hsame1
          replace hsame2 := Lib.hid hsame2
          replace hgr := Lib.hid hgr
          replace hT4 := Lib.hid hT4
          replace hR := Lib.hid hR
          replace hZ := Lib.hid hZ
          clear hl3 hrK
          by_cases hfit : Z ≤ R
          · have hfit' : (Z : Int) ≤ (R : Int) := by omega
            have hsum : (most : Int) - (Z : Int) = ((most - Z : Nat) : Int) := by have := hR.out; omega
            go_wp2_with (first
              | (go_at_call 9; refine (hw.out w8 (hBr.trans hL08.below)).mono ?_; rintro e w9 ⟨rfl, hB9⟩)
              | (go_at_call 18; refine (ga_room B most w.heap.size _ _ _ _ _ _ w7 hG7).mono ?_; rw [← hZ.out]; rintro e w8 ⟨rfl, hB8⟩; have hL08 := hL07.trans (Lies.new hB8 hG7.base).toV)
              | (go_at_call 19; refine (hsame1.out w6 a6 c6 (hown6.recs (B := B)) hL06 hG6.base).mono ?_; rintro e w7 ⟨rfl, hB7⟩; have hG7 := hG6.grown hB7; have hL07 := hL06.trans (Lies.new hB7 hG6.base).toV)
              | (go_at_call 11; refine (hop.out w5 _ _ _ _ (by omega) hG5.closed hT5).mono ?_; rw [hTl]; rintro e w6 ⟨vg6, a6, c6, rfl, hG6, hown6, hL6⟩; have hL06 := hL05.trans hL6)
              | (go_at_call 13; refine (hcom.out w4 hb4 hfit).mono ?_; rintro e w5 ⟨rfl, hG5, hL5⟩; have hL05 := (hgr.out w4 hb4).trans hL5; have hT5 := hT4.out.lv hL05 hTB)
              | (go_at_call 18; refine hroom.out.mono ?_; rintro e w4 ⟨rfl, hb4⟩))
            go_ret
            exact ⟨rfl, hB9⟩
          · have hfit1 : decide ((Z : Int) ≤ (R : Int)) = false := decide_eq_false (by omega)
            have hfit2 : decide (Z ≤ R) = false := decide_eq_false hfit
            go_wp2_with (first
              | (go_at_call 9; refine (hw.out w8 (hBr.trans hL08.below)).mono ?_; rintro e w9 ⟨rfl, hB9⟩)
              | (go_at_call 18; refine (ga_room B most w.heap.size _ _ _ _ _ _ w7 hG7).mono ?_; rw [← hR.out]; rintro e w8 ⟨rfl, hB8⟩; have hL08 := hL07.trans (Lies.new hB8 hG7.base).toV)
              | (go_at_call 19; refine (hsame2.out w6 a6 c6 (hown6.recs (B := B)) hL06 hG6.base).mono ?_; rintro e w7 ⟨rfl, hB7⟩; have hG7 := hG6.grown hB7; have hL07 := hL06.trans (Lies.new hB7 hG6.base).toV)
              | (go_at_call 11; refine (hop.out w5b _ _ _ _ (by omega) hG5b.closed hT5b).mono ?_; rintro e w6 ⟨vg6, a6, c6, rfl, hG6, hown6, hL6⟩; have hL06 := hL05b.trans hL6)
              | (go_at_call 18; refine (ga_room B most w.heap.size _ _ _ _ _ _ w5 hG5).mono ?_; rw [← hR.out]; rintro e w5b ⟨rfl, hB5b⟩; have hG5b := hG5.grown hB5b; have hL5b := (Lies.new hB5b hG5.base).toV; have hL05b := hL05.trans hL5b; have hT5b := hT4.out.lv hL05b hTB)
              | (go_at_call 13; refine (hcno.out w4 hb4 hfit).mono ?_; rintro e w5 ⟨rfl, hG5, hL5⟩; have hL05 := (hgr.out w4 hb4).trans hL5)
              | (go_at_call 18; refine hroom.out.mono ?_; rintro e w4 ⟨rfl, hb4⟩))
            go_ret
            exact ⟨rfl, hB9⟩
end Go.Proofs.YtiidohaibbdgeaaDoor
