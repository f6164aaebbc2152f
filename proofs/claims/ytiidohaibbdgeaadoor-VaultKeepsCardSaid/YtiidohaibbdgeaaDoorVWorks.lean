/-
  The anchor of the statements of layer 12 (works): it is true.
-/
import Derived.Test.YtiidohaibbdgeaaDoorVGood
namespace Go.Proofs.YtiidohaibbdgeaaDoor
open Go Go.RowKit

/-- One letter, as bytes. -/
theorem b1_any (x : BitVec 8) (s : ByteArray) (hs : strL [x] = s) (w : World) : Calls Tryd.prog 24 #[.string s] w fun e w' => ∃ a c, e = .returned (.slice a 1 c) ∧ (a = none → c = 0) ∧ 1 ≤ c ∧ Below w.heap.size w w' ∧ ∀ B, BytesAt B w' a [x] := by
  subst hs
  exact b_any [x] w
theorem b2_any (x y : BitVec 8) (s : ByteArray) (hs : strL [x, y] = s) (w : World) : Calls Tryd.prog 24 #[.string s] w fun e w' => ∃ a c, e = .returned (.slice a 2 c) ∧ (a = none → c = 0) ∧ 2 ≤ c ∧ Below w.heap.size w w' ∧ ∀ B, BytesAt B w' a [x, y] := by
  subst hs
  exact b_any [x, y] w
theorem recs_two {B : Nat} {w : World} {a1 a2 : Option Addr} {n1 n2 c1 c2 : Nat} {t1 t2 : Bs} (hB : B ≤ w.heap.size) (e1 : n1 = t1.length) (e2 : n2 = t2.length) (h1 : a1 = none → c1 = 0) (h2 : a2 = none → c2 = 0) (l1 : n1 ≤ c1) (l2 : n2 ≤ c2) (b1 : BytesAt B w a1 t1) (b2 : BytesAt B w a2 t2) :
    RecsAt B (w.alloc (.cells #[.slice a1 n1 c1, .slice a2 n2 c2] 35)) (some ⟨w.heap.size, 0, none⟩) [t1, t2] := by
  subst e1 e2
  have hl := (Lies.refl B w).alloc hB (.cells #[.slice a1 t1.length c1, .slice a2 t2.length c2] 35)
  refine recs_of_blk (vs := [.slice a1 t1.length c1, .slice a2 t2.length c2]) (Blk.new w _ _) rfl fun j hj => ?_
  match j, hj with
  | 0, _ => exact ⟨a1, c1, rfl, h1, l1, b1.rest hl⟩
  | 1, _ => exact ⟨a2, c2, rfl, h2, l2, b2.rest hl⟩
theorem recs_one {B : Nat} {w : World} {a1 : Option Addr} {n1 c1 : Nat} {t1 : Bs} (hB : B ≤ w.heap.size) (e1 : n1 = t1.length) (h1 : a1 = none → c1 = 0) (l1 : n1 ≤ c1) (b1 : BytesAt B w a1 t1) :
    RecsAt B (w.alloc (.cells #[.slice a1 n1 c1] 35)) (some ⟨w.heap.size, 0, none⟩) [t1] := by
  subst e1
  have hl := (Lies.refl B w).alloc hB (.cells #[.slice a1 t1.length c1] 35)
  refine recs_of_blk (vs := [.slice a1 t1.length c1]) (Blk.new w _ _) rfl fun j hj => ?_
  match j, hj with
  | 0, _ => exact ⟨a1, c1, rfl, h1, l1, b1.rest hl⟩
theorem new_good (B M : Nat) (h1 : 1 ≤ M) (h2 : M ≤ 4194304) (w : World) (hB : B ≤ w.heap.size) : Calls Tryd.prog 10 #[.int .i64 (M : Int)] w fun e w' => e = .returned (.tuple #[.pointer (some ⟨w.heap.size, 0, none⟩), .int .i64 0]) ∧ DiskAt B w' w.heap.size (DiskM.new M) ∧ Below w.heap.size w w' := by
  refine (new_any B M w hB).mono fun e w' h => ?_
  rcases h with ⟨_, _, k1, k2, k3⟩ | ⟨k, _⟩
  · exact ⟨k1, k2, k3⟩
  · omega
theorem Tab.lv {B : Nat} {w w' : World} (h : Tab w) (hl : LiesV B w w') (hT : 0 < B) : Tab w' := h.liesV hl hT

def tAB : Bs := [97, 98]
def tC : Bs := [99]
def tD : Bs := [100]
def tE : Bs := [101]
def tF : Bs := [102]

set_option maxRecDepth 100000 in
set_option maxHeartbeats 1000000 in
theorem works_any (B : Nat) (w : World) (hB : B ≤ w.heap.size) (hT : Tab w) (hTB : 0 < B) :
    Calls Tryd.prog 9 #[] w fun e w' => e = .returned (.bool true) ∧ LiesV B w w' := by
  have hnew := new_good B 1000 (by omega) (by omega) w hB
  have hab := b2_any 97 98 ⟨#[97, 98]⟩ rfl
  have hc := b1_any 99 ⟨#[99]⟩ rfl
  have hd := b1_any 100 ⟨#[100]⟩ rfl
  have he := b1_any 101 ⟨#[101]⟩ rfl
  have hf := b1_any 102 ⟨#[102]⟩ rfl
  have hopn := fun wx k1 k2 => open_new B 1000 w.heap.size (by omega) (by omega) wx k1 k2 hTB
  have hT0 := Lib.hid hT
  replace hnew := Lib.hid hnew
  replace hab := Lib.hid hab
  replace hc := Lib.hid hc
  replace hd := Lib.hid hd
  replace he := Lib.hid he
  replace hf := Lib.hid hf
  replace hopn := Lib.hid hopn
  clear hT
  go_enter Tryd.func9, Tryd.ntmps9
  go_upto_region 3 with (first
    | (go_at_call 10; refine hnew.out.mono ?_; rintro e w1 ⟨rfl, hD1, hB1⟩; have hL1 := (Lies.new hB1 hB).toV; have hT1 := hT0.out.lv hL1 hTB)
    | (go_at_call 11; refine (hopn.out w1 hD1 hT1).mono ?_; rintro e w2 ⟨vg, a2, c2, rfl, hG2, _, hL2⟩; have hT2 := hT1.lv hL2 hTB))
  have hgen2 : Calls _ _ _ w2 (fun e w' => e = .returned (.int .u64 1) ∧ w2 = w') := ga_gen B 1000 w.heap.size vg _ _ _ _ _ w2 hG2
  have hlen2 : Calls _ _ _ w2 (fun e w' => e = .returned (.int .i64 0) ∧ w2 = w') := ga_len B 1000 w.heap.size vg _ _ _ _ _ w2 hG2
  have hBw2 := hG2.base
  replace hgen2 := Lib.hid hgen2
  replace hlen2 := Lib.hid hlen2
  go_upto_region 5 with (first
    | (go_at_call 18; refine hroom5.mono ?_; rintro e w6 ⟨rfl, hB6⟩; have hG6 := hG5.grown hB6; have hL6 := (Lies.new hB6 hG5.base).toV; have hT6 := hT5.lv hL6 hTB)
    | (go_at_call 26; refine hlen5.mono ?_; rintro e wx ⟨rfl, rfl⟩)
    | (go_at_call 12
       have hre := recs_two (B := B) (w := w4) (t1 := tAB) (t2 := tC) (n1 := 2) (n2 := 1) (Nat.le_trans hBw3 hB4.size) rfl rfl hn3 hn4 hq3 hq4 ((hb3 B).rest (Lies.new hB4 hBw3)) (hb4 B)
       have hG4 := (hG2.grown hB3).grown hB4
       have hB5 : Below w4.heap.size w4 (w4.alloc (.cells #[.slice a3 2 c3, .slice a4 1 c4] 35)) := (Below.refl _ _).alloc (Nat.le_refl _) _
       have hL4 := ((Lies.new hB3 hBw2).trans (Lies.new hB4 hBw3)).trans (Lies.new hB5 (Nat.le_trans hBw3 hB4.size))
       refine (ga_add B 1000 w.heap.size vg [] [tAB, tC] 1 1 4 (by omega) rfl (by decide) _ _ _ (hG4.grown hB5) hre (hT2.lv hL4.toV hTB)).mono ?_
       rintro e w5 ⟨rfl, hG5, hL5⟩
       have hL25 := hL4.toV.trans hL5
       have hT5 := hT2.lv hL25 hTB
       have hlen5 : Calls _ _ _ w5 (fun e w' => e = .returned (.int .i64 2) ∧ w5 = w') := ga_len B 1000 w.heap.size vg _ _ _ _ _ w5 hG5
       have hroom5 : Calls _ _ _ w5 (fun e w' => e = .returned (.int .i64 881) ∧ Below w5.heap.size w5 w') := ga_room B 1000 w.heap.size vg _ _ _ _ _ w5 hG5)
    | (go_at_call 24; refine (hc.out w3).mono ?_; rintro e w4 ⟨a4, c4, rfl, hn4, hq4, hB4, hb4⟩)
    | (go_at_call 24; refine (hab.out w2).mono ?_; rintro e w3 ⟨a3, c3, rfl, hn3, hq3, hB3, hb3⟩; have hBw3 := Nat.le_trans hBw2 hB3.size)
    | (go_at_call 26; refine hlen2.out.mono ?_; rintro e wx ⟨rfl, rfl⟩)
    | (go_at_call 25; refine hgen2.out.mono ?_; rintro e wx ⟨rfl, rfl⟩))
  have hL06 := ((hL1.trans hL2).trans hL25).trans hL6
  clear hgen2 hlen2 hb3 hb4 hG2 hG4 hG5 hB5 hL4 hlen5 hroom5 hL5 hB3 hB4 hB6 hre hD1 hB1 hL1 hL2 hL25 hL6 hT1 hT2 hT5 hn3 hn4 hq3 hq4 hBw2 hBw3
  have hoff := ga_off B 1000 w.heap.size vg _ _ _ _ _ w6 hG6
  have hBw6 := hG6.base
  replace hoff := Lib.hid hoff
  replace hL06 := Lib.hid hL06
  clear hG6
  go_upto_region 8 with (first
    | (go_at_call 15
       refine (oa_on B 1000 w.heap.size [tAB, tC] 1 1 7 [] (fun _ h => by cases h) (by simp) none 0 w7 hO7 (fun h => by simp at h)).mono ?_
       rintro e w8 ⟨rfl, hC8, hL8⟩
       have hT8 := (hT6.lv hL7 hTB).lv hL8 hTB)
    | (go_at_call 14; refine hoff.out.mono ?_; rintro e w7 ⟨rfl, hO7, hL7⟩)
    | (go_at_call 11
       refine (open_closed B 1000 w.heap.size [tAB, tC] 1 1 7 (by omega) w8 hC8 hT8 hTB).mono ?_
       rintro e w9 ⟨vg2, a9, c9, rfl, hG9, hown9, hL9⟩
       have hT9 := hT8.lv hL9 hTB))
  have hL09 := ((hL06.out.trans hL7).trans hL8).trans hL9
  have hR9 := hown9.recs (B := B)
  have hBw9 := hG9.base
  replace hL09 := Lib.hid hL09
  replace hR9 := Lib.hid hR9
  clear hoff hL06 hL7 hL8 hL9 hown9 hO7 hC8 hT6 hT8
  go_upto_region 10 with (first
    | (go_at_call 26; refine hlen13.mono ?_; rintro e wx ⟨rfl, rfl⟩)
    | (go_at_call 25; refine hgen13.mono ?_; rintro e wx ⟨rfl, rfl⟩)
    | (go_at_call 13
       have hre := recs_one (B := B) (w := w13) (t1 := tD) (n1 := 1) hBw13 rfl hn13 hq13 (hb13 B)
       have hG13 := (((hG9.grown hB10).grown hB11).grown hBs).grown hB12 |>.grown hB13
       have hB14 : Below w13.heap.size w13 (w13.alloc (.cells #[.slice a13 1 c13] 35)) := (Below.refl _ _).alloc (Nat.le_refl _) _
       have hL14 := (hL913.trans (Lies.new hB14 hBw13)).toV
       refine (ga_comp B 1000 w.heap.size vg2 [tAB, tC] [tD] 1 1 11 (by omega) (by omega) rfl (by decide) _ _ _ (hG13.grown hB14) hre (hT9.lv hL14 hTB)).mono ?_
       rintro e w14 ⟨rfl, hG14, hL15⟩
       have hL914 := hL14.trans hL15
       have hT14 := hT9.lv hL914 hTB
       have hlen13 : Calls _ _ _ w14 (fun e w' => e = .returned (.int .i64 1) ∧ w14 = w') := ga_len B 1000 w.heap.size vg2 _ _ _ _ _ w14 hG14
       have hgen13 : Calls _ _ _ w14 (fun e w' => e = .returned (.int .u64 2) ∧ w14 = w') := ga_gen B 1000 w.heap.size vg2 _ _ _ _ _ w14 hG14)
    | (go_at_call 24
       refine (hd.out w12).mono ?_
       rintro e w13 ⟨a13, c13, rfl, hn13, hq13, hB13, hb13⟩
       have hBw13 := Nat.le_trans hBw12 hB13.size
       have hL913 := hL912.trans (Lies.new hB13 hBw12))
    | (go_at_call 19
       have hre := recs_two (B := B) (w := w11) (t1 := tAB) (t2 := tC) (n1 := 2) (n2 := 1) (Nat.le_trans hBw10 hB11.size) rfl rfl hn10 hn11 hq10 hq11 ((hb10 B).rest (Lies.new hB11 hBw10)) (hb11 B)
       have hBs : Below w11.heap.size w11 (w11.alloc (.cells #[.slice a10 2 c10, .slice a11 1 c11] 35)) := (Below.refl _ _).alloc (Nat.le_refl _) _
       have hL911 := ((Lies.new hB10 hBw9).trans (Lies.new hB11 hBw10)).trans (Lies.new hBs (Nat.le_trans hBw10 hB11.size))
       refine (same_any B [tAB, tC] [tAB, tC] (by decide) (by decide) _ _ _ _ _ (Nat.le_trans (Nat.le_trans hBw10 hB11.size) hBs.size) (hR9.out.lies hL911) hre).mono ?_
       rintro e w12 ⟨rfl, hB12⟩
       have hBw12 := Nat.le_trans (Nat.le_trans (Nat.le_trans hBw10 hB11.size) hBs.size) hB12.size
       have hL912 := hL911.trans (Lies.new hB12 (Nat.le_trans (Nat.le_trans hBw10 hB11.size) hBs.size)))
    | (go_at_call 24; refine (hc.out w10).mono ?_; rintro e w11 ⟨a11, c11, rfl, hn11, hq11, hB11, hb11⟩)
    | (go_at_call 24; refine (hab.out w9).mono ?_; rintro e w10 ⟨a10, c10, rfl, hn10, hq10, hB10, hb10⟩; have hBw10 := Nat.le_trans hBw9 hB10.size))
  have hL014 := hL09.out.trans hL914
  have hfus := ga_fuse B 1000 w.heap.size vg2 [tD] 2 16 w14 hG14
  have hBw14 := hG14.base
  replace hfus := Lib.hid hfus
  replace hL014 := Lib.hid hL014
  clear hL09 hR9 hG9 hT9 hL914 hG14 hL15 hL14 hB14 hG13 hre hL913 hb13 hB13 hL912 hL911 hBs hb11 hB11 hb10 hB10 hn10 hn11 hn13 hq10 hq11 hq13 hlen13 hgen13 hBw9 hBw10 hBw12 hBw13 hBw6 hB12
  go_upto_region 15 with (first
    | (go_at_call 15
       have hB22 : Below w21.heap.size w21 (w21.alloc (.cells #[.int .i64 37, .int .i64 0] 3)) := (Below.refl _ _).alloc (Nat.le_refl _) _
       have hpk : IntsAt B (w21.alloc (.cells #[.int .i64 37, .int .i64 0] 3)) (some ⟨w21.heap.size, 0, none⟩) [37, 0] := fun _ => ⟨w21.heap.size, 0, rfl, .of (Blk.new w21 _ _), fun j hj => by
         match j, hj with
         | 0, _ => exact (Blk.new w21 _ _).cell 0
         | 1, _ => exact (Blk.new w21 _ _).cell 1⟩
       have hL22 := (Lies.new (B := B) hB22 hBw21).toV
       obtain ⟨x21, y1, y2, y3⟩ := hF21
       refine (fb_on B 1000 w.heap.size vg2 ([tD] ++ [tE]) 37 2 19 [37, 0] (by decide) (by simp) (by simp) _ _ _ ⟨x21, y1.grown hB22, y2.grown hB22, y3⟩ hpk).mono ?_
       rintro e w23 ⟨rfl, hC23, hL23⟩
       have hL023 := (hL021.trans hL22).trans hL23)
    | (go_at_call 14
       refine (fb_off B 1000 w.heap.size vg2 _ _ _ _ w20 hF20).mono ?_
       rintro e w21 ⟨rfl, hF21, hL21⟩
       have hL021 := hL020.trans hL21
       have hBw21 := Nat.le_trans hBw20 hL21.size)
    | (go_at_call 12
       have hre := recs_one (B := B) (w := w19) (t1 := tF) (n1 := 1) hBw19 rfl hn19 hq19 (hb19 B)
       have hB20 : Below w19.heap.size w19 (w19.alloc (.cells #[.slice a19 1 c19] 35)) := (Below.refl _ _).alloc (Nat.le_refl _) _
       have hL20 := ((Lies.new hB19 hBw18).trans (Lies.new hB20 hBw19)).toV
       obtain ⟨x18, y1, y2, y3⟩ := hF18
       refine (fb_add B 1000 w.heap.size vg2 ([tD] ++ [tE]) [tF] 37 2 19 (by omega) (by decide) (by decide) _ _ _ ⟨x18, (y1.grown hB19).grown hB20, (y2.grown hB19).grown hB20, y3⟩ hre ((hT0.out.lv hL018 hTB).lv hL20 hTB)).mono ?_
       rintro e w20 ⟨rfl, hF20, hL20'⟩
       have hL020 := (hL018.trans hL20).trans hL20'
       have hBw20 := Nat.le_trans hB hL020.size)
    | (go_at_call 24
       refine (hf.out w18).mono ?_
       rintro e w19 ⟨a19, c19, rfl, hn19, hq19, hB19, hb19⟩
       have hBw19 := Nat.le_trans hBw18 hB19.size)
    | (go_at_call 12
       have hre := recs_one (B := B) (w := w16) (t1 := tE) (n1 := 1) hBw16 rfl hn16 hq16 (hb16 B)
       have hB17 : Below w16.heap.size w16 (w16.alloc (.cells #[.slice a16 1 c16] 35)) := (Below.refl _ _).alloc (Nat.le_refl _) _
       have hL17 := ((Lies.new hB16 hBw15).trans (Lies.new hB17 hBw16)).toV
       obtain ⟨x15, y1, y2, y3⟩ := hF15
       refine (fa_add B 1000 w.heap.size vg2 [tD] [tE] 2 16 (by omega) rfl (by decide) (by decide) _ _ _ ⟨x15, (y1.grown hB16).grown hB17, (y2.grown hB16).grown hB17, y3⟩ hre ((hT0.out.lv hL015 hTB).lv hL17 hTB)).mono ?_
       rintro e w18 ⟨rfl, hF18, hL18⟩
       have hL018 := (hL015.trans hL17).trans hL18
       have hBw18 := Nat.le_trans hB hL018.size)
    | (go_at_call 24
       refine (he.out w15).mono ?_
       rintro e w16 ⟨a16, c16, rfl, hn16, hq16, hB16, hb16⟩
       have hBw16 := Nat.le_trans hBw15 hB16.size)
    | (go_at_call 16
       refine hfus.out.mono ?_
       rintro e w15 ⟨rfl, hF15, hL15⟩
       have hL015 := hL014.out.trans hL15
       have hBw15 := Nat.le_trans hB hL015.size))
  have hopn23 := open_closed B 1000 w.heap.size ([tD] ++ [tE]) 0 2 19 (by omega) w23 hC23 (hT0.out.lv hL023 hTB) hTB
  replace hopn23 := Lib.hid hopn23
  replace hL023 := Lib.hid hL023
  clear hfus hL014 hL15 hL015 hBw15 hB16 hb16 hBw16 hL018 hBw18 hB19 hb19 hBw19 hL020 hBw20 hL21 hL021 hBw21 hL22 hC23 hL23
  go_wp2_with (first
    | (go_at_call 19
       have hre := recs_two (B := B) (w := w26) (t1 := tD) (t2 := tE) (n1 := 1) (n2 := 1) hBw26 rfl rfl hn25 hn26 hq25 hq26 ((hb25 B).rest (Lies.new hB26 hBw25)) (hb26 B)
       have hBs : Below w26.heap.size w26 (w26.alloc (.cells #[.slice a25 1 c25, .slice a26 1 c26] 35)) := (Below.refl _ _).alloc (Nat.le_refl _) _
       have hL27 := ((Lies.new hB25 hBw24).trans (Lies.new hB26 hBw25)).trans (Lies.new hBs hBw26)
       refine (same_any B ([tD] ++ [tE]) [tD, tE] (by decide) (by decide) _ _ _ _ _ (Nat.le_trans hBw26 hBs.size) (hR24.lies hL27) hre).mono ?_
       rintro e w27 ⟨rfl, hB27⟩
       have hL027 := hL024.trans (hL27.trans (Lies.new hB27 (Nat.le_trans hBw26 hBs.size))).toV)
    | (go_at_call 24
       refine (he.out w25).mono ?_
       rintro e w26 ⟨a26, c26, rfl, hn26, hq26, hB26, hb26⟩
       have hBw26 := Nat.le_trans hBw25 hB26.size)
    | (go_at_call 24
       refine (hd.out w24).mono ?_
       rintro e w25 ⟨a25, c25, rfl, hn25, hq25, hB25, hb25⟩
       have hBw25 := Nat.le_trans hBw24 hB25.size)
    | (go_at_call 11
       refine hopn23.out.mono ?_
       rintro e w24 ⟨vg3, a24, c24, rfl, hG24, hown24, hL24⟩
       have hL024 := hL023.out.trans hL24
       have hR24 := hown24.recs (B := B)
       have hBw24 := hG24.base))
  go_ret
  exact ⟨rfl, hL027⟩
end Go.Proofs.YtiidohaibbdgeaaDoor
