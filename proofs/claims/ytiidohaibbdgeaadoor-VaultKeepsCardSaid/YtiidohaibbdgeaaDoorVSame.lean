/-
  Two lists of records held against each other (the document's Same); bytes of a text (the law's b).
-/
import Derived.Test.YtiidohaibbdgeaaDoorVComp2
import Derived.Lib.ConvBytes
namespace Go.Proofs.YtiidohaibbdgeaaDoor
open Go Go.RowKit

theorem bytes_below (w : World) (e : TypeId) (s : ByteArray) : Below w.heap.size w (Lib.bytesWorld w e s) := by
  refine ⟨?_, ?_, ?_, by rw [Lib.bytesWorld_size]; omega, fun k hk => Lib.bytesWorld_at_old w e s k hk⟩ <;>
  · unfold Lib.bytesWorld World.freeze
    split <;> rfl
theorem strL_size (t : Bs) : (strL t).size = t.length := by simp [strL, ByteArray.size]
/-- What b hands back. -/
def ViewRet (t : Bs) (w : World) (e : Ending) (w' : World) : Prop := ∃ a c, e = .returned (.slice a t.length c) ∧ (a = none → c = 0) ∧ t.length ≤ c ∧ Below w.heap.size w w' ∧ ∀ B, BytesAt B w' a t
set_option maxRecDepth 100000 in
set_option maxHeartbeats 1000000 in
theorem b_any (t : Bs) (w : World) : Calls Tryd.prog 24 #[.string (strL t)] w (ViewRet t w) := by
  have hrun := Lib.run_convert_string_bytes (P := Tryd.prog) w 9 35 5 (strL t) Tryd.underlying9 Tryd.underlying35 Tryd.underlying5
  have hb := bytes_below w 5 (strL t)
  have hnew := Lib.bytesWorld_at_new w 5 (strL t)
  have hcell := fun j hj => Lib.bytesWorld_cell w 5 (strL t) j hj
  have hge := grownCap_ge w (strL t).size 0 5
  rw [strL_size] at hge
  rw [strL_size] at hrun
  have hby : ∀ B, BytesAt B (Lib.bytesWorld w 5 (strL t)) (some ⟨w.heap.size, 0, none⟩) t := fun B _ => ⟨w.heap.size, 0, rfl, .of hnew, fun j hj => by
    rw [Nat.zero_add, hcell j (by rw [strL_size]; exact hj)]
    simp [strL, List.getD, hj, B8]⟩
  generalize Lib.bytesWorld w 5 (strL t) = W at *
  generalize grownCap w t.length 0 5 = C at *
  replace hby := Lib.hid hby
  clear hnew hcell
  generalize strL t = s at *
  go_enter Tryd.func24, Tryd.ntmps24
  go_wp2
  go_ret
  exact ⟨_, _, rfl, (fun h => by cases h), hge, hb, hby.out⟩

theorem take_eq_succ {l m : List Bs} {k : Nat} (h : l.take k = m.take k) (hl : k < l.length) (hm : k < m.length) : l.take (k + 1) = m.take (k + 1) ↔ l.getD k [] = m.getD k [] := by
  rw [take_one hl [], take_one hm [], h]
  simp

set_option maxRecDepth 100000 in
set_option maxHeartbeats 1000000 in
theorem same_any (B : Nat) (l m : List Bs) (hll : l.length ≤ 70368744177664) (hml : m.length ≤ 70368744177664) (a b : Option Addr) (c d : Nat) (w : World) (hB : B ≤ w.heap.size) (hr : RecsAt B w a l) (hs : RecsAt B w b m) :
    Calls Tryd.prog 19 #[.slice a l.length c, .slice b m.length d] w fun e w' => e = .returned (.bool (decide (l = m))) ∧ Below w.heap.size w w' := by
  by_cases hlm : l.length = m.length
  case neg =>
    have h1 : ((l.length : Int) == (m.length : Int)) = false := by rw [beq_eq_false_iff_ne]; omega
    have h2 : (l.length == m.length) = false := by rw [beq_eq_false_iff_ne]; exact hlm
    have h3 : ((l.length : Int) != (m.length : Int)) = true := by rw [bne, h1]; rfl
    have h4 : decide (l = m) = false := decide_eq_false fun e => hlm (by rw [e])
    rw [h4]
    clear hr hs h4 hlm
    go_enter Tryd.func19, Tryd.ntmps19
    go_wp2_with (fail)
    go_ret
    exact ⟨rfl, Below.refl _ _⟩
  have hr0 := Lib.hid hr
  have hs0 := Lib.hid hs
  have hlm0 := Lib.hid hlm
  have h1 : ((l.length : Int) != (m.length : Int)) = false := by rw [hlm]; simp
  have h2 : ((l.length : Int) == (m.length : Int)) = true := by rw [hlm]; simp
  clear hr hs hlm
  go_enter Tryd.func19, Tryd.ntmps19
  go_wp2_with (fail)
  go_loopw [5] (fun i wr => ∃ k : Nat, k ≤ l.length ∧ i = .int .i64 k ∧ Below w.heap.size w wr ∧ Hid (l.take k = m.take k)) (fun i _ => l.length - (intOf i).toNat)
  case atStart => exact ⟨0, by omega, rfl, Below.refl _ _, Lib.hid (by simp)⟩
  case round =>
    obtain ⟨k, hk, rfl, hBr, ht⟩ := hrel
    have hsz := hBr.size
    by_cases hlt : k < l.length
    · have hlt2 : k < m.length := by have := hlm0.out; omega
      obtain ⟨b1, o1, rfl, _, hc1⟩ := hr0.out (by omega)
      obtain ⟨v1, hv1, xa, xc, rfl, hx1, _, hx3⟩ := hc1 k hlt
      obtain ⟨b2, o2, rfl, _, hc2⟩ := hs0.out (by omega)
      obtain ⟨v2, hv2, ya, yc, rfl, hy1, _, hy3⟩ := hc2 k hlt2
      have hst := take_eq_succ ht.out hlt hlt2
      have hkl : (k : Int) < (l.length : Int) := by omega
      have hkm : (k : Int) < (m.length : Int) := by omega
      have hL := fun (z : Grew wr.heap.size wr) => Lies.new (B := B) (hBr.trans (z.2.mono hsz)) hB
      have z1 := fun z : Grew wr.heap.size wr => Grew.cell (hBr.cell (p := ⟨b1, o1 + k, none⟩) (cell_block hv1) |>.trans hv1) (Nat.lt_of_lt_of_le (cell_block hv1) hsz) z
      have z2 := fun z : Grew wr.heap.size wr => Grew.cell (hBr.cell (p := ⟨b2, o2 + k, none⟩) (cell_block hv2) |>.trans hv2) (Nat.lt_of_lt_of_le (cell_block hv2) hsz) z
      have q1 := fun z : Grew wr.heap.size wr => conv_str (hx3.rest (hL z)).reads xc
      have q2 := fun z : Grew wr.heap.size wr => conv_str (hy3.rest (hL z)).reads yc
      generalize l.getD k [] = X at *
      generalize m.getD k [] = Y at *
      replace hst := Lib.hid hst
      clear hc1 hc2 hL hx3 hy3 hv1 hv2
      go_upto_region 6 with (fail)
      go_cut [27] (fun s wx => s = .bool (decide (X ≠ Y)) ∧ Below wr.heap.size wr wx)
      case first =>
        rename_i J K' hJ hK'
        have hJ0 := Lib.hid hJ
        have hd : Below wr.heap.size wr wr.drew := (Below.refl _ _).drew
        refine wp_region_ways (S := fun w' => ∃ x : Grew wr.heap.size wr, w' = x.1) (.last [0, 1, 2, 3, 4, 5, 6, 7, 8, 9, 10]) (by kernel_rfl) (by kernel_rfl) (by intro c a d u w h; cases d <;> exact h) ⟨⟨wr.drew, hd⟩, rfl⟩ ?_
        simp only [wpWays, picks, List.getElem?_toArray, List.getElem?_cons_succ, List.getElem?_cons_zero]
        repeat (go_big_quiet_step (fail))
        refine wpQuiet_nil ?_
        refine hK' _ _ (Met.intro (hJ0.out _ _ ?_))
        repeat apply Exists.intro
        refine ⟨?_, rfl⟩
        exact ⟨congrArg Value.bool (by rw [strL_beq]; by_cases h : X = Y <;> simp [h]), hd⟩
      case rest =>
        obtain ⟨hu, hBd⟩ := hcut
        subst hu
        have hB2 := hBr.trans (hBd.mono hsz)
        by_cases hXY : X = Y
        · have e1 : decide (X ≠ Y) = false := by simp [hXY]
          have e2 := hst.out.2 hXY
          generalize decide (X ≠ Y) = bb at *
          subst e1
          replace e2 := Lib.hid e2
          clear hXY
          go_wp2_with (fail)
          go_roundw
          case rel => exact ⟨k + 1, by omega, by go_num, hB2, e2⟩
          case measure => simp [intOf]; omega
        · have e1 : decide (X ≠ Y) = true := by simp [hXY]
          have e2 : decide (l = m) = false := decide_eq_false fun e => hXY (hst.out.1 (by rw [e]))
          generalize decide (X ≠ Y) = bb at *
          subst e1
          replace e2 := Lib.hid e2
          clear hXY
          go_wp2_with (fail)
          go_ret
          exact ⟨ret_bool e2.out.symm, hB2⟩
    · obtain rfl : k = l.length := by omega
      have e2 : decide (l = m) = true := decide_eq_true (by have := ht.out; rw [List.take_length, hlm0.out, List.take_length] at this; exact this)
      replace e2 := Lib.hid e2
      go_wp2_with (fail)
      go_ret
      exact ⟨ret_bool e2.out.symm, hBr⟩

theorem RecV.slice {B : Nat} {w : World} {x : RecV} (h : x.at_ w) : SliceIs B w x.val x.bs := by
  obtain ⟨h1, h2, h3⟩ := h
  refine ⟨x.a, x.cap, rfl, h1, h2, fun hn => ?_⟩
  obtain ⟨b, o, cs, fr, ha, hb, hc⟩ := h3 hn
  exact ⟨b, o, ha, .of hb, hc⟩
theorem mayTurn_u8s : mayTurn 35 = false := by decide
/-- Records of one's own, as records that stay. -/
theorem OwnRecs.recs {B : Nat} {w : World} {base : Nat} {a : Option Addr} {n c : Nat} {l : List Bs} (h : OwnRecs w base (.slice a n c) l) : RecsAt B w a l := fun hn => by
  obtain ⟨xs, h1, h2, h3⟩ := h
  have hl : l.length = xs.length := by rw [← h1]; simp
  rcases h2.2 with ⟨hv, h0⟩ | ⟨g, cap, cur, hv, hg, hh, hc, hm, _⟩
  · omega
  · obtain ⟨rfl, rfl, rfl⟩ : a = some ⟨g, 0, none⟩ ∧ n = xs.length ∧ c = cap := by injection hv with e1 e2 e3; exact ⟨e1, e2, e3⟩
    refine ⟨g, 0, rfl, .of hh, fun j hj => ?_⟩
    have hj' : j < xs.length := by omega
    refine ⟨(xs[j]).val, ?_, ?_⟩
    · rw [Nat.zero_add]
      have := World.ownsRow.cellAt h2 j (by simpa using hj')
      simpa [List.getD, hj'] using this
    · have hb : l.getD j [] = (xs[j]).bs := by rw [← h1]; simp [List.getD, hj']
      rw [hb]
      exact RecV.slice (h3 _ (List.getElem_mem hj'))
/-- A block of slices. -/
theorem recs_of_blk {B : Nat} {w : World} {g : Nat} {vs : List Value} {l : List Bs} {fr : Nat × Nat} (h : w.heap[g]? = some (.cells vs.toArray 35 fr)) (hl : vs.length = l.length) (hs : ∀ j, j < l.length → SliceIs B w (vs.getD j .nilFunc) (l.getD j [])) : RecsAt B w (some ⟨g, 0, none⟩) l := fun _ =>
  ⟨g, 0, rfl, .of h, fun j hj => ⟨vs.getD j .nilFunc, by simp [World.cell?, h, List.getD, show j < vs.length by omega], hs j hj⟩⟩
end Go.Proofs.YtiidohaibbdgeaaDoor
