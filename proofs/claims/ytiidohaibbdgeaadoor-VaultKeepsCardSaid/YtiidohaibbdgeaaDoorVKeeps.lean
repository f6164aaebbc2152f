/-
  VaultKeeps, walked whole: THE THEOREM OF STAGE 12.
-/
import Derived.Test.YtiidohaibbdgeaaDoorVKMem
namespace Go.Proofs.YtiidohaibbdgeaaDoor
open Go Go.RowKit

/-- A past in its block. -/
def PastAt (B : Nat) (w : World) (pg : Nat) (p : PastM) : Prop := B ≤ pg ∧ ∃ cs, Blk w pg 34 cs ∧ PastVals B w cs p
theorem PastVals.liesV {B : Nat} {w w' : World} {cs : Array Value} {p : PastM} (h : PastVals B w cs p) (hl : LiesV B w w') : PastVals B w' cs p := by
  obtain ⟨a1, c1, a2, c2, a3, c3, e, k1, k2, k3, r1, r2, r3⟩ := h
  exact ⟨a1, c1, a2, c2, a3, c3, e, k1, k2, k3, r1.restV hl, r2.below hl.below, r3.below hl.below⟩
theorem PastAt.liesV {B : Nat} {w w' : World} {pg : Nat} {p : PastM} (h : PastAt B w pg p) (hl : LiesV B w w') : PastAt B w' pg p := by
  obtain ⟨hb, cs, h1, h2⟩ := h
  exact ⟨hb, cs, hl.still pg cs _ _ h1 (by decide), h2.liesV hl⟩
theorem PastAt.grown {B : Nat} {w w' : World} {pg : Nat} {p : PastM} (h : PastAt B w pg p) (hb : Below w.heap.size w w') (hB : B ≤ w.heap.size) : PastAt B w' pg p := h.liesV (Lies.new hb hB).toV
theorem PastAt.setMore {B : Nat} {w : World} {pg : Nat} {p : PastM} (h : PastAt B w pg p) (L : List Bs) (a : Option Addr) (c : Nat) (hc : L.length ≤ c) (hr : RecsLow B w a L) :
    PastAt B (w.setCell ⟨pg, 1, none⟩ (.slice a L.length c)) pg { p with more := L } ∧ Turned B 34 w (w.setCell ⟨pg, 1, none⟩ (.slice a L.length c)) := by
  obtain ⟨hb, cs, h1, a1, c1, a2, c2, a3, c3, rfl, k1, k2, k3, r1, r2, r3⟩ := h
  have ht := Turned.set h1 hb 1 (.slice a L.length c)
  exact ⟨⟨hb, _, h1.set 1 _, a1, c1, a, c, a3, c3, rfl, k1, hc, k3, r1.turned ht, hr.below ht.below, r3.below ht.below⟩, ht⟩
theorem PastAt.setNext {B : Nat} {w : World} {pg : Nat} {p : PastM} (h : PastAt B w pg p) (L : List Bs) (a : Option Addr) (c : Nat) (hr : RecsLow B w a L) :
    PastAt B ((w.setCell ⟨pg, 2, none⟩ (.slice a L.length c)).setCell ⟨pg, 3, none⟩ (.bool true)) pg { p with next := L, other := true } ∧ Turned B 34 w ((w.setCell ⟨pg, 2, none⟩ (.slice a L.length c)).setCell ⟨pg, 3, none⟩ (.bool true)) := by
  obtain ⟨hb, cs, h1, a1, c1, a2, c2, a3, c3, rfl, k1, k2, k3, r1, r2, r3⟩ := h
  have ht := (Turned.set h1 hb 2 (.slice a L.length c)).trans (Turned.set (h1.set 2 _) hb 3 (.bool true))
  exact ⟨⟨hb, _, (h1.set 2 _).set 3 _, a1, c1, a2, c2, a, c, rfl, k1, k2, k3, r1.turned ht, r2.below ht.below, hr.below ht.below⟩, ht⟩
theorem PastAt.setRow {B : Nat} {w : World} {pg : Nat} {p : PastM} (h : PastAt B w pg p) (L : List Bs) (a : Option Addr) (c : Nat) (hc : L.length ≤ c) (hn : a = none → c = 0) (hr : RecsAt B w a L) :
    PastAt B (w.setRow pg #[.slice a L.length c, .slice none 0 0, .slice none 0 0, .bool false]) pg ⟨L, [], [], false⟩ ∧ Turned B 34 w (w.setRow pg #[.slice a L.length c, .slice none 0 0, .slice none 0 0, .bool false]) := by
  obtain ⟨hb, cs, h1, _⟩ := h
  have ht := Turned.row h1 hb #[.slice a L.length c, .slice none 0 0, .slice none 0 0, .bool false]
  exact ⟨⟨hb, _, h1.row _, a, c, none, 0, none, 0, rfl, hc, by simp, hn, hr.turned ht, (fun hn => by simp at hn), (fun hn => by simp at hn)⟩, ht⟩
theorem PastAt.blk {B : Nat} {w : World} {pg : Nat} {p : PastM} (h : PastAt B w pg p) : ∃ old, Blk w pg 34 old ∧ old.size = 4 := by
  obtain ⟨hb, cs, h1, a1, c1, a2, c2, a3, c3, rfl, _⟩ := h
  exact ⟨_, h1, rfl⟩
theorem PastAt.room {B : Nat} {w : World} {pg : Nat} {p : PastM} (h : PastAt B w pg p) : (∃ v, w.cell? ⟨pg, 2, none⟩ = some v) ∧ (∃ v, w.cell? ⟨pg, 3, none⟩ = some v) ∧ (∃ v, w.cell? ⟨pg, 1, none⟩ = some v) ∧ ∀ j, w.frozen? ⟨pg, j, none⟩ = false := by
  obtain ⟨hb, cs, h1, a1, c1, a2, c2, a3, c3, rfl, _⟩ := h
  exact ⟨⟨_, h1.cell 2⟩, ⟨_, h1.cell 3⟩, ⟨_, h1.cell 1⟩, fun j => h1.free j⟩
theorem IntsLow.below {B : Nat} {w w' : World} {a : Option Addr} {zs : List Int} (h : IntsLow B w a zs) (hb : Below B w w') : IntsLow B w' a zs := fun hn => by
  obtain ⟨b, o, e, hs, hc⟩ := h hn
  exact ⟨b, o, e, hs, fun j hj => (hb.cell (p := ⟨b, o + j, none⟩) hs).trans (hc j hj)⟩
/-- A row is loaded, guarded or not. -/
theorem wpList_load_rowG {P : Program} {ops : Array Oper} {rest : List Oper} {o : Oper} {a : Act} {w : World} {Q : Exit → Act → World → Prop} (hw : Region.wanted o (yielded ops a.tmps) = true) (ty : TypeId) (x : Operand) (ho : o.op = .load ty x)
    (g : Nat) (hx : a.eval x = .pointer (some ⟨g, 0, none⟩)) (t : TypeId) (cs : Array Value) (fr : Nat × Nat) (d : TypeDesc) (hg : w.heap[g]? = some (.cells cs t fr))
    (hu : P.underlying ty = some d) (hd : (match d with | .struct _ | .array _ _ => true | _ => false) = true) (hi : (P.info? ty).map (·.size) = some cs.size)
    (h : wpList P ops Q rest (a.put o.dst (.agg cs)) w) : wpList P ops Q (o :: rest) a w := by
  unfold wpList
  rw [if_pos hw]
  exact .inl (wp_load_row ty x ho g hx t cs fr d hg hu hd hi h)
theorem PastAt.setAll {B : Nat} {w : World} {pg : Nat} {p : PastM} {x : Value} {a2 a3 : Option Addr} {c2 c3 : Nat} (hb : B ≤ pg) (h : Blk w pg 34 #[x, .slice a2 p.more.length c2, .slice a3 p.next.length c3, .bool p.other]) (k2 : p.more.length ≤ c2) (r2 : RecsLow B w a2 p.more) (r3 : RecsLow B w a3 p.next)
    (L : List Bs) (a : Option Addr) (c : Nat) (hc : L.length ≤ c) (hn : a = none → c = 0) (hr : RecsAt B w a L) :
    PastAt B (w.setCell ⟨pg, 0, none⟩ (.slice a L.length c)) pg { p with all := L } ∧ Turned B 34 w (w.setCell ⟨pg, 0, none⟩ (.slice a L.length c)) := by
  have ht := Turned.set h hb 0 (.slice a L.length c)
  exact ⟨⟨hb, _, h.set 0 _, a, c, a2, c2, a3, c3, rfl, hc, k2, hn, hr.turned ht, r2.below ht.below, r3.below ht.below⟩, ht⟩
set_option maxRecDepth 100000 in
theorem exec_slice_none {o : Oper} {a : Act} (ho : o.op = .buildSlice 30 0 #[]) (w : World) :
    (execOp a.eval o).run Tryd.prog w = .ok (.value (.slice (some ⟨w.heap.size, 0, none⟩) 0 0)) (w.alloc (.cells #[] 35)) := by
  obtain ⟨i35, hi, hz, hs, _⟩ := info_parts Tryd.info_recs
  unfold execOp
  simp only [ho, Sem.run_bind]
  simp [Instr.buildSlice, run_underlying Tryd.underlying30, sizeOf, typeInfo, hi, Instr.fill, newRow]
  rw [show Array.range 0 = #[] from (by first | (apply Array.ext'; simp) | decide | kernel_rfl)]
  simp
theorem wpOp_val {P : Program} {ops : Array Oper} {Q : Exit → Act → World → Prop} {i : Nat} {o : Oper} {K : Act → World → Prop} {a : Act} {w w2 : World} {v : Value} (ho : ops[i]? = some o) (hw : Region.wanted o (yielded ops a.tmps) = true)
    (hrun : (execOp a.eval o).run P w = .ok (.value v) w2) (h : K (a.put o.dst v) w2) : wpOp P ops Q i K a w := by
  unfold wpOp
  simp only [ho, hw, if_true]
  refine .inl ?_
  unfold Oper.wp
  rw [hrun, Oper.upon_value]
  exact h
theorem past_one (a b c d : Value) (ha : a.oneCell' = true) (hb : b.oneCell' = true) (hc : c.oneCell' = true) (hd : d.oneCell' = true) : (#[a, b, c, d] : Array Value).all (·.oneCell') = true := by simp [ha, hb, hc, hd]
theorem step_one (a b c d e f g : Value) (ha : a.oneCell' = true) (hb : b.oneCell' = true) (hc : c.oneCell' = true) (hd : d.oneCell' = true) (he : e.oneCell' = true) (hf : f.oneCell' = true) (hg : g.oneCell' = true) : (#[a, b, c, d, e, f, g] : Array Value).all (·.oneCell') = true := by simp [ha, hb, hc, hd, he, hf, hg]
theorem fits_sizes {s : StepM} {l : List StepM} (h : s ∈ l) (hw : stepsW l ≤ 16384) : s.recs.length ≤ 1024 ∧ sizesL s.recs ≤ 49152 ∧ s.picks.length ≤ 16384 := by
  have h1 := stepsW_mem h
  have h2 := recW_len s.recs
  have h3 := recW_sizes s.recs
  unfold stepW at h1
  omega

set_option maxRecDepth 100000 in
set_option maxHeartbeats 1000000 in
theorem vaultkeeps_any (l : List StepM) (hf : l.length ≤ 140737488351232 ∧ ∀ s ∈ l, s.fits) (a : Option Addr) (cap : Nat) (_hn : a = none → cap = 0) (_hlc : l.length ≤ cap) (w : World) (hlow : StepsLow w.heap.size w a l) (hT : Tab w) :
    Calls Tryd.prog 3 #[.slice a l.length cap] w fun e w' => e = .returned (.bool true) ∧ Below w.heap.size w w' := by
  have hTB := hT.lt
  have hhv := heavy_any l hf.1 hf.2 a cap w hlow
  obtain ⟨B, hBe⟩ : ∃ B, B = w.heap.size := ⟨_, rfl⟩
  have hw := fun wx (hl : Below B w wx) => works_end w wx (by rw [← hBe]; exact hl) hT
  rw [← hBe] at hTB hlow hhv
  have hB : B ≤ w.heap.size := by omega
  have hT0 := Lib.hid hT
  have hf0 := Lib.hid hf
  have hll := hf.1
  have hi34 : (Tryd.prog.info? 34).map (·.size) = some 4 := by kernel_rfl
  have hi40 : (Tryd.prog.info? 40).map (·.size) = some 7 := by kernel_rfl
  replace hi34 := Lib.hid hi34
  replace hi40 := Lib.hid hi40
  replace hBe := Lib.hid hBe
  replace hw := Lib.hid hw
  replace hhv := Lib.hid hhv
  replace hlow := Lib.hid hlow
  clear hT hf
  go_enter Tryd.func3, Tryd.ntmps3
  go_upto_region 3 with (first
    | (go_at_call 8; refine hhv.out.mono ?_; rintro e w1 ⟨x, rfl, hB1, hx⟩; replace hx := Lib.hid hx; cases x)
    | (go_at_call 9; refine (hw.out w1 hB1).mono ?_; rintro e w2 ⟨rfl, hB2⟩))
  rotate_left
  · go_ret
    exact ⟨rfl, hB2⟩
  have hW := hx.out trivial
  have hBw1 := Nat.le_trans hB hB1.size
  have hT1 := Lib.hid (hT0.out.grown (hBe.out ▸ hB1))
  have hnew := new_good B 32768 (by omega) (by omega) w1 hBw1
  have hopn := fun wx k1 k2 => ka_new B 32768 w1.heap.size (by omega) (by omega) wx k1 k2 hTB
  replace hnew := Lib.hid hnew
  replace hopn := Lib.hid hopn
  clear hhv hx
  go_upto_region 7 with (first
    | (go_at_call 10; refine hnew.out.mono ?_; rintro e w2 ⟨rfl, hD2, hB2⟩; have hL2 := (Lies.new hB2 hBw1).toV; have hT2 := hT1.out.lv hL2 hTB)
    | (go_at_call 11; refine (hopn.out w2 hD2 hT2).mono ?_; rintro e w3 ⟨vg, a3, c3, rfl, hK3, hL3⟩; have hT3 := hT2.lv hL3 hTB))
  have hB3 := hB1.trans (hL2.trans hL3).below
  have hBw3 := Nat.le_trans hB hB3.size
  replace hT3 := Lib.hid hT3
  replace hK3 := Lib.hid hK3
  clear hL2 hL3 hT2 hT1 hD2 hB2 hnew hopn
  have hp3 := Blk.new w3 34 #[.slice none 0 0, .slice none 0 0, .slice none 0 0, .bool false]
  go_upto_block 0 with (fail)
  generalize hw4 : World.alloc _ _ = w4
  have h4 : Blk w4 w3.heap.size 34 #[.slice none 0 0, .slice none 0 0, .slice none 0 0, .bool false] := by rw [← hw4]; exact hp3
  have hg4 : Below w3.heap.size w3 w4 := by rw [← hw4]; exact (Below.refl _ _).alloc (Nat.le_refl _) _
  obtain ⟨pg, hpg⟩ : ∃ pg, pg = w3.heap.size := ⟨_, rfl⟩
  obtain ⟨dg, hdg⟩ : ∃ dg, dg = w1.heap.size := ⟨_, rfl⟩
  rw [← hpg] at h4 ⊢
  rw [← hdg] at hK3 ⊢
  have hPa : PastAt B w4 pg ⟨[], [], [], false⟩ := ⟨by omega, _, h4, none, 0, none, 0, none, 0, rfl, by simp, by simp, fun _ => rfl, (fun hn => by simp at hn), (fun hn => by simp at hn), (fun hn => by simp at hn)⟩
  have hK4 := Lib.hid (hK3.out.grown hg4)
  have hT4 := Lib.hid (hT3.out.grown hg4)
  have hB4 := hB3.trans (hg4.mono hBw3)
  replace hPa := Lib.hid hPa
  have hl512 : l.length ≤ 512 := by have := stepsW_len l; omega
  have hfit := fun s (hs : s ∈ l) => fits_sizes hs hW
  replace hfit := Lib.hid hfit
  clear hp3 hw4 h4 hg4 hT3 hK3 hdg hpg hB3 hBw3 hBw1 hB1 hW
  go_wp2_with (fail)
  go_loopw [5, 9] (fun v i wr => ∃ (k : Nat) (va : Option Addr) (p : PastM), k ≤ l.length ∧ i = .int .i64 k ∧ v = .pointer va ∧ Hid (KA B wr dg 32768 va p (4 + 5 * k)) ∧ Hid (PastAt B wr pg p) ∧ Below B w wr ∧ Hid (Tab wr) ∧ Hid (p.all.length ≤ 4194304 + 16384 * k ∧ p.more.length ≤ 16384 ∧ p.next.length ≤ 16384)) (fun _ i _ => l.length - (intOf i).toNat)
  case atStart => exact ⟨0, _, _, by omega, rfl, rfl, hK4, hPa, hB4, hT4, Lib.hid ⟨by simp, by simp, by simp⟩⟩
  case round =>
    obtain ⟨k, va, p, hk, rfl, rfl, hK, hP, hBr, hTr, hbd⟩ := hrel
    by_cases hlt : k < l.length
    · have hkl : (k : Int) < (l.length : Int) := by omega
      have hBw := hK.out.base
      obtain ⟨b, o, rfl, hb, hc⟩ := hlow.out (by omega)
      have hst := (hc k hlt).below hb hBr
      have hmem : l.getD k ⟨0, [], 0, 0, []⟩ ∈ l := by
        have : l.getD k ⟨0, [], 0, 0, []⟩ = l[k] := by simp [List.getD, hlt]
        rw [this]; exact List.getElem_mem hlt
      have hft := hf0.out.2 _ hmem
      have hfz := hfit.out _ hmem
      generalize l.getD k ⟨0, [], 0, 0, []⟩ = s at *
      obtain ⟨act, recs, n, nb, pks⟩ := s
      obtain ⟨v2, v3, a1, c1, a2, c2, a3, c3, hrg, ho2, ho3, hz1, hq1, hrl, hpk⟩ := hst
      obtain ⟨hact, _, _, hn0, hn1, _, _, hpz⟩ := hft
      simp only at hact hn0 hn1 hpz hrg hz1 hq1 hrl hpk hfz
      replace hc := Lib.hid hc
      replace hrl := Lib.hid hrl
      replace hpk := Lib.hid hpk
      replace hpz := Lib.hid hpz
      clear hmem
      have hz40 := Blk.new wr 40 #[.int .u8 0, .slice none 0 0, .int .u8 0, .int .i64 0, .int .i64 0, .slice none 0 0, .slice none 0 0]
      go_upto_region 12 with (first
        | (refine wpList_load_mid rfl 40 _ rfl b (o + k * 7) rfl _ _ hrg Tryd.underlying40 rfl hi40.out ?_)
        | (refine wpList_store_row rfl 40 _ _ rfl wr.heap.size #[.int .u8 act, .slice a1 recs.length c1, v2, v3, .int .i64 n, .slice a2 nb c2, .slice a3 pks.length c3] rfl rfl 40 _ hz40 hi40.out rfl (step_one _ _ _ _ _ _ _ rfl rfl ho2 ho3 rfl rfl rfl) ?_))
      generalize hw5 : World.setRow _ _ _ = w5
      obtain ⟨sg, hsg⟩ : ∃ sg, sg = wr.heap.size := ⟨_, rfl⟩
      have hs5 : Blk w5 sg 40 #[.int .u8 act, .slice a1 recs.length c1, v2, v3, .int .i64 n, .slice a2 nb c2, .slice a3 pks.length c3] := by rw [← hw5, hsg]; exact hz40.row _
      have hg5 : Below wr.heap.size wr w5 := by rw [← hw5]; exact Below.setRow ((Below.refl _ _).alloc (Nat.le_refl _) _) (Nat.le_refl _) _
      have hsgB : B ≤ sg := by rw [hsg]; exact hBw
      rw [← hsg]
      clear hw5 hz40 hrg ho2 ho3
      have hK5 := Lib.hid (hK.out.grown hg5)
      have hP5 := Lib.hid (hP.out.grown hg5 hBw)
      have hT5 := Lib.hid (hTr.out.grown hg5)
      have hB5 := hBr.trans (hg5.mono hBw)
      have hrl5 := Lib.hid (hrl.out.below (hg5.mono hBw))
      have hpk5 : Hid (IntsLow B w5 a3 pks) := Lib.hid (fun hn => by
        obtain ⟨b', o', e, hs, hc'⟩ := hpk.out hn
        exact ⟨b', o', e, hs, fun j hj => ((hg5.mono hBw).cell (p := ⟨b', o' + j, none⟩) hs).trans (hc' j hj)⟩)
      have y0 := hs5.cell 0
      have y1 := hs5.cell 1
      have y4 := hs5.cell 4
      have y6 := hs5.cell 6
      simp only [List.getElem?_toArray, List.getElem?_cons_zero, List.getElem?_cons_succ] at y0 y1 y4 y6
      clear hK hP hTr hrl hpk hg5 hsg hBw
      go_upto_block 2 with (fail)
      obtain ⟨r, hr⟩ : ∃ r : Int, r = (act : Int) % 6 := ⟨_, rfl⟩
      rw [← hr]
      have hr6 : r = 5 ∨ r = 3 ∨ r = 4 ∨ r = 0 ∨ r = 1 ∨ r = 2 := by omega
      clear hr
      rcases hr6 with rfl | rfl | rfl | hr
      · go_wp2_with (go_at_call 16; refine (ka_fuse B 32768 dg va p n hn0 hn1 _ w5 hK5.out).mono ?_; rintro e w6 ⟨x, rfl, hK6, hL6⟩)
        go_roundw
        case rel => exact ⟨k + 1, va, p, by omega, by go_num, rfl, Lib.hid (hK6.more (by omega) (by omega)), Lib.hid (hP5.out.liesV hL6), hB5.trans hL6.below, Lib.hid (hT5.out.lv hL6 hTB), Lib.hid (by have := hbd.out; omega)⟩
        case measure => simp [intOf]; omega
      · have hcom := ka_comp B 32768 dg (by omega) va p recs (4 + 5 * k) (by omega) (by omega) (by omega) a1 c1 w5 hK5.out hrl5.out.recs hT5.out
        replace hcom := Lib.hid hcom
        go_upto_region 24 with (go_at_call 13; refine hcom.out.mono ?_; rintro e w6 ⟨x, rfl, hK6, hL6⟩)
        have hP6 := hP5.out.liesV hL6
        have hT6 := hT5.out.lv hL6 hTB
        have hB6 := hB5.trans hL6.below
        have hrl6 := hrl5.out.below hL6.below
        have y61 : w6.cell? ⟨sg, 1, none⟩ = some (.slice a1 recs.length c1) := by rw [Blk.cell (hL6.still sg _ _ _ hs5 (by decide))]; rfl
        by_cases h0 : x = 0
        · subst h0
          obtain ⟨old, hbk, hsz⟩ := hP6.blk
          have hpr := hP6.setRow recs a1 c1 hq1 hz1 hrl6.recs
          rw [show pastComp p recs 0 = ⟨recs, [], [], false⟩ from rfl] at hK6
          replace hpr := Lib.hid hpr
          replace hK6 := Lib.hid hK6
          go_wp2_with (refine wpList_store_row rfl 34 _ _ rfl pg #[.slice a1 recs.length c1, .slice none 0 0, .slice none 0 0, .bool false] rfl rfl 34 _ hbk hi34.out hsz (past_one _ _ _ _ rfl rfl rfl rfl) ?_)
          go_roundw
          case rel => exact ⟨k + 1, va, _, by omega, by go_num, rfl, Lib.hid ((hK6.out.turned hpr.out.2).more (by omega) (by omega)), Lib.hid hpr.out.1, hB6.trans hpr.out.2.below, Lib.hid (hT6.turned hpr.out.2 hTB), Lib.hid (by simp; omega)⟩
          case measure => simp [intOf]; omega
        · by_cases h8 : x = 8
          · subst h8
            obtain ⟨⟨_, q2⟩, ⟨_, q3⟩, _, q5⟩ := hP6.room
            have q6 := q5 2
            have q7 := q5 3
            have hpr := hP6.setNext recs a1 c1 hrl6
            rw [show pastComp p recs 8 = { p with next := recs, other := true } from rfl] at hK6
            replace hpr := Lib.hid hpr
            replace hK6 := Lib.hid hK6
            go_wp2_with (fail)
            go_roundw
            case rel => exact ⟨k + 1, va, _, by omega, by go_num, rfl, Lib.hid ((hK6.out.turned hpr.out.2).more (by omega) (by omega)), Lib.hid hpr.out.1, hB6.trans hpr.out.2.below, Lib.hid (hT6.turned hpr.out.2 hTB), Lib.hid (by have := hbd.out; simp; omega)⟩
            case measure => simp [intOf]; omega
          · rw [show pastComp p recs x = p by unfold pastComp; rw [if_neg h0, if_neg h8]] at hK6
            have hx0 : (x == 0) = false := by rw [beq_eq_false_iff_ne]; exact h0
            have hx8 : (x == 8) = false := by rw [beq_eq_false_iff_ne]; exact h8
            go_wp2_with (fail)
            go_roundw
            case rel => exact ⟨k + 1, va, p, by omega, by go_num, rfl, Lib.hid (hK6.more (by omega) (by omega)), Lib.hid hP6, hB6, Lib.hid hT6, Lib.hid (by have := hbd.out; omega)⟩
            case measure => simp [intOf]; omega
      · go_upto_region 34 with (first
          | (go_at_call 11
             refine (kt_open B 32768 dg p _ (4 + 5 * k) (by omega) w8 hK8 hT8 hTB).mono ?_
             rintro e w9 ⟨hL9, h9⟩
             have hL59 := hL58.trans hL9
             rcases h9 with ⟨vg9, a9, c9, l9, hfd, rfl, hK9, hr9, hn9, hq9, hl9⟩ | ⟨_, rfl, hK9⟩)
          | (go_at_call 16
             refine (kt_fuse B 32768 dg p.found false _ n hn0 hn1 w7 hK7).mono ?_
             rintro e w8 ⟨rfl, hK8, hL8⟩
             have hL58 := hL57.trans hL8
             have hT8 := hT5.out.lv hL58 hTB)
          | (go_at_call 15
             refine (ko_on B 32768 dg p.found _ pks hpz.out (by omega) a3 c3 w6 hO6 (hpk5.out.below hL6.below).ints).mono ?_
             rintro e w7 ⟨rfl, hK7, hL7⟩
             have hL57 := hL6.trans hL7
             have y74 : w7.cell? ⟨sg, 4, none⟩ = some (.int .i64 n) := by rw [Blk.cell (hL57.still sg _ _ _ hs5 (by decide))]; rfl)
          | (go_at_call 14
             refine (ka_off B 32768 dg va p _ w5 hK5.out).mono ?_
             rintro e w6 ⟨x, rfl, hO6, hL6⟩
             have y66 : w6.cell? ⟨sg, 6, none⟩ = some (.slice a3 pks.length c3) := by rw [Blk.cell (hL6.still sg _ _ _ hs5 (by decide))]; rfl))
        · have hP9 := hP5.out.liesV hL59
          have hT9 := hT5.out.lv hL59 hTB
          have hB9 := hB5.trans hL59.below
          have hBw9 := hK9.base
          obtain ⟨old, hbk, hpv⟩ := id hP9.2
          have hsz : old.size = 4 := by
            obtain ⟨_, _, _, _, _, _, rfl, _⟩ := hpv
            rfl
          have hfo := found_any B p l9 hfd (by omega) (by have := hbd.out; omega) (by have := hbd.out; omega) (by have := hbd.out; omega) a9 c9 hq9 old w9 hBw9 hpv hr9
          have hi34' : (Tryd.prog.info? 34).map (·.size) = some old.size := hi34.out.trans (by rw [hsz])
          have hbs : Below w9.heap.size w9 w9 := Below.refl _ _
          replace hi34' := Lib.hid hi34'
          replace hfo := Lib.hid hfo
          replace hK9 := Lib.hid hK9
          replace hr9 := Lib.hid hr9
          replace hT9 := Lib.hid hT9
          replace hP9 := Lib.hid hP9
          clear hK7 hK8 hO6 hT8 hpv hfd
          go_upto_region 40 with (first
            | (refine wpList_load_rowG rfl 34 _ rfl pg rfl 34 old (0, 0) _ hbk Tryd.underlying34 rfl hi34'.out ?_)
            | (go_at_call 17; refine hfo.out.mono ?_; rintro e w10 ⟨rfl, hB10⟩))
          have hP10 := hP9.out.grown hB10 hBw9
          have hK10 := Lib.hid (hK9.out.grown hB10)
          have hT10 := hT9.out.grown hB10
          have hr10 := hr9.out.lies (Lies.new hB10 hBw9)
          have hB010 := hB9.trans (hB10.mono hBw9)
          obtain ⟨old2, hbk2, hsz2⟩ := hP10.blk
          have hpr := hP10.setRow l9 a9 c9 hq9 hn9 hr10
          replace hpr := Lib.hid hpr
          replace hT10 := Lib.hid hT10
          clear hP10 hbk hi34' hr10
          go_wp2_with (refine wpList_store_row rfl 34 _ _ rfl pg #[.slice a9 l9.length c9, .slice none 0 0, .slice none 0 0, .bool false] rfl rfl 34 _ hbk2 hi34.out hsz2 (past_one _ _ _ _ rfl rfl rfl rfl) ?_)
          go_roundw
          case rel => exact ⟨k + 1, _, _, by omega, by go_num, rfl, Lib.hid ((hK10.out.turned hpr.out.2).more (by omega) (by omega)), Lib.hid hpr.out.1, hB010.trans hpr.out.2.below, Lib.hid (hT10.out.turned hpr.out.2 hTB), Lib.hid (by simp; omega)⟩
          case measure => simp [intOf]; omega
        · have hP9 := Lib.hid (hP5.out.liesV hL59)
          have hT9 := Lib.hid (hT5.out.lv hL59 hTB)
          have hB9 := hB5.trans hL59.below
          replace hK9 := Lib.hid hK9
          clear hK7 hK8 hO6 hT8
          go_wp2_with (fail)
          go_roundw
          case rel => exact ⟨k + 1, _, _, by omega, by go_num, rfl, Lib.hid (hK9.out.more (by omega) (by omega)), hP9, hB9, hT9, Lib.hid (by have := hbd.out; omega)⟩
          case measure => simp [intOf]; omega
      · have hadd := ka_add B 32768 dg (by omega) va p recs (4 + 5 * k) (by omega) (by omega) (by omega) a1 c1 w5 hK5.out hrl5.out.recs hT5.out
        replace hadd := Lib.hid hadd
        rcases hr with rfl | rfl | rfl
        all_goals
          go_upto_region 18 with (go_at_call 12; refine hadd.out.mono ?_; rintro e w6 ⟨x, rfl, hK6, hL6⟩)
          have hP6 := hP5.out.liesV hL6
          have hT6 := hT5.out.lv hL6 hTB
          have hB6 := hB5.trans hL6.below
          have hBw6 := hK6.base
          have hrl6 := hrl5.out.below hL6.below
          have hs6 := hL6.still sg _ _ _ hs5 (by decide)
          have y61 : w6.cell? ⟨sg, 1, none⟩ = some (.slice a1 recs.length c1) := by rw [Blk.cell hs6]; rfl
          by_cases h0 : x = 0
          · subst h0
            obtain ⟨hpB, _, hbk, pa, pc, pa2, pc2, pa3, pc3, rfl, k1, k2, k3, r1, r2, r3⟩ := id hP6
            have d0 : w6.cell? ⟨pg, 0, none⟩ = some (.slice pa p.all.length pc) := hbk.cell 0
            rw [show pastAdd p recs 0 = { p with all := p.all ++ recs } from rfl] at hK6
            obtain ⟨cl, hcl⟩ : ∃ cl : List (Addr × Value), cl = [(⟨pg, 0, none⟩, .slice pa p.all.length pc), (⟨sg, 1, none⟩, .slice a1 recs.length c1)] := ⟨_, rfl⟩
            have z0 := fun z : Has cl => z.cell (a := ⟨pg, 0, none⟩) (v := .slice pa p.all.length pc) (by rw [hcl]; simp)
            have z1 := fun z : Has cl => z.cell (a := ⟨sg, 1, none⟩) (v := .slice a1 recs.length c1) (by rw [hcl]; simp)
            have hS : ∀ wx : World, wx.cell? ⟨pg, 0, none⟩ = some (.slice pa p.all.length pc) → wx.cell? ⟨sg, 1, none⟩ = some (.slice a1 recs.length c1) → ∃ x : Has cl, wx = x.1 := fun wx h1 h2 => ⟨⟨wx, fun q hq => by
              rw [hcl] at hq
              rcases List.mem_cons.1 hq with rfl | hq
              · exact h1
              · rw [List.mem_singleton] at hq; subst hq; exact h2⟩, rfl⟩
            have : Nonempty (Has cl) := (hS w6 d0 y61).elim fun x _ => ⟨x⟩
            replace hcl := Lib.hid hcl
            replace hK6 := Lib.hid hK6
            replace hT6 := Lib.hid hT6
            go_upto_region 19 with (fail)
            refine wp_region_waysL (S := fun w' => ∃ x : Has cl, w' = x.1) 8 (.one [1, 2, 4, 5] 0 (.one [] 3 (.one [] 6 (.fin [7] 8)))) (by kernel_rfl) (by kernel_rfl) (by intro c a d u w h; cases d <;> exact h) (hS _ d0 y61) ?_
            simp only [wpWaysL, picks, List.getElem?_toArray, List.getElem?_cons_succ, List.getElem?_cons_zero]
            repeat (go_big_quiet_step (fail))
            refine wpQuiet_nil ?_
            refine wpOp_val (by simp only [List.getElem?_toArray, List.getElem?_cons_zero]; rfl) rfl (exec_slice_none rfl _) ?_
            have hA1 : Below w6.heap.size w6 (w6.drew.alloc (.cells #[] 35)) := ((Below.refl _ _).drew).alloc (Nat.le_refl _) _
            have hrow7 : RowOf B (w6.drew.alloc (.cells #[] 35)) (.slice (some ⟨w6.drew.heap.size, 0, none⟩) 0 0) [] :=
              ⟨[], ⟨rfl, .inr ⟨w6.heap.size, 0, #[], rfl, hBw6, Blk.new w6.drew _ _, Nat.le_refl _, by unfold maxLen; omega, rfl, rfl⟩⟩, rfl, fun j hj => by simp at hj⟩
            generalize w6.drew.alloc (.cells #[] 35) = w7 at *
            have htu7 : Turned B 35 w6 w7 := Turned.new hA1 hBw6
            have hBw7 := Nat.le_trans hBw6 hA1.size
            have b7 := hbk.turned htu7
            have s7 := Blk.turned hs6 htu7
            refine ⟨hS _ (b7.cell 0) (s7.cell 1), ?_⟩
            go_frame
            refine wpQuiet_nil ?_
            refine wpOp_of_list (by simp only [List.getElem?_toArray, List.getElem?_cons_succ, List.getElem?_cons_zero]; rfl) ?_
            refine wpList_append_recs rfl (.tmp 72) (.tmp 74) rfl B hBw7 _ [] rfl hrow7 pa pc p.all.length p.all rfl rfl (r1.lies (Lies.new hA1 hBw6)) k3 (by have := hbd.out; simp; omega) ?_
            intro v8 w8 hrow8 htu8
            rw [List.nil_append] at hrow8
            have htu68 := htu7.trans htu8
            have hBw8 := Nat.le_trans hBw7 htu8.size
            have b8 := hbk.turned htu68
            have s8 := Blk.turned hs6 htu68
            refine wpList_end ⟨hS _ (b8.cell 0) (s8.cell 1), ?_⟩
            go_frame
            refine wpQuiet_nil ?_
            refine wpOp_of_list (by simp only [List.getElem?_toArray, List.getElem?_cons_succ, List.getElem?_cons_zero]; rfl) ?_
            refine wpList_append_recs rfl (.tmp 75) (.tmp 77) rfl B hBw8 _ p.all rfl hrow8 a1 c1 recs.length recs rfl rfl (hrl6.below htu68.below).recs hz1 (by have := hbd.out; omega) ?_
            intro v9 w9 hrow9 htu9
            have htu69 := htu68.trans htu9
            have b9 := hbk.turned htu69
            have s9 := Blk.turned hs6 htu69
            refine wpList_end ⟨hS _ (b9.cell 0) (s9.cell 1), ?_⟩
            obtain ⟨va9, vc9, rfl, hvn, hvl, _⟩ := hrow9.form
            have hpr := PastAt.setAll hpB b9 k2 (r2.below htu69.below) (r3.below htu69.below) (p.all ++ recs) va9 vc9 hvl hvn hrow9.recs
            have hK9 := hK6.out.turned htu69
            have hT9 := hT6.out.turned htu69 hTB
            have hB9 := hB6.trans htu69.below
            have q0 := b9.cell 0
            have f0 := b9.free 0
            have hln : (p.all ++ recs).length ≤ 4194304 + 16384 * (k + 1) := by have := hbd.out; rw [List.length_append]; omega
            generalize p.all ++ recs = AL at *
            replace hpr := Lib.hid hpr
            replace hK9 := Lib.hid hK9
            replace hT9 := Lib.hid hT9
            clear hrow9 hrow8 hrow7 htu7 htu8 htu9 htu68 htu69 b7 b8 b9 s7 s8 s9 r1 r2 r3 hbk hA1 hP6 hK6 hT6
            go_frame
            repeat (go_big_quiet_step (fail))
            refine wpQuiet_nil ?_
            refine wpOp_step (by simp only [List.getElem?_toArray, List.getElem?_cons_succ, List.getElem?_cons_zero]; rfl) (fun K hK => ?_)
            go_simp
            refine hK _ _ ?_
            clear hK K z0 z1
            go_wp2_with (fail)
            go_roundw
            case rel => exact ⟨k + 1, va, _, by omega, by go_num, rfl, Lib.hid ((hK9.out.turned hpr.out.2).more (by omega) (by omega)), Lib.hid hpr.out.1, hB9.trans hpr.out.2.below, Lib.hid (hT9.out.turned hpr.out.2 hTB), Lib.hid (by have := hbd.out; simp; omega)⟩
            case measure => simp [intOf]; omega
          · by_cases h8 : x = 8
            · subst h8
              obtain ⟨_, _, ⟨_, q4⟩, q5⟩ := hP6.room
              have q6 := q5 1
              have hpr := hP6.setMore recs a1 c1 hq1 hrl6
              rw [show pastAdd p recs 8 = { p with more := recs } from rfl] at hK6
              replace hpr := Lib.hid hpr
              replace hK6 := Lib.hid hK6
              go_wp2_with (fail)
              go_roundw
              case rel => exact ⟨k + 1, va, _, by omega, by go_num, rfl, Lib.hid ((hK6.out.turned hpr.out.2).more (by omega) (by omega)), Lib.hid hpr.out.1, hB6.trans hpr.out.2.below, Lib.hid (hT6.turned hpr.out.2 hTB), Lib.hid (by have := hbd.out; simp; omega)⟩
              case measure => simp [intOf]; omega
            · rw [show pastAdd p recs x = p by unfold pastAdd; rw [if_neg h0, if_neg h8]] at hK6
              have hx0 : (x == 0) = false := by rw [beq_eq_false_iff_ne]; exact h0
              have hx8 : (x == 8) = false := by rw [beq_eq_false_iff_ne]; exact h8
              go_wp2_with (fail)
              go_roundw
              case rel => exact ⟨k + 1, va, p, by omega, by go_num, rfl, Lib.hid (hK6.more (by omega) (by omega)), Lib.hid hP6, hB6, Lib.hid hT6, Lib.hid (by have := hbd.out; omega)⟩
              case measure => simp [intOf]; omega
    · obtain rfl : k = l.length := by omega
      have hnlt : decide ((l.length : Int) < (l.length : Int)) = false := decide_eq_false (by omega)
      go_upto_region 44 with (first
        | (go_at_call 11
           refine (kt_open B 32768 dg p false (4 + 5 * l.length) (by omega) w7 hK7 hT7 hTB).mono ?_
           rintro e w9 ⟨hL9, h9⟩
           have hL59 := hL57.trans hL9
           obtain ⟨vg9, a9, c9, l9, hfd, rfl, hK9, hr9, hn9, hq9, hl9⟩ := h9.resolve_right (fun h => absurd h.1 Bool.false_ne_true))
        | (go_at_call 15
           refine (ko_on B 32768 dg p.found _ [] (fun z hz => by cases hz) (by simp) none 0 w6 hO6 (fun hn => by simp at hn)).mono ?_
           rintro e w7 ⟨rfl, hK7, hL7⟩
           have hL57 := hL6.trans hL7
           have hT7 := hTr.out.lv hL57 hTB)
        | (go_at_call 14
           refine (ka_off B 32768 dg va p _ wr hK.out).mono ?_
           rintro e w6 ⟨x, rfl, hO6, hL6⟩))
      have hP9 := hP.out.liesV hL59
      have hB9 := hBr.trans hL59.below
      have hBw9 := hK9.base
      obtain ⟨old, hbk, hpv⟩ := id hP9.2
      have hsz : old.size = 4 := by
        obtain ⟨_, _, _, _, _, _, rfl, _⟩ := hpv
        rfl
      have hfo := found_any B p l9 hfd (by omega) (by have := hbd.out; omega) (by have := hbd.out; omega) (by have := hbd.out; omega) a9 c9 hq9 old w9 hBw9 hpv hr9
      have hi34' : (Tryd.prog.info? 34).map (·.size) = some old.size := hi34.out.trans (by rw [hsz])
      replace hi34' := Lib.hid hi34'
      replace hfo := Lib.hid hfo
      clear hK7 hO6 hT7 hpv hfd hr9 hK9 hK hP
      go_wp2_with (first
        | (refine wpList_load_rowG rfl 34 _ rfl pg rfl 34 old (0, 0) _ hbk Tryd.underlying34 rfl hi34'.out ?_)
        | (go_at_call 17; refine hfo.out.mono ?_; rintro e w10 ⟨rfl, hB10⟩)
        | (go_at_call 9; refine (hw.out w10 (hB9.trans (hB10.mono hBw9))).mono ?_; rintro e w11 ⟨rfl, hB11⟩))
      go_ret
      exact ⟨rfl, hB11⟩
end Go.Proofs.YtiidohaibbdgeaaDoor
