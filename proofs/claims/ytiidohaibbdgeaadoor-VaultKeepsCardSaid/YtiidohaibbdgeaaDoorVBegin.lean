/-
  A vault where there is none (vault.begin).
-/
import Derived.Test.YtiidohaibbdgeaaDoorVMem
namespace Go.Proofs.YtiidohaibbdgeaaDoor
open Go Go.RowKit

/-- Worlds that have these cells. -/
def Has (l : List (Addr × Value)) : Type := { w : World // ∀ p ∈ l, w.cell? p.1 = some p.2 }
theorem Has.cell {l : List (Addr × Value)} (x : Has l) {a : Addr} {v : Value} (h : (a, v) ∈ l) : x.1.cell? a = some v := x.2 _ h

theorem vcut_ok {D : DiskM} {cnt : Nat} (h : D.ok cnt) (f n : Int) (hc : cnt < 1099511627776) : (D.vcut f n).1.ok (cnt + 1) := by
  unfold DiskM.vcut
  split
  · exact h.more hc
  · exact cut_ok h f n hc

set_option maxRecDepth 100000 in
set_option maxHeartbeats 1000000 in
theorem begin1_any (B cnt : Nat) (D : DiskM) (hok : D.ok cnt) (g bx : Nat) (w : World) (h : DiskAt B w g D) (hx : Box w bx 25 (.pointer (some ⟨g, 0, none⟩))) :
    Calls Tryd.prog 61 #[.pointer (some ⟨bx, 0, none⟩)] w (DiskRet B g (D.vcut 1 0) w) := by
  have hk := vcut_any B cnt D hok g 1 0 (by omega) w h
  have c0 := hx.cell
  replace hk := Lib.hid hk
  clear h hok hx
  go_enter Tryd.func61, Tryd.ntmps61
  go_wp2_with (go_at_call 31; refine hk.out.mono ?_; rintro e w1 ⟨rfl, hD1, hL1⟩)
  go_ret
  exact ⟨rfl, hD1, hL1⟩
set_option maxRecDepth 100000 in
set_option maxHeartbeats 1000000 in
theorem begin2_any (B cnt : Nat) (D : DiskM) (hok : D.ok cnt) (g bx : Nat) (w : World) (h : DiskAt B w g D) (hx : Box w bx 25 (.pointer (some ⟨g, 0, none⟩))) :
    Calls Tryd.prog 62 #[.pointer (some ⟨bx, 0, none⟩)] w (DiskRet B g (D.vcut 0 0) w) := by
  have hk := vcut_any B cnt D hok g 0 0 (by omega) w h
  have c0 := hx.cell
  replace hk := Lib.hid hk
  clear h hok hx
  go_enter Tryd.func62, Tryd.ntmps62
  go_wp2_with (go_at_call 31; refine hk.out.mono ?_; rintro e w1 ⟨rfl, hD1, hL1⟩)
  go_ret
  exact ⟨rfl, hD1, hL1⟩
set_option maxRecDepth 100000 in
set_option maxHeartbeats 1000000 in
theorem begin4_any (B cnt : Nat) (D : DiskM) (hok : D.ok cnt) (g bx : Nat) (w : World) (h : DiskAt B w g D) (hx : Box w bx 25 (.pointer (some ⟨g, 0, none⟩))) :
    Calls Tryd.prog 64 #[.pointer (some ⟨bx, 0, none⟩)] w (DiskRet B g (D.sync 1) w) := by
  have hk := sync_any B cnt D hok g 1 w h
  have c0 := hx.cell
  replace hk := Lib.hid hk
  clear h hok hx
  go_enter Tryd.func64, Tryd.ntmps64
  go_wp2_with (go_at_call 33; refine hk.out.mono ?_; rintro e w1 ⟨rfl, hD1, hL1⟩)
  go_ret
  exact ⟨rfl, hD1, hL1⟩
set_option maxRecDepth 100000 in
set_option maxHeartbeats 1000000 in
theorem begin3_any (B cnt : Nat) (D : DiskM) (hok : D.ok cnt) (g bx : Nat) (w : World) (h : DiskAt B w g D) (hx : Box w bx 25 (.pointer (some ⟨g, 0, none⟩))) (hT : Tab w) :
    Calls Tryd.prog 63 #[.pointer (some ⟨bx, 0, none⟩)] w (DiskRet B g (D.write 1 (headL 1 0)) w) := by
  have hB := h.base
  have hhd := head_any 1 0 (by omega) w.drew (hT.grown ((Below.refl w.heap.size _).drew))
  have hhl := headL_length 1 0
  have hk := fun wx (hb : Below w.heap.size w wx) a cap hc hby => write_any B cnt D hok g 1 (headL 1 0) a cap hc (by rw [hhl]; omega) wx (h.grown hb) hby
  generalize headL 1 0 = X at *
  have c0 := hx.cell
  obtain ⟨cl, hcl⟩ : ∃ cl : List (Addr × Value), cl = [(⟨bx, 0, none⟩, .pointer (some ⟨g, 0, none⟩))] := ⟨_, rfl⟩
  have z0 := fun z : Has cl => z.cell (a := ⟨bx, 0, none⟩) (v := .pointer (some ⟨g, 0, none⟩)) (by rw [hcl]; simp)
  have hS : ∀ wx : World, wx.cell? ⟨bx, 0, none⟩ = some (.pointer (some ⟨g, 0, none⟩)) → ∃ x : Has cl, wx = x.1 := fun wx hw => ⟨⟨wx, fun p hp => by rw [hcl, List.mem_singleton] at hp; subst hp; exact hw⟩, rfl⟩
  have : Nonempty (Has cl) := (hS w c0).elim fun x _ => ⟨x⟩
  have hx0 := Lib.hid hx
  replace hhd := Lib.hid hhd
  replace hk := Lib.hid hk
  clear h hok hx hT hhl
  go_enter Tryd.func63, Tryd.ntmps63
  go_upto_region 1 with (fail)
  refine wp_region_ways (S := fun w' => ∃ x : Has cl, w' = x.1) (.one [0] 1 (.one [] 2 (.last [3]))) (by kernel_rfl) (by kernel_rfl) (by intro c a d u w h; cases d <;> exact h) (hS _ c0) ?_
  simp only [wpWays, picks, List.getElem?_toArray, List.getElem?_cons_succ, List.getElem?_cons_zero]
  repeat (go_big_quiet_step (fail))
  refine wpQuiet_nil ?_
  refine wpOp_step (by simp only [List.getElem?_toArray, List.getElem?_cons_succ, List.getElem?_cons_zero]; rfl) (fun K hK => ?_)
  go_simp
  refine hhd.out.mono ?_
  rintro e w1 ⟨v1, rfl, hown1, hB1⟩
  have hB1' : Below w.heap.size w w1 := ((Below.refl _ _).drew).trans hB1
  obtain ⟨a1, q1, rfl, hn1, _, _, hb1⟩ := BytesAt.of_own (B := B) hown1
  have hL1 := Lies.new hB1' hB
  refine hK _ _ ⟨hS _ (hx0.out.lies hL1).cell, ?_⟩
  clear hK K
  refine wpQuiet_nil ?_
  refine wpOp_step (by simp only [List.getElem?_toArray, List.getElem?_cons_succ, List.getElem?_cons_zero]; rfl) (fun K hK => ?_)
  go_simp
  refine (hk.out w1 hB1' a1 q1 hn1 hb1).mono ?_
  rintro e w2 ⟨rfl, hD2, hL2⟩
  refine hK _ _ ⟨hS _ ((hx0.out.lies hL1).lies hL2).cell, ?_⟩
  clear hK K
  repeat (go_big_quiet_step (fail))
  refine wpQuiet_nil ?_
  go_wp2_with (fail)
  go_ret
  exact ⟨rfl, hD2, hL1.trans hL2⟩

theorem Tab.liesV {B : Nat} {w w' : World} (h : Tab w) (hl : LiesV B w w') (hT : 0 < B) : Tab w' := by
  obtain ⟨t, fr, h1⟩ := h
  exact ⟨t, fr, (hl.below.block _ hT).trans h1⟩
def beginOps : List (DiskM → DiskM × Int) := [fun D => D.vcut 1 0, fun D => D.vcut 0 0, fun D => D.write 1 (headL 1 0), fun D => D.sync 1]
def DiskM.begin (D : DiskM) : DiskM × Int := runL beginOps D
/-- What begin hands back. -/
def BeginRet (B g : Nat) (r : DiskM × Int) (w : World) (e : Ending) (w' : World) : Prop :=
  LiesV B w w' ∧ DiskAt B w' g r.1 ∧ ((r.2 = 0 ∧ ∃ vg, e = .returned (.tuple #[.pointer (some ⟨vg, 0, none⟩), .int .i64 0]) ∧ VaultAt B w' vg g ⟨1, 1, 0, false⟩ ∧ w.heap.size ≤ vg) ∨ (r.2 ≠ 0 ∧ e = .returned (.tuple #[.pointer none, .int .i64 r.2])))

set_option maxRecDepth 100000 in
set_option maxHeartbeats 1000000 in
theorem vbegin_any (B cnt : Nat) (hcnt : cnt + 10 ≤ 1099511627776) (D : DiskM) (hok : D.ok cnt) (g : Nat) (w : World) (h : DiskAt B w g D) (hT : Tab w) (hTB : 0 < B) :
    Calls Tryd.prog 28 #[.pointer (some ⟨g, 0, none⟩)] w (BeginRet B g D.begin w) := by
  have hB := h.base
  have hk := fun (b : Nat) (wx : World) (hD : DiskAt B wx g D) (hbox : Box wx w.heap.size 25 (.pointer (some ⟨g, 0, none⟩))) (hTx : Tab wx) (hst : Stays B wx b) hcell =>
    all_st (fun D' wy => DiskAt B wy g D' ∧ Box wy w.heap.size 25 (.pointer (some ⟨g, 0, none⟩)) ∧ Tab wy) (fun i D' => D'.ok (cnt + i))
      [(61, #[.pointer (some ⟨w.heap.size, 0, none⟩)]), (62, #[.pointer (some ⟨w.heap.size, 0, none⟩)]), (63, #[.pointer (some ⟨w.heap.size, 0, none⟩)]), (64, #[.pointer (some ⟨w.heap.size, 0, none⟩)])]
      beginOps (fun D => (D, 0)) rfl (by simp) B b 0 4 wx D (fun i hi wy => by
        match i, hi with
        | 0, _ => exact enters_of Tryd.func61 (by kernel_rfl) rfl _ wy
        | 1, _ => exact enters_of Tryd.func62 (by kernel_rfl) rfl _ wy
        | 2, _ => exact enters_of Tryd.func63 (by kernel_rfl) rfl _ wy
        | 3, _ => exact enters_of Tryd.func64 (by kernel_rfl) rfl _ wy) hst hcell ⟨hD, hbox, hTx⟩ hok (fun i hi wy D' hok' ⟨h1, h2, h3⟩ hl => by
        have fin : ∀ {r : DiskM × Int} {e : Ending} {w' : World}, DiskRet B g r wy e w' → e = .returned (.int .i64 r.2) ∧ (DiskAt B w' g r.1 ∧ Box w' w.heap.size 25 (.pointer (some ⟨g, 0, none⟩)) ∧ Tab w') ∧ LiesV B wy w' :=
          fun {r e w'} ⟨k1, k2, k3⟩ => ⟨k1, ⟨k2, h2.lies k3, h3.liesV k3.toV hTB⟩, k3.toV⟩
        match i, hi with
        | 0, _ => exact (begin1_any B _ D' hok' g _ wy h1 h2).mono fun _ _ => fin
        | 1, _ => exact (begin2_any B _ D' hok' g _ wy h1 h2).mono fun _ _ => fin
        | 2, _ => exact (begin3_any B _ D' hok' g _ wy h1 h2 h3).mono fun _ _ => fin
        | 3, _ => exact (begin4_any B _ D' hok' g _ wy h1 h2).mono fun _ _ => fin)
      (fun i hi D' hok' _ => by
        match i, hi with
        | 0, _ => exact vcut_ok hok' 1 0 (by omega)
        | 1, _ => exact vcut_ok hok' 0 0 (by omega)
        | 2, _ => exact write_ok hok' 1 _ (by omega)
        | 3, _ => exact (sync_ok hok' 1).more (by omega))
  obtain ⟨W, hW⟩ : ∃ W, W = (w.alloc (.cells #[.pointer (some ⟨g, 0, none⟩)] 25)).alloc (.cells #[.func (.func 61) #[] #[.pointer (some ⟨w.heap.size, 0, none⟩)], .func (.func 62) #[] #[.pointer (some ⟨w.heap.size, 0, none⟩)], .func (.func 63) #[] #[.pointer (some ⟨w.heap.size, 0, none⟩)], .func (.func 64) #[] #[.pointer (some ⟨w.heap.size, 0, none⟩)]] 43) := ⟨_, rfl⟩
  have hb2 : Below w.heap.size w W := by rw [hW]; exact ((Below.refl _ _).alloc (Nat.le_refl _) _).alloc (by simp) _
  have hbox : Box W w.heap.size 25 (.pointer (some ⟨g, 0, none⟩)) := ⟨by rw [hW]; exact (Blk.new _ _ _).alloc _, by decide⟩
  have hsl : Blk W (w.heap.size + 1) 43 #[.func (.func 61) #[] #[.pointer (some ⟨w.heap.size, 0, none⟩)], .func (.func 62) #[] #[.pointer (some ⟨w.heap.size, 0, none⟩)], .func (.func 63) #[] #[.pointer (some ⟨w.heap.size, 0, none⟩)], .func (.func 64) #[] #[.pointer (some ⟨w.heap.size, 0, none⟩)]] := by rw [hW]; have := Blk.new (w.alloc (.cells #[.pointer (some ⟨g, 0, none⟩)] 25)) 43 #[.func (.func 61) #[] #[.pointer (some ⟨w.heap.size, 0, none⟩)], .func (.func 62) #[] #[.pointer (some ⟨w.heap.size, 0, none⟩)], .func (.func 63) #[] #[.pointer (some ⟨w.heap.size, 0, none⟩)], .func (.func 64) #[] #[.pointer (some ⟨w.heap.size, 0, none⟩)]]; simpa using this
  have hk1 := hk (w.heap.size + 1) W (h.grown hb2) hbox (hT.grown hb2) (.inr ⟨_, _, _, hsl, by decide⟩) (fun i hi => by
    match i, hi with
    | 0, _ => exact hsl.cell 0
    | 1, _ => exact hsl.cell 1
    | 2, _ => exact hsl.cell 2
    | 3, _ => exact hsl.cell 3)
  have hL2 := (Lies.new hb2 hB).toV
  have hall : ∀ {e : Ending} {w' : World}, (e = .returned (.int .i64 (runL beginOps D).2) ∧ (DiskAt B w' g (runL beginOps D).1 ∧ Box w' w.heap.size 25 (.pointer (some ⟨g, 0, none⟩)) ∧ Tab w') ∧ LiesV B W w') → e = .returned (.int .i64 D.begin.2) ∧ DiskAt B w' g D.begin.1 ∧ Box w' w.heap.size 25 (.pointer (some ⟨g, 0, none⟩)) ∧ LiesV B w w' ∧ w.heap.size ≤ w'.heap.size := fun ⟨k1, ⟨k2, k3, _⟩, k4⟩ => ⟨k1, k2, k3, hL2.trans k4, (hL2.trans k4).size⟩
  replace hk1 := hk1.mono fun _ _ => hall
  rw [hW] at hk1
  replace hk1 := Lib.hid hk1
  clear hk h hT hok hall hL2 hsl hbox hb2 hW
  generalize D.begin = R at *
  by_cases hz : R.2 = 0
  · have hz0 := Lib.hid hz
    rw [hz] at hk1
    clear hz
    go_enter Tryd.func28, Tryd.ntmps28
    go_wp2_with (go_at_call 29; refine hk1.out.mono ?_; rintro e w1 ⟨rfl, hD1, hx1, hL1, hs1⟩; have c1 := hx1.cell)
    go_ret2
    refine ⟨hL1.trans ((Lies.refl B w1).alloc (by omega) _).toV, hD1.grown ((Below.refl _ _).alloc (Nat.le_refl _) _), .inl ⟨hz0.out, w1.heap.size, rfl, ⟨Blk.new w1 _ _, by omega⟩, hs1⟩⟩
  · have hz' : (R.2 == 0) = false := by rw [beq_eq_false_iff_ne]; exact hz
    have hz0 := Lib.hid hz
    clear hz
    go_enter Tryd.func28, Tryd.ntmps28
    go_wp2_with (go_at_call 29; refine hk1.out.mono ?_; rintro e w1 ⟨rfl, hD1, hx1, hL1, hs1⟩; have c1 := hx1.cell)
    go_ret2
    exact ⟨hL1, hD1, .inr ⟨hz0.out, rfl⟩⟩
end Go.Proofs.YtiidohaibbdgeaaDoor
