/-
  What Compact does, one thing after the other (its closures).
-/
import Derived.Test.YtiidohaibbdgeaaDoorVAdd2
import Derived.BigRegion
namespace Go.Proofs.YtiidohaibbdgeaaDoor
open Go Go.RowKit

set_option maxRecDepth 100000 in
set_option maxHeartbeats 1000000 in
theorem comp1_any (B cnt : Nat) (D : DiskM) (hok : D.ok cnt) (V : VaultM) (vg dg bv bo : Nat) (o : Nat) (w : World) (h : DiskAt B w dg D) (hvt : VaultAt B w vg dg V)
    (hv : Box w bv 29 (.pointer (some ⟨vg, 0, none⟩))) (ho : Box w bo 3 (.int .i64 o)) :
    Calls Tryd.prog 42 #[.pointer (some ⟨bv, 0, none⟩), .pointer (some ⟨bo, 0, none⟩)] w (DiskRet B dg (D.vcut o 0) w) := by
  have hk := vcut_any B cnt D hok dg o 0 (by omega) w.drew h.drew
  have hcl0 : ∀ wx, VaultAt B wx vg dg V → Box wx bv 29 (.pointer (some ⟨vg, 0, none⟩)) → Box wx bo 3 (.int .i64 o) → ∀ p ∈ [(⟨bv, 0, none⟩, .pointer (some ⟨vg, 0, none⟩)), (⟨bo, 0, none⟩, .int .i64 o), (⟨vg, 0, none⟩, .pointer (some ⟨dg, 0, none⟩))], wx.cell? p.1 = some p.2 := fun wx kV kv ko p hp => by
    simp only [List.mem_cons, List.not_mem_nil, or_false] at hp
    rcases hp with rfl | rfl | rfl
    · exact kv.cell
    · exact ko.cell
    · exact kV.c0
  obtain ⟨cl, hcl⟩ : ∃ cl : List (Addr × Value), cl = [(⟨bv, 0, none⟩, .pointer (some ⟨vg, 0, none⟩)), (⟨bo, 0, none⟩, .int .i64 o), (⟨vg, 0, none⟩, .pointer (some ⟨dg, 0, none⟩))] := ⟨_, rfl⟩
  rw [← hcl] at hcl0
  have z0 := fun z : Has cl => z.cell (a := ⟨bv, 0, none⟩) (v := .pointer (some ⟨vg, 0, none⟩)) (by rw [hcl]; simp)
  have z1 := fun z : Has cl => z.cell (a := ⟨bo, 0, none⟩) (v := .int .i64 o) (by rw [hcl]; simp)
  have z2 := fun z : Has cl => z.cell (a := ⟨vg, 0, none⟩) (v := .pointer (some ⟨dg, 0, none⟩)) (by rw [hcl]; simp)
  have hS := fun wx kV kv ko => Has.mk (hcl0 wx kV kv ko)
  have : Nonempty (Has cl) := (hS w hvt hv ho).elim fun x _ => ⟨x⟩
  have hvt0 := Lib.hid hvt
  have hv0 := Lib.hid hv
  have ho0 := Lib.hid ho
  replace hk := Lib.hid hk
  replace hS := Lib.hid hS
  clear h hok hvt hv ho hcl0 hcl
  go_enter Tryd.func42, Tryd.ntmps42
  go_upto_region 1 with (fail)
  refine wp_region_ways (S := fun w' => ∃ x : Has cl, w' = x.1) (.one [0, 1, 2, 3, 4] 5 (.last [6])) (by kernel_rfl) (by kernel_rfl) (by intro c a d u w h; cases d <;> exact h) (hS.out w.drew hvt0.out hv0.out ho0.out) ?_
  simp only [wpWays, picks, List.getElem?_toArray, List.getElem?_cons_succ, List.getElem?_cons_zero]
  repeat (go_big_quiet_step (fail))
  refine wpQuiet_nil ?_
  refine wpOp_step (by simp only [List.getElem?_toArray, List.getElem?_cons_succ, List.getElem?_cons_zero]; rfl) (fun K hK => ?_)
  go_simp
  refine hk.out.mono ?_
  rintro e w2 ⟨rfl, hD2, hL2⟩
  refine hK _ _ ⟨hS.out _ (hvt0.out.lies ((Lies.refl B w).drew.trans hL2)) (hv0.out.lies ((Lies.refl B w).drew.trans hL2)) (ho0.out.lies ((Lies.refl B w).drew.trans hL2)), ?_⟩
  clear hK K
  repeat (go_big_quiet_step (fail))
  refine wpQuiet_nil ?_
  go_wp2_with (fail)
  go_ret
  exact ⟨rfl, hD2, (Lies.refl B w).drew.trans hL2⟩

set_option maxRecDepth 100000 in
set_option maxHeartbeats 1000000 in
theorem comp2_any (B cnt : Nat) (D : DiskM) (hok : D.ok cnt) (V : VaultM) (vg dg bv bo bs : Nat) (o : Nat) (F : Bs) (sa : Option Addr) (sc : Nat) (hsc : sa = none → sc = 0) (hF : F.length ≤ 70368744177664) (w : World) (h : DiskAt B w dg D) (hvt : VaultAt B w vg dg V)
    (hv : Box w bv 29 (.pointer (some ⟨vg, 0, none⟩))) (ho : Box w bo 3 (.int .i64 o)) (hs : Box w bs 35 (.slice sa F.length sc)) (hby : BytesAt B w sa F) :
    Calls Tryd.prog 43 #[.pointer (some ⟨bv, 0, none⟩), .pointer (some ⟨bo, 0, none⟩), .pointer (some ⟨bs, 0, none⟩)] w (DiskRet B dg (D.write o F) w) := by
  have hk := write_any B cnt D hok dg o F sa sc hsc hF w.drew h.drew (hby.rest ((Lies.refl B w).drew))
  have hcl0 : ∀ wx, VaultAt B wx vg dg V → Box wx bv 29 (.pointer (some ⟨vg, 0, none⟩)) → Box wx bo 3 (.int .i64 o) → Box wx bs 35 (.slice sa F.length sc) → ∀ p ∈ [(⟨bv, 0, none⟩, .pointer (some ⟨vg, 0, none⟩)), (⟨bo, 0, none⟩, .int .i64 o), (⟨bs, 0, none⟩, .slice sa F.length sc), (⟨vg, 0, none⟩, .pointer (some ⟨dg, 0, none⟩))], wx.cell? p.1 = some p.2 := fun wx kV kv ko ks p hp => by
    simp only [List.mem_cons, List.not_mem_nil, or_false] at hp
    rcases hp with rfl | rfl | rfl | rfl
    · exact kv.cell
    · exact ko.cell
    · exact ks.cell
    · exact kV.c0
  obtain ⟨cl, hcl⟩ : ∃ cl : List (Addr × Value), cl = [(⟨bv, 0, none⟩, .pointer (some ⟨vg, 0, none⟩)), (⟨bo, 0, none⟩, .int .i64 o), (⟨bs, 0, none⟩, .slice sa F.length sc), (⟨vg, 0, none⟩, .pointer (some ⟨dg, 0, none⟩))] := ⟨_, rfl⟩
  rw [← hcl] at hcl0
  have z0 := fun z : Has cl => z.cell (a := ⟨bv, 0, none⟩) (v := .pointer (some ⟨vg, 0, none⟩)) (by rw [hcl]; simp)
  have z1 := fun z : Has cl => z.cell (a := ⟨bo, 0, none⟩) (v := .int .i64 o) (by rw [hcl]; simp)
  have z2 := fun z : Has cl => z.cell (a := ⟨bs, 0, none⟩) (v := .slice sa F.length sc) (by rw [hcl]; simp)
  have z3 := fun z : Has cl => z.cell (a := ⟨vg, 0, none⟩) (v := .pointer (some ⟨dg, 0, none⟩)) (by rw [hcl]; simp)
  have hS := fun wx kV kv ko ks => Has.mk (hcl0 wx kV kv ko ks)
  have : Nonempty (Has cl) := (hS w hvt hv ho hs).elim fun x _ => ⟨x⟩
  have hvt0 := Lib.hid hvt
  have hv0 := Lib.hid hv
  have ho0 := Lib.hid ho
  have hs0 := Lib.hid hs
  replace hk := Lib.hid hk
  replace hS := Lib.hid hS
  clear h hok hvt hv ho hs hcl0 hcl hby
  go_enter Tryd.func43, Tryd.ntmps43
  go_upto_region 1 with (fail)
  refine wp_region_ways (S := fun w' => ∃ x : Has cl, w' = x.1) (.one [0, 1, 2, 3, 4, 5] 6 (.last [7])) (by kernel_rfl) (by kernel_rfl) (by intro c a d u w h; cases d <;> exact h) (hS.out w.drew hvt0.out hv0.out ho0.out hs0.out) ?_
  simp only [wpWays, picks, List.getElem?_toArray, List.getElem?_cons_succ, List.getElem?_cons_zero]
  repeat (go_big_quiet_step (fail))
  refine wpQuiet_nil ?_
  refine wpOp_step (by simp only [List.getElem?_toArray, List.getElem?_cons_succ, List.getElem?_cons_zero]; rfl) (fun K hK => ?_)
  go_simp
  refine hk.out.mono ?_
  rintro e w2 ⟨rfl, hD2, hL2⟩
  refine hK _ _ ⟨hS.out _ (hvt0.out.lies ((Lies.refl B w).drew.trans hL2)) (hv0.out.lies ((Lies.refl B w).drew.trans hL2)) (ho0.out.lies ((Lies.refl B w).drew.trans hL2)) (hs0.out.lies ((Lies.refl B w).drew.trans hL2)), ?_⟩
  clear hK K
  repeat (go_big_quiet_step (fail))
  refine wpQuiet_nil ?_
  go_wp2_with (fail)
  go_ret
  exact ⟨rfl, hD2, (Lies.refl B w).drew.trans hL2⟩

set_option maxRecDepth 100000 in
set_option maxHeartbeats 1000000 in
theorem comp3_any (B cnt : Nat) (D : DiskM) (hok : D.ok cnt) (V : VaultM) (vg dg bv bo : Nat) (o : Nat) (w : World) (h : DiskAt B w dg D) (hvt : VaultAt B w vg dg V)
    (hv : Box w bv 29 (.pointer (some ⟨vg, 0, none⟩))) (ho : Box w bo 3 (.int .i64 o)) :
    Calls Tryd.prog 44 #[.pointer (some ⟨bv, 0, none⟩), .pointer (some ⟨bo, 0, none⟩)] w (DiskRet B dg (D.sync o) w) := by
  have hk := sync_any B cnt D hok dg o w.drew h.drew
  have hcl0 : ∀ wx, VaultAt B wx vg dg V → Box wx bv 29 (.pointer (some ⟨vg, 0, none⟩)) → Box wx bo 3 (.int .i64 o) → ∀ p ∈ [(⟨bv, 0, none⟩, .pointer (some ⟨vg, 0, none⟩)), (⟨bo, 0, none⟩, .int .i64 o), (⟨vg, 0, none⟩, .pointer (some ⟨dg, 0, none⟩))], wx.cell? p.1 = some p.2 := fun wx kV kv ko p hp => by
    simp only [List.mem_cons, List.not_mem_nil, or_false] at hp
    rcases hp with rfl | rfl | rfl
    · exact kv.cell
    · exact ko.cell
    · exact kV.c0
  obtain ⟨cl, hcl⟩ : ∃ cl : List (Addr × Value), cl = [(⟨bv, 0, none⟩, .pointer (some ⟨vg, 0, none⟩)), (⟨bo, 0, none⟩, .int .i64 o), (⟨vg, 0, none⟩, .pointer (some ⟨dg, 0, none⟩))] := ⟨_, rfl⟩
  rw [← hcl] at hcl0
  have z0 := fun z : Has cl => z.cell (a := ⟨bv, 0, none⟩) (v := .pointer (some ⟨vg, 0, none⟩)) (by rw [hcl]; simp)
  have z1 := fun z : Has cl => z.cell (a := ⟨bo, 0, none⟩) (v := .int .i64 o) (by rw [hcl]; simp)
  have z2 := fun z : Has cl => z.cell (a := ⟨vg, 0, none⟩) (v := .pointer (some ⟨dg, 0, none⟩)) (by rw [hcl]; simp)
  have hS := fun wx kV kv ko => Has.mk (hcl0 wx kV kv ko)
  have : Nonempty (Has cl) := (hS w hvt hv ho).elim fun x _ => ⟨x⟩
  have hvt0 := Lib.hid hvt
  have hv0 := Lib.hid hv
  have ho0 := Lib.hid ho
  replace hk := Lib.hid hk
  replace hS := Lib.hid hS
  clear h hok hvt hv ho hcl0 hcl
  go_enter Tryd.func44, Tryd.ntmps44
  go_upto_region 1 with (fail)
  refine wp_region_ways (S := fun w' => ∃ x : Has cl, w' = x.1) (.one [0, 1, 2, 3, 4] 5 (.last [6])) (by kernel_rfl) (by kernel_rfl) (by intro c a d u w h; cases d <;> exact h) (hS.out w.drew hvt0.out hv0.out ho0.out) ?_
  simp only [wpWays, picks, List.getElem?_toArray, List.getElem?_cons_succ, List.getElem?_cons_zero]
  repeat (go_big_quiet_step (fail))
  refine wpQuiet_nil ?_
  refine wpOp_step (by simp only [List.getElem?_toArray, List.getElem?_cons_succ, List.getElem?_cons_zero]; rfl) (fun K hK => ?_)
  go_simp
  refine hk.out.mono ?_
  rintro e w2 ⟨rfl, hD2, hL2⟩
  refine hK _ _ ⟨hS.out _ (hvt0.out.lies ((Lies.refl B w).drew.trans hL2)) (hv0.out.lies ((Lies.refl B w).drew.trans hL2)) (ho0.out.lies ((Lies.refl B w).drew.trans hL2)), ?_⟩
  clear hK K
  repeat (go_big_quiet_step (fail))
  refine wpQuiet_nil ?_
  go_wp2_with (fail)
  go_ret
  exact ⟨rfl, hD2, (Lies.refl B w).drew.trans hL2⟩

set_option maxRecDepth 100000 in
set_option maxHeartbeats 1000000 in
theorem comp4_any (B cnt : Nat) (D : DiskM) (hok : D.ok cnt) (V : VaultM) (vg dg bv : Nat) (w : World) (h : DiskAt B w dg D) (hvt : VaultAt B w vg dg V)
    (hv : Box w bv 29 (.pointer (some ⟨vg, 0, none⟩))) :
    Calls Tryd.prog 45 #[.pointer (some ⟨bv, 0, none⟩)] w (DiskRet B dg (D.cut V.file 0) w) := by
  have hk := cut_any B cnt D hok dg V.file 0 (by omega) w.drew h.drew
  have hcl0 : ∀ wx, VaultAt B wx vg dg V → Box wx bv 29 (.pointer (some ⟨vg, 0, none⟩)) → ∀ p ∈ [(⟨bv, 0, none⟩, .pointer (some ⟨vg, 0, none⟩)), (⟨vg, 0, none⟩, .pointer (some ⟨dg, 0, none⟩)), (⟨vg, 1, none⟩, .int .i64 V.file)], wx.cell? p.1 = some p.2 := fun wx kV kv p hp => by
    simp only [List.mem_cons, List.not_mem_nil, or_false] at hp
    rcases hp with rfl | rfl | rfl
    · exact kv.cell
    · exact kV.c0
    · exact kV.c1
  obtain ⟨cl, hcl⟩ : ∃ cl : List (Addr × Value), cl = [(⟨bv, 0, none⟩, .pointer (some ⟨vg, 0, none⟩)), (⟨vg, 0, none⟩, .pointer (some ⟨dg, 0, none⟩)), (⟨vg, 1, none⟩, .int .i64 V.file)] := ⟨_, rfl⟩
  rw [← hcl] at hcl0
  have z0 := fun z : Has cl => z.cell (a := ⟨bv, 0, none⟩) (v := .pointer (some ⟨vg, 0, none⟩)) (by rw [hcl]; simp)
  have z1 := fun z : Has cl => z.cell (a := ⟨vg, 0, none⟩) (v := .pointer (some ⟨dg, 0, none⟩)) (by rw [hcl]; simp)
  have z2 := fun z : Has cl => z.cell (a := ⟨vg, 1, none⟩) (v := .int .i64 V.file) (by rw [hcl]; simp)
  have hS := fun wx kV kv => Has.mk (hcl0 wx kV kv)
  have : Nonempty (Has cl) := (hS w hvt hv).elim fun x _ => ⟨x⟩
  have hvt0 := Lib.hid hvt
  have hv0 := Lib.hid hv
  replace hk := Lib.hid hk
  replace hS := Lib.hid hS
  clear h hok hvt hv hcl0 hcl
  go_enter Tryd.func45, Tryd.ntmps45
  go_upto_region 1 with (fail)
  refine wp_region_ways (S := fun w' => ∃ x : Has cl, w' = x.1) (.one [0, 1, 2, 3, 4, 5, 6, 7] 8 (.last [9])) (by kernel_rfl) (by kernel_rfl) (by intro c a d u w h; cases d <;> exact h) (hS.out w.drew hvt0.out hv0.out) ?_
  simp only [wpWays, picks, List.getElem?_toArray, List.getElem?_cons_succ, List.getElem?_cons_zero]
  repeat (go_big_quiet_step (fail))
  refine wpQuiet_nil ?_
  refine wpOp_step (by simp only [List.getElem?_toArray, List.getElem?_cons_succ, List.getElem?_cons_zero]; rfl) (fun K hK => ?_)
  go_simp
  refine hk.out.mono ?_
  rintro e w2 ⟨rfl, hD2, hL2⟩
  refine hK _ _ ⟨hS.out _ (hvt0.out.lies ((Lies.refl B w).drew.trans hL2)) (hv0.out.lies ((Lies.refl B w).drew.trans hL2)), ?_⟩
  clear hK K
  repeat (go_big_quiet_step (fail))
  refine wpQuiet_nil ?_
  go_wp2_with (fail)
  go_ret
  exact ⟨rfl, hD2, (Lies.refl B w).drew.trans hL2⟩

theorem VaultAt.setAll {B : Nat} {w : World} {vg dg : Nat} {V : VaultM} (h : VaultAt B w vg dg V) (o g n : Nat) : VaultAt B (((w.setCell ⟨vg, 1, none⟩ (.int .i64 o)).setCell ⟨vg, 2, none⟩ (.int .u64 g)).setCell ⟨vg, 3, none⟩ (.int .i64 n)) vg dg { V with file := o, gen := g, n := n } :=
  ⟨((h.1.set 1 _).set 2 _).set 3 _, h.2⟩
theorem VaultAt.setFile {B : Nat} {w : World} {vg dg : Nat} {V : VaultM} (h : VaultAt B w vg dg V) (o : Nat) : VaultAt B (w.setCell ⟨vg, 1, none⟩ (.int .i64 o)) vg dg { V with file := o } := ⟨h.1.set 1 _, h.2⟩
theorem VaultAt.setGen {B : Nat} {w : World} {vg dg : Nat} {V : VaultM} (h : VaultAt B w vg dg V) (o : Nat) : VaultAt B (w.setCell ⟨vg, 2, none⟩ (.int .u64 o)) vg dg { V with gen := o } := ⟨h.1.set 2 _, h.2⟩

set_option maxRecDepth 100000 in
set_option maxHeartbeats 1000000 in
theorem comp5_any (B : Nat) (D : DiskM) (V : VaultM) (vg dg bv bo bl o m : Nat) (a : Option Addr) (c : Nat) (hg : V.gen + 1 ≤ 18446744073709551615) (_hm : m ≤ 9223372036854775807) (w : World) (h : DiskAt B w dg D) (hv : VaultAt B w vg dg V)
    (hx : Box w bv 29 (.pointer (some ⟨vg, 0, none⟩))) (ho : Box w bo 3 (.int .i64 o)) (hs : Box w bl 30 (.slice a m c)) :
    Calls Tryd.prog 46 #[.pointer (some ⟨bo, 0, none⟩), .pointer (some ⟨bv, 0, none⟩), .pointer (some ⟨bl, 0, none⟩)] w fun e w' => e = .returned (.int .i64 0) ∧ DiskAt B w' dg D ∧ VaultAt B w' vg dg { V with file := o, gen := V.gen + 1, n := m } ∧ LiesV B w w' := by
  have hd := (Lies.refl B w).drew
  have v0 := hv.lies hd
  have v1 := v0.setFile o
  have v2 := v1.setGen (V.gen + 1)
  have f1 := ((h.drew.vault v0 1 (.int .i64 o)).vault v1 2 (.int .u64 ((V.gen + 1 : Nat) : Int))).vault v2 3 (.int .i64 m)
  have f2 := v0.setAll o (V.gen + 1) m
  have f3 := ((hd.toV.trans (v0.liesV 1 (.int .i64 o))).trans (v1.liesV 2 (.int .u64 ((V.gen + 1 : Nat) : Int)))).trans (v2.liesV 3 (.int .i64 m))
  have hw0 : IntKind.u64.wrap ((V.gen : Int) + 1) = ((V.gen + 1 : Nat) : Int) := by rw [IntWalk.u64_in _ (by omega)]; omega
  have c0 := hx.cell
  have c1 := hs.cell
  have c2 := ho.cell
  have d1 := hv.c1
  have d2 := hv.c2
  have d3 := hv.c3
  have e1 := hv.1.free 1
  have e2 := hv.1.free 2
  have e3 := hv.1.free 3
  replace f1 := Lib.hid f1
  replace f2 := Lib.hid f2
  replace f3 := Lib.hid f3
  clear h hv hx hs hd ho v0 v1 v2
  go_enter Tryd.func46, Tryd.ntmps46
  go_wp2
  go_region
  all_goals
    go_wp2
    go_ret
    exact ⟨rfl, f1.out, f2.out, f3.out⟩
end Go.Proofs.YtiidohaibbdgeaaDoor
