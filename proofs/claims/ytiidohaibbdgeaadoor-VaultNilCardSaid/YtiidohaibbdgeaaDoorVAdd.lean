/-
  Records are put behind (Vault.Add).
-/
import Derived.Test.YtiidohaibbdgeaaDoorVMay
namespace Go.Proofs.YtiidohaibbdgeaaDoor
open Go Go.RowKit

theorem Has.mk {l : List (Addr × Value)} {w : World} (h : ∀ p ∈ l, w.cell? p.1 = some p.2) : ∃ x : Has l, w = x.1 := ⟨⟨w, h⟩, rfl⟩
theorem VaultAt.c0 {B : Nat} {w : World} {vg dg : Nat} {V : VaultM} (h : VaultAt B w vg dg V) : w.cell? ⟨vg, 0, none⟩ = some (.pointer (some ⟨dg, 0, none⟩)) := h.1.cell 0
theorem VaultAt.c1 {B : Nat} {w : World} {vg dg : Nat} {V : VaultM} (h : VaultAt B w vg dg V) : w.cell? ⟨vg, 1, none⟩ = some (.int .i64 V.file) := h.1.cell 1
theorem VaultAt.c2 {B : Nat} {w : World} {vg dg : Nat} {V : VaultM} (h : VaultAt B w vg dg V) : w.cell? ⟨vg, 2, none⟩ = some (.int .u64 V.gen) := h.1.cell 2
theorem VaultAt.c3 {B : Nat} {w : World} {vg dg : Nat} {V : VaultM} (h : VaultAt B w vg dg V) : w.cell? ⟨vg, 3, none⟩ = some (.int .i64 V.n) := h.1.cell 3
theorem VaultAt.grown {B : Nat} {w w' : World} {vg dg : Nat} {V : VaultM} (h : VaultAt B w vg dg V) (hb : Below w.heap.size w w') : VaultAt B w' vg dg V := ⟨h.1.below hb h.1.lt, h.2⟩
theorem Box.grown {w w' : World} {b : Nat} {t : TypeId} {v : Value} (h : Box w b t v) (hb : Below w.heap.size w w') : Box w' b t v := ⟨h.1.below hb h.1.lt, h.2⟩

set_option maxRecDepth 100000 in
set_option maxHeartbeats 1000000 in
theorem add1_any (B cnt : Nat) (D : DiskM) (hok : D.ok cnt) (V : VaultM) (vg dg bv bs : Nat) (F : Bs) (sa : Option Addr) (sc : Nat) (hsc : sa = none → sc = 0) (hF : F.length ≤ 70368744177664) (w : World) (h : DiskAt B w dg D) (hv : VaultAt B w vg dg V)
    (hx : Box w bv 29 (.pointer (some ⟨vg, 0, none⟩))) (hs : Box w bs 35 (.slice sa F.length sc)) (hby : BytesAt B w sa F) :
    Calls Tryd.prog 38 #[.pointer (some ⟨bv, 0, none⟩), .pointer (some ⟨bs, 0, none⟩)] w (DiskRet B dg (D.write V.file F) w) := by
  have hk := write_any B cnt D hok dg V.file F sa sc hsc hF w.drew (h.grown ((Below.refl _ _).drew)) (hby.rest ((Lies.refl B w).drew))
  have hcl0 : ∀ wx, VaultAt B wx vg dg V → Box wx bv 29 (.pointer (some ⟨vg, 0, none⟩)) → Box wx bs 35 (.slice sa F.length sc) → ∀ p ∈ [(⟨bv, 0, none⟩, .pointer (some ⟨vg, 0, none⟩)), (⟨vg, 0, none⟩, .pointer (some ⟨dg, 0, none⟩)), (⟨vg, 1, none⟩, .int .i64 V.file), (⟨bs, 0, none⟩, .slice sa F.length sc)], wx.cell? p.1 = some p.2 := fun wx k1 k2 k3 p hp => by
    simp only [List.mem_cons, List.not_mem_nil, or_false] at hp
    rcases hp with rfl | rfl | rfl | rfl
    · exact k2.cell
    · exact k1.c0
    · exact k1.c1
    · exact k3.cell
  obtain ⟨cl, hcl⟩ : ∃ cl : List (Addr × Value), cl = [(⟨bv, 0, none⟩, .pointer (some ⟨vg, 0, none⟩)), (⟨vg, 0, none⟩, .pointer (some ⟨dg, 0, none⟩)), (⟨vg, 1, none⟩, .int .i64 V.file), (⟨bs, 0, none⟩, .slice sa F.length sc)] := ⟨_, rfl⟩
  rw [← hcl] at hcl0
  have z0 := fun z : Has cl => z.cell (a := ⟨bv, 0, none⟩) (v := .pointer (some ⟨vg, 0, none⟩)) (by rw [hcl]; simp)
  have z1 := fun z : Has cl => z.cell (a := ⟨vg, 0, none⟩) (v := .pointer (some ⟨dg, 0, none⟩)) (by rw [hcl]; simp)
  have z2 := fun z : Has cl => z.cell (a := ⟨vg, 1, none⟩) (v := .int .i64 V.file) (by rw [hcl]; simp)
  have z3 := fun z : Has cl => z.cell (a := ⟨bs, 0, none⟩) (v := .slice sa F.length sc) (by rw [hcl]; simp)
  have hS := fun wx k1 k2 k3 => Has.mk (hcl0 wx k1 k2 k3)
  have : Nonempty (Has cl) := (hS w hv hx hs).elim fun x _ => ⟨x⟩
  have hv0 := Lib.hid hv
  have hx0 := Lib.hid hx
  have hs0 := Lib.hid hs
  replace hk := Lib.hid hk
  replace hS := Lib.hid hS
  clear h hok hx hs hv hby hcl0 hcl
  go_enter Tryd.func38, Tryd.ntmps38
  go_upto_region 1 with (fail)
  refine wp_region_ways (S := fun w' => ∃ x : Has cl, w' = x.1) (.one [0, 1, 2, 3, 4, 5, 6, 7, 8] 9 (.last [10])) (by kernel_rfl) (by kernel_rfl) (by intro c a d u w h; cases d <;> exact h) (hS.out w.drew hv0.out hx0.out hs0.out) ?_
  simp only [wpWays, picks, List.getElem?_toArray, List.getElem?_cons_succ, List.getElem?_cons_zero]
  repeat (go_big_quiet_step (fail))
  refine wpQuiet_nil ?_
  refine wpOp_step (by simp only [List.getElem?_toArray, List.getElem?_cons_succ, List.getElem?_cons_zero]; rfl) (fun K hK => ?_)
  go_simp
  refine hk.out.mono ?_
  rintro e w2 ⟨rfl, hD2, hL2⟩
  refine hK _ _ ⟨hS.out _ (hv0.out.lies ((Lies.refl B w).drew.trans hL2)) (hx0.out.lies ((Lies.refl B w).drew.trans hL2)) (hs0.out.lies ((Lies.refl B w).drew.trans hL2)), ?_⟩
  clear hK K
  repeat (go_big_quiet_step (fail))
  refine wpQuiet_nil ?_
  go_wp2_with (fail)
  go_ret
  exact ⟨rfl, hD2, (Lies.refl B w).drew.trans hL2⟩

set_option maxRecDepth 100000 in
set_option maxHeartbeats 1000000 in
theorem add2_any (B cnt : Nat) (D : DiskM) (hok : D.ok cnt) (V : VaultM) (vg dg bv : Nat) (w : World) (h : DiskAt B w dg D) (hv : VaultAt B w vg dg V)
    (hx : Box w bv 29 (.pointer (some ⟨vg, 0, none⟩))) :
    Calls Tryd.prog 39 #[.pointer (some ⟨bv, 0, none⟩)] w (DiskRet B dg (D.sync V.file) w) := by
  have hk := sync_any B cnt D hok dg V.file w.drew (h.grown ((Below.refl _ _).drew))
  have hcl0 : ∀ wx, VaultAt B wx vg dg V → Box wx bv 29 (.pointer (some ⟨vg, 0, none⟩)) → ∀ p ∈ [(⟨bv, 0, none⟩, .pointer (some ⟨vg, 0, none⟩)), (⟨vg, 0, none⟩, .pointer (some ⟨dg, 0, none⟩)), (⟨vg, 1, none⟩, .int .i64 V.file)], wx.cell? p.1 = some p.2 := fun wx k1 k2 p hp => by
    simp only [List.mem_cons, List.not_mem_nil, or_false] at hp
    rcases hp with rfl | rfl | rfl
    · exact k2.cell
    · exact k1.c0
    · exact k1.c1
  obtain ⟨cl, hcl⟩ : ∃ cl : List (Addr × Value), cl = [(⟨bv, 0, none⟩, .pointer (some ⟨vg, 0, none⟩)), (⟨vg, 0, none⟩, .pointer (some ⟨dg, 0, none⟩)), (⟨vg, 1, none⟩, .int .i64 V.file)] := ⟨_, rfl⟩
  rw [← hcl] at hcl0
  have z0 := fun z : Has cl => z.cell (a := ⟨bv, 0, none⟩) (v := .pointer (some ⟨vg, 0, none⟩)) (by rw [hcl]; simp)
  have z1 := fun z : Has cl => z.cell (a := ⟨vg, 0, none⟩) (v := .pointer (some ⟨dg, 0, none⟩)) (by rw [hcl]; simp)
  have z2 := fun z : Has cl => z.cell (a := ⟨vg, 1, none⟩) (v := .int .i64 V.file) (by rw [hcl]; simp)
  have hS := fun wx k1 k2 => Has.mk (hcl0 wx k1 k2)
  have : Nonempty (Has cl) := (hS w hv hx).elim fun x _ => ⟨x⟩
  have hv0 := Lib.hid hv
  have hx0 := Lib.hid hx
  replace hk := Lib.hid hk
  replace hS := Lib.hid hS
  clear h hok hx hv hcl0 hcl
  go_enter Tryd.func39, Tryd.ntmps39
  go_upto_region 1 with (fail)
  refine wp_region_ways (S := fun w' => ∃ x : Has cl, w' = x.1) (.one [0, 1, 2, 3, 4, 5, 6, 7] 8 (.last [9])) (by kernel_rfl) (by kernel_rfl) (by intro c a d u w h; cases d <;> exact h) (hS.out w.drew hv0.out hx0.out) ?_
  simp only [wpWays, picks, List.getElem?_toArray, List.getElem?_cons_succ, List.getElem?_cons_zero]
  repeat (go_big_quiet_step (fail))
  refine wpQuiet_nil ?_
  refine wpOp_step (by simp only [List.getElem?_toArray, List.getElem?_cons_succ, List.getElem?_cons_zero]; rfl) (fun K hK => ?_)
  go_simp
  refine hk.out.mono ?_
  rintro e w2 ⟨rfl, hD2, hL2⟩
  refine hK _ _ ⟨hS.out _ (hv0.out.lies ((Lies.refl B w).drew.trans hL2)) (hx0.out.lies ((Lies.refl B w).drew.trans hL2)), ?_⟩
  clear hK K
  repeat (go_big_quiet_step (fail))
  refine wpQuiet_nil ?_
  go_wp2_with (fail)
  go_ret
  exact ⟨rfl, hD2, (Lies.refl B w).drew.trans hL2⟩

theorem ChgAt.restV {B : Nat} {w w' : World} {c : Chg} {v : Value} (h : ChgAt B w c v) (hr : LiesV B w w') : ChgAt B w' c v := by
  cases c with
  | wr x =>
    obtain ⟨a, cap, hv, h1, h2, h3, h4⟩ := h
    exact ⟨a, cap, hv, h1, h2, h3, h4.restV hr⟩
  | cut n => exact h
theorem ChgsAt.restV {B : Nat} {w w' : World} : ∀ {cs : List Chg} {vs : List Value}, ChgsAt B w cs vs → LiesV B w w' → ChgsAt B w' cs vs
  | [], [], _, _ => trivial
  | _ :: _, _ :: _, ⟨h, hs⟩, hr => ⟨h.restV hr, ChgsAt.restV hs hr⟩
/-- A vault's cell has turned: no disk has. -/
theorem FileAt.vault {B : Nat} {w : World} {vg dg : Nat} {V : VaultM} {F : FileM} {vs vl : Value} (hf : FileAt B w F vs vl) (h : VaultAt B w vg dg V) (i : Nat) (u : Value) : FileAt B (w.setCell ⟨vg, i, none⟩ u) F vs vl := by
  have hl := h.liesV i u
  obtain ⟨⟨a, cap, h1, h2, h3, h4, h5⟩, xs, h6, h7⟩ := hf
  refine ⟨⟨a, cap, h1, h2, h3, h4, h5.restV hl⟩, xs, owns_same h6 fun r hr => ?_, h7.restV hl⟩
  obtain ⟨cur, hh, _⟩ := owns_block h6 hr
  exact Below.heap_setCell w ⟨vg, i, none⟩ u r (fun e => type_ne h.1 hh (by decide) e.symm)
theorem DiskAt.vault {B : Nat} {w : World} {vg dg g : Nat} {V : VaultM} {D : DiskM} (hd : DiskAt B w g D) (h : VaultAt B w vg dg V) (i : Nat) (u : Value) : DiskAt B (w.setCell ⟨vg, i, none⟩ u) g D := by
  obtain ⟨v0, l0, v1, l1, h1, h2, h3, h4, h5⟩ := hd
  exact ⟨v0, l0, v1, l1, h1.far (fun e => type_ne h1 h.1 (by decide) e) u, h2, h3.vault h i u, h4.vault h i u, h5⟩
theorem VaultAt.setN {B : Nat} {w : World} {vg dg : Nat} {V : VaultM} (h : VaultAt B w vg dg V) (n : Nat) : VaultAt B (w.setCell ⟨vg, 3, none⟩ (.int .i64 (n : Nat))) vg dg { V with n := n } := ⟨h.1.set 3 _, h.2⟩
theorem VaultAt.setBroken {B : Nat} {w : World} {vg dg : Nat} {V : VaultM} (h : VaultAt B w vg dg V) (b : Bool) : VaultAt B (w.setCell ⟨vg, 4, none⟩ (.bool b)) vg dg { V with broken := b } := ⟨h.1.set 4 _, h.2⟩
theorem DiskAt.drew {B : Nat} {w : World} {g : Nat} {D : DiskM} (h : DiskAt B w g D) : DiskAt B w.drew g D := h.grown ((Below.refl _ _).drew)

set_option maxRecDepth 100000 in
set_option maxHeartbeats 1000000 in
theorem add3_any (B : Nat) (D : DiskM) (V : VaultM) (vg dg bv bl m : Nat) (a : Option Addr) (c : Nat) (hm : V.n + m ≤ 9223372036854775807) (w : World) (h : DiskAt B w dg D) (hv : VaultAt B w vg dg V)
    (hx : Box w bv 29 (.pointer (some ⟨vg, 0, none⟩))) (hs : Box w bl 30 (.slice a m c)) :
    Calls Tryd.prog 40 #[.pointer (some ⟨bv, 0, none⟩), .pointer (some ⟨bl, 0, none⟩)] w fun e w' => e = .returned (.int .i64 0) ∧ DiskAt B w' dg D ∧ VaultAt B w' vg dg { V with n := V.n + m } ∧ LiesV B w w' := by
  have hd := (Lies.refl B w).drew
  have f1 := (h.drew).vault (hv.lies hd) 3 (.int .i64 ((V.n + m : Nat) : Int))
  have f2 := (hv.lies hd).setN (V.n + m)
  have f3 := hd.toV.trans ((hv.lies hd).liesV 3 (.int .i64 ((V.n + m : Nat) : Int)))
  have hw0 : IntKind.i64.wrap ((V.n : Int) + (m : Int)) = ((V.n + m : Nat) : Int) := by rw [IntWalk.i64_in _ (by omega)]; omega
  have c0 := hx.cell
  have c1 := hs.cell
  have c2 := hv.c3
  have c3 := hv.1.free 3
  replace f1 := Lib.hid f1
  replace f2 := Lib.hid f2
  replace f3 := Lib.hid f3
  clear h hv hx hs hd
  go_enter Tryd.func40, Tryd.ntmps40
  go_wp2
  go_region
  all_goals
    go_wp2
    go_ret
    exact ⟨rfl, f1.out, f2.out, f3.out⟩

/-- What Add, Compact hand back. -/
def VaultRet (B vg dg : Nat) (r : DV × Int) (w : World) (e : Ending) (w' : World) : Prop := e = .returned (.int .i64 r.2) ∧ DiskAt B w' dg r.1.1 ∧ VaultAt B w' vg dg r.1.2 ∧ LiesV B w w'
end Go.Proofs.YtiidohaibbdgeaaDoor
