/-
  Records are put behind (Vault.Add), whole.
-/
import Derived.Test.YtiidohaibbdgeaaDoorVMay
namespace Go.Proofs.YtiidohaibbdgeaaDoor
open Go Go.RowKit

theorem Has.mk {l : List (Addr × Value)} {w : World} (h : ∀ p ∈ l, w.cell? p.1 = some p.2) : ∃ x : Has l, w = x.1 := ⟨⟨w, h⟩, rfl⟩
theorem VaultAt.c0 {B : Nat} {w : World} {vg dg : Nat} {V : VaultM} (h : VaultAt B w vg dg V) : w.cell? ⟨vg, 0, none⟩ = some (.pointer (some ⟨dg, 0, none⟩)) := h.1.cell 0
theorem VaultAt.c1 {B : Nat} {w : World} {vg dg : Nat} {V : VaultM} (h : VaultAt B w vg dg V) : w.cell? ⟨vg, 1, none⟩ = some (.int .i64 V.file) := h.1.cell 1
theorem VaultAt.c2 {B : Nat} {w : World} {vg dg : Nat} {V : VaultM} (h : VaultAt B w vg dg V) : w.cell? ⟨vg, 2, none⟩ = some (.int .u64 V.gen) := h.1.cell 2
theorem VaultAt.c3 {B : Nat} {w : World} {vg dg : Nat} {V : VaultM} (h : VaultAt B w vg dg V) : w.cell? ⟨vg, 3, none⟩ = some (.int .i64 V.n) := h.1.cell 3
theorem VaultAt.grown {B : Nat} {w w' : World} {vg dg : Nat} {V : VaultM} (h : VaultAt B w vg dg V) (hb : Below w.heap.size w w') : VaultAt B w' vg dg V := ⟨h.1.below hb h.1.lt, h.2⟩
theorem Box.grown {w w' : World} {b : Nat} {t : TypeId} {v : Value} (h : Box w b t v) (hb : Below w.heap.size w w') : Box w' b t v := ⟨h.1.below hb h.1.lt, h.2⟩

set_option maxRecDepth 100000 in
set_option maxHeartbeats 1000000 in
theorem add1_any (B cnt : Nat) (D : DiskM) (hok : D.ok cnt) (V : VaultM) (vg dg bv bs : Nat) (F : Bs) (sa : Option Addr) (sc : Nat) (hsc : sa = none → sc = 0) (hF : F.length ≤ 70368744177664) (w : World) (h : DiskAt B w dg D) (hv : VaultAt B w vg dg V)
    (hx : Box w bv 29 (.pointer (some ⟨vg, 0, none⟩))) (hs : Box w bs 35 (.slice sa F.length sc)) (hby : BytesAt B w sa F) :
    Calls Tryd.prog 38 #[.pointer (some ⟨bv, 0, none⟩), .pointer (some ⟨bs, 0, none⟩)] w (DiskRet B dg (D.write V.file F) w) := by
  have hk := write_any B cnt D hok dg V.file F sa sc hsc hF w.drew (h.grown ((Below.refl _ _).drew)) (hby.rest ((Lies.refl B w).drew))
  have hcl0 : ∀ wx, VaultAt B wx vg dg V → Box wx bv 29 (.pointer (some ⟨vg, 0, none⟩)) → Box wx bs 35 (.slice sa F.length sc) → ∀ p ∈ [(⟨bv, 0, none⟩, .pointer (some ⟨vg, 0, none⟩)), (⟨vg, 0, none⟩, .pointer (some ⟨dg, 0, none⟩)), (⟨vg, 1, none⟩, .int .i64 V.file), (⟨bs, 0, none⟩, .slice sa F.length sc)], wx.cell? p.1 = some p.2 := fun wx k1 k2 k3 p hp => by
    simp only [List.mem_cons, List.not_mem_nil, or_false] at hp
    rcases hp with rfl | rfl | rfl | rfl
    · exact k2.cell
    · exact k1.c0
    · exact k1.c1
    · exact k3.cell
  obtain ⟨cl, hcl⟩ : ∃ cl : List (Addr × Value), cl = [(⟨bv, 0, none⟩, .pointer (some ⟨vg, 0, none⟩)), (⟨vg, 0, none⟩, .pointer (some ⟨dg, 0, none⟩)), (⟨vg, 1, none⟩, .int .i64 V.file), (⟨bs, 0, none⟩, .slice sa F.length sc)] := ⟨_, rfl⟩
  rw [← hcl] at hcl0
  have z0 := fun z : Has cl => z.cell (a := ⟨bv, 0, none⟩) (v := .pointer (some ⟨vg, 0, none⟩)) (by rw [hcl]; simp)
  have z1 := fun z : Has cl => z.cell (a := ⟨vg, 0, none⟩) (v := .pointer (some ⟨dg, 0, none⟩)) (by rw [hcl]; simp)
  have z2 := fun z : Has cl => z.cell (a := ⟨vg, 1, none⟩) (v := .int .i64 V.file) (by rw [hcl]; simp)
  have z3 := fun z : Has cl => z.cell (a := ⟨bs, 0, none⟩) (v := .slice sa F.length sc) (by rw [hcl]; simp)
  have hS := fun wx k1 k2 k3 => Has.mk (hcl0 wx k1 k2 k3)
  have : Nonempty (Has cl) := (hS w hv hx hs).elim fun x _ => ⟨x⟩
  have hv0 := Lib.hid hv
  have hx0 := Lib.hid hx
  have hs0 := Lib.hid hs
  replace hk := Lib.hid hk
  replace hS := Lib.hid hS
  clear h hok hx hs hv hby hcl0 hcl
  go_enter Tryd.func38, Tryd.ntmps38
  go_upto_region 1 with (fail)
  refine wp_region_ways (S := fun w' => ∃ x : Has cl, w' = x.1) (.one [0, 1, 2, 3, 4, 5, 6, 7, 8] 9 (.last [10])) (by kernel_rfl) (by kernel_rfl) (by intro c a d u w h; cases d <;> exact h) (hS.out w.drew hv0.out hx0.out hs0.out) ?_
  simp only [wpWays, picks, List.getElem?_toArray, List.getElem?_cons_succ, List.getElem?_cons_zero]
  repeat (go_big_quiet_step (fail))
  refine wpQuiet_nil ?_
  refine wpOp_step (by simp only [List.getElem?_toArray, List.getElem?_cons_succ, List.getElem?_cons_zero]; rfl) (fun K hK => ?_)
  go_simp
  refine hk.out.mono ?_
  rintro e w2 ⟨rfl, hD2, hL2⟩
  refine hK _ _ ⟨hS.out _ (hv0.out.lies ((Lies.refl B w).drew.trans hL2)) (hx0.out.lies ((Lies.refl B w).drew.trans hL2)) (hs0.out.lies ((Lies.refl B w).drew.trans hL2)), ?_⟩
  clear hK K
  repeat (go_big_quiet_step (fail))
  refine wpQuiet_nil ?_
  go_wp2_with (fail)
  go_ret
  exact ⟨rfl, hD2, (Lies.refl B w).drew.trans hL2⟩

set_option maxRecDepth 100000 in
set_option maxHeartbeats 1000000 in
theorem add2_any (B cnt : Nat) (D : DiskM) (hok : D.ok cnt) (V : VaultM) (vg dg bv : Nat) (w : World) (h : DiskAt B w dg D) (hv : VaultAt B w vg dg V)
    (hx : Box w bv 29 (.pointer (some ⟨vg, 0, none⟩))) :
    Calls Tryd.prog 39 #[.pointer (some ⟨bv, 0, none⟩)] w (DiskRet B dg (D.sync V.file) w) := by
  have hk := sync_any B cnt D hok dg V.file w.drew (h.grown ((Below.refl _ _).drew))
  have hcl0 : ∀ wx, VaultAt B wx vg dg V → Box wx bv 29 (.pointer (some ⟨vg, 0, none⟩)) → ∀ p ∈ [(⟨bv, 0, none⟩, .pointer (some ⟨vg, 0, none⟩)), (⟨vg, 0, none⟩, .pointer (some ⟨dg, 0, none⟩)), (⟨vg, 1, none⟩, .int .i64 V.file)], wx.cell? p.1 = some p.2 := fun wx k1 k2 p hp => by
    simp only [List.mem_cons, List.not_mem_nil, or_false] at hp
    rcases hp with rfl | rfl | rfl
    · exact k2.cell
    · exact k1.c0
    · exact k1.c1
  obtain ⟨cl, hcl⟩ : ∃ cl : List (Addr × Value), cl = [(⟨bv, 0, none⟩, .pointer (some ⟨vg, 0, none⟩)), (⟨vg, 0, none⟩, .pointer (some ⟨dg, 0, none⟩)), (⟨vg, 1, none⟩, .int .i64 V.file)] := ⟨_, rfl⟩
  rw [← hcl] at hcl0
  have z0 := fun z : Has cl => z.cell (a := ⟨bv, 0, none⟩) (v := .pointer (some ⟨vg, 0, none⟩)) (by rw [hcl]; simp)
  have z1 := fun z : Has cl => z.cell (a := ⟨vg, 0, none⟩) (v := .pointer (some ⟨dg, 0, none⟩)) (by rw [hcl]; simp)
  have z2 := fun z : Has cl => z.cell (a := ⟨vg, 1, none⟩) (v := .int .i64 V.file) (by rw [hcl]; simp)
  have hS := fun wx k1 k2 => Has.mk (hcl0 wx k1 k2)
  have : Nonempty (Has cl) := (hS w hv hx).elim fun x _ => ⟨x⟩
  have hv0 := Lib.hid hv
  have hx0 := Lib.hid hx
  replace hk := Lib.hid hk
  replace hS := Lib.hid hS
  clear h hok hx hv hcl0 hcl
  go_enter Tryd.func39, Tryd.ntmps39
  go_upto_region 1 with (fail)
  refine wp_region_ways (S := fun w' => ∃ x : Has cl, w' = x.1) (.one [0, 1, 2, 3, 4, 5, 6, 7] 8 (.last [9])) (by kernel_rfl) (by kernel_rfl) (by intro c a d u w h; cases d <;> exact h) (hS.out w.drew hv0.out hx0.out) ?_
  simp only [wpWays, picks, List.getElem?_toArray, List.getElem?_cons_succ, List.getElem?_cons_zero]
  repeat (go_big_quiet_step (fail))
  refine wpQuiet_nil ?_
  refine wpOp_step (by simp only [List.getElem?_toArray, List.getElem?_cons_succ, List.getElem?_cons_zero]; rfl) (fun K hK => ?_)
  go_simp
  refine hk.out.mono ?_
  rintro e w2 ⟨rfl, hD2, hL2⟩
  refine hK _ _ ⟨hS.out _ (hv0.out.lies ((Lies.refl B w).drew.trans hL2)) (hx0.out.lies ((Lies.refl B w).drew.trans hL2)), ?_⟩
  clear hK K
  repeat (go_big_quiet_step (fail))
  refine wpQuiet_nil ?_
  go_wp2_with (fail)
  go_ret
  exact ⟨rfl, hD2, (Lies.refl B w).drew.trans hL2⟩

theorem ChgAt.restV {B : Nat} {w w' : World} {c : Chg} {v : Value} (h : ChgAt B w c v) (hr : LiesV B w w') : ChgAt B w' c v := by
  cases c with
  | wr x =>
    obtain ⟨a, cap, hv, h1, h2, h3, h4⟩ := h
    exact ⟨a, cap, hv, h1, h2, h3, h4.restV hr⟩
  | cut n => exact h
theorem ChgsAt.restV {B : Nat} {w w' : World} : ∀ {cs : List Chg} {vs : List Value}, ChgsAt B w cs vs → LiesV B w w' → ChgsAt B w' cs vs
  | [], [], _, _ => trivial
  | _ :: _, _ :: _, ⟨h, hs⟩, hr => ⟨h.restV hr, ChgsAt.restV hs hr⟩
/-- A vault's cell has turned: no disk has. -/
theorem FileAt.vault {B : Nat} {w : World} {vg dg : Nat} {V : VaultM} {F : FileM} {vs vl : Value} (hf : FileAt B w F vs vl) (h : VaultAt B w vg dg V) (i : Nat) (u : Value) : FileAt B (w.setCell ⟨vg, i, none⟩ u) F vs vl := by
  have hl := h.liesV i u
  obtain ⟨⟨a, cap, h1, h2, h3, h4, h5⟩, xs, h6, h7⟩ := hf
  refine ⟨⟨a, cap, h1, h2, h3, h4, h5.restV hl⟩, xs, owns_same h6 fun r hr => ?_, h7.restV hl⟩
  obtain ⟨cur, hh, _⟩ := owns_block h6 hr
  exact Below.heap_setCell w ⟨vg, i, none⟩ u r (fun e => type_ne h.1 hh (by decide) e.symm)
theorem DiskAt.vault {B : Nat} {w : World} {vg dg g : Nat} {V : VaultM} {D : DiskM} (hd : DiskAt B w g D) (h : VaultAt B w vg dg V) (i : Nat) (u : Value) : DiskAt B (w.setCell ⟨vg, i, none⟩ u) g D := by
  obtain ⟨v0, l0, v1, l1, h1, h2, h3, h4, h5⟩ := hd
  exact ⟨v0, l0, v1, l1, h1.far (fun e => type_ne h1 h.1 (by decide) e) u, h2, h3.vault h i u, h4.vault h i u, h5⟩
theorem VaultAt.setN {B : Nat} {w : World} {vg dg : Nat} {V : VaultM} (h : VaultAt B w vg dg V) (n : Nat) : VaultAt B (w.setCell ⟨vg, 3, none⟩ (.int .i64 (n : Nat))) vg dg { V with n := n } := ⟨h.1.set 3 _, h.2⟩
theorem VaultAt.setBroken {B : Nat} {w : World} {vg dg : Nat} {V : VaultM} (h : VaultAt B w vg dg V) (b : Bool) : VaultAt B (w.setCell ⟨vg, 4, none⟩ (.bool b)) vg dg { V with broken := b } := ⟨h.1.set 4 _, h.2⟩
theorem DiskAt.drew {B : Nat} {w : World} {g : Nat} {D : DiskM} (h : DiskAt B w g D) : DiskAt B w.drew g D := h.grown ((Below.refl _ _).drew)

set_option maxRecDepth 100000 in
set_option maxHeartbeats 1000000 in
theorem add3_any (B : Nat) (D : DiskM) (V : VaultM) (vg dg bv bl m : Nat) (a : Option Addr) (c : Nat) (hm : V.n + m ≤ 9223372036854775807) (w : World) (h : DiskAt B w dg D) (hv : VaultAt B w vg dg V)
    (hx : Box w bv 29 (.pointer (some ⟨vg, 0, none⟩))) (hs : Box w bl 30 (.slice a m c)) :
    Calls Tryd.prog 40 #[.pointer (some ⟨bv, 0, none⟩), .pointer (some ⟨bl, 0, none⟩)] w fun e w' => e = .returned (.int .i64 0) ∧ DiskAt B w' dg D ∧ VaultAt B w' vg dg { V with n := V.n + m } ∧ LiesV B w w' := by
  have hd := (Lies.refl B w).drew
  have f1 := (h.drew).vault (hv.lies hd) 3 (.int .i64 ((V.n + m : Nat) : Int))
  have f2 := (hv.lies hd).setN (V.n + m)
  have f3 := hd.toV.trans ((hv.lies hd).liesV 3 (.int .i64 ((V.n + m : Nat) : Int)))
  have hw0 : IntKind.i64.wrap ((V.n : Int) + (m : Int)) = ((V.n + m : Nat) : Int) := by rw [IntWalk.i64_in _ (by omega)]; omega
  have c0 := hx.cell
  have c1 := hs.cell
  have c2 := hv.c3
  have c3 := hv.1.free 3
  replace f1 := Lib.hid f1
  replace f2 := Lib.hid f2
  replace f3 := Lib.hid f3
  clear h hv hx hs hd
  go_enter Tryd.func40, Tryd.ntmps40
  go_wp2
  go_region
  all_goals
    go_wp2
    go_ret
    exact ⟨rfl, f1.out, f2.out, f3.out⟩

/-- What Add, Compact hand back. -/
def VaultRet (B vg dg : Nat) (r : DV × Int) (w : World) (e : Ending) (w' : World) : Prop := e = .returned (.int .i64 r.2) ∧ DiskAt B w' dg r.1.1 ∧ VaultAt B w' vg dg r.1.2 ∧ LiesV B w w'
end Go.Proofs.YtiidohaibbdgeaaDoor

namespace Go.Proofs.YtiidohaibbdgeaaDoor
open Go Go.RowKit

set_option maxRecDepth 100000 in
set_option maxHeartbeats 1000000 in
theorem addall_any (B cnt : Nat) (hcnt : cnt + 10 ≤ 1099511627776) (D : DiskM) (hok : D.ok cnt) (V : VaultM) (vg dg bv bl bs bo m : Nat) (la : Option Addr) (lc : Nat) (hm : V.n + m ≤ 9223372036854775807) (F : Bs) (sa : Option Addr) (sc : Nat) (hsc : sa = none → sc = 0) (hF : F.length ≤ 70368744177664) (w : World) (h : DiskAt B w dg D) (hv : VaultAt B w vg dg V)
    (hx : Box w bv 29 (.pointer (some ⟨vg, 0, none⟩))) (hl : Box w bl 30 (.slice la m lc)) (hs : Box w bs 35 (.slice sa F.length sc)) (hby : BytesAt B w sa F)
    (hsl : Blk w bo 43 #[.func (.func 38) #[] #[.pointer (some ⟨bv, 0, none⟩), .pointer (some ⟨bs, 0, none⟩)], .func (.func 39) #[] #[.pointer (some ⟨bv, 0, none⟩)], .func (.func 40) #[] #[.pointer (some ⟨bv, 0, none⟩), .pointer (some ⟨bl, 0, none⟩)]]) :
    Calls Tryd.prog 29 #[.slice (some ⟨bo, 0, none⟩) 3 3] w fun e w' => e = .returned (.int .i64 (runL (addOps m F) (D, V)).2) ∧ (DiskAt B w' dg (runL (addOps m F) (D, V)).1.1 ∧ VaultAt B w' vg dg (runL (addOps m F) (D, V)).1.2) ∧ LiesV B w w' := by
  refine (all_st (fun (s : DV) wy => DiskAt B wy dg s.1 ∧ VaultAt B wy vg dg s.2 ∧ Box wy bv 29 (.pointer (some ⟨vg, 0, none⟩)) ∧ Box wy bl 30 (.slice la m lc) ∧ Box wy bs 35 (.slice sa F.length sc) ∧ BytesAt B wy sa F) (fun i s => s.1.ok (cnt + i) ∧ (i ≤ 2 → s.2.n + m ≤ 9223372036854775807))
      [(38, #[.pointer (some ⟨bv, 0, none⟩), .pointer (some ⟨bs, 0, none⟩)]), (39, #[.pointer (some ⟨bv, 0, none⟩)]), (40, #[.pointer (some ⟨bv, 0, none⟩), .pointer (some ⟨bl, 0, none⟩)])]
      (addOps m F) (fun s => (s, 0)) rfl (by simp) B bo 0 3 w (D, V) (fun i hi wy => by
        match i, hi with
        | 0, _ => exact enters_of Tryd.func38 (by kernel_rfl) rfl _ wy
        | 1, _ => exact enters_of Tryd.func39 (by kernel_rfl) rfl _ wy
        | 2, _ => exact enters_of Tryd.func40 (by kernel_rfl) rfl _ wy) (.inr ⟨_, _, _, hsl, by decide⟩) (fun i hi => by
        match i, hi with
        | 0, _ => exact hsl.cell 0
        | 1, _ => exact hsl.cell 1
        | 2, _ => exact hsl.cell 2) ⟨h, hv, hx, hl, hs, hby⟩ ⟨hok, fun _ => hm⟩ (fun i hi wy s hok' ⟨h1, h2, h3, h4, h5, h6⟩ hlv => by
        have fin : ∀ {r : DiskM × Int} {e : Ending} {w' : World}, DiskRet B dg r wy e w' → e = .returned (.int .i64 r.2) ∧ (DiskAt B w' dg r.1 ∧ VaultAt B w' vg dg s.2 ∧ Box w' bv 29 (.pointer (some ⟨vg, 0, none⟩)) ∧ Box w' bl 30 (.slice la m lc) ∧ Box w' bs 35 (.slice sa F.length sc) ∧ BytesAt B w' sa F) ∧ LiesV B wy w' :=
          fun {r e w'} ⟨k1, k2, k3⟩ => ⟨k1, ⟨k2, h2.lies k3, h3.lies k3, h4.lies k3, h5.lies k3, h6.rest k3⟩, k3.toV⟩
        match i, hi with
        | 0, _ => exact (add1_any B _ s.1 hok'.1 s.2 vg dg bv bs F sa sc hsc hF wy h1 h2 h3 h5 h6).mono fun _ _ => fin
        | 1, _ => exact (add2_any B _ s.1 hok'.1 s.2 vg dg bv wy h1 h2 h3).mono fun _ _ => fin
        | 2, _ => exact (add3_any B s.1 s.2 vg dg bv bl m la lc (hok'.2 (by omega)) wy h1 h2 h3 h4).mono fun e w' ⟨k1, k2, k3, k4⟩ => ⟨k1, ⟨k2, k3, h3.restV k4, h4.restV k4, h5.restV k4, h6.restV k4⟩, k4⟩)
      (fun i hi s hok' _ => by
        match i, hi with
        | 0, _ => exact ⟨write_ok hok'.1 _ _ (by omega), fun _ => hok'.2 (by omega)⟩
        | 1, _ => exact ⟨(sync_ok hok'.1 _).more (by omega), fun _ => hok'.2 (by omega)⟩
        | 2, _ => exact ⟨hok'.1.more (by omega), fun h => absurd h (by omega)⟩)).mono fun e w' ⟨k1, ⟨k2, k3, _⟩, k4⟩ => ⟨k1, ⟨k2, k3⟩, k4⟩

theorem VaultRet.same {B vg dg : Nat} {r : DV × Int} {D : DiskM} {V : VaultM} {x : Int} {w w' : World} (hr : r = ((D, V), x)) (h1 : DiskAt B w dg D) (h2 : VaultAt B w vg dg V) (hb : Below w.heap.size w w') (hB : B ≤ w.heap.size) : VaultRet B vg dg r w (.returned (.int .i64 x)) w' := by
  subst hr
  exact ⟨rfl, h1.grown hb, h2.grown hb, (Lies.new hb hB).toV⟩
theorem VaultRet.same' {B vg dg : Nat} {r : DV × Int} {D : DiskM} {V : VaultM} {x : Int} {w w' : World} (hr : r = ((D, V), x)) (h1 : DiskAt B w' dg D) (h2 : VaultAt B w' vg dg V) (hl : LiesV B w w') : VaultRet B vg dg r w (.returned (.int .i64 x)) w' := by
  subst hr
  exact ⟨rfl, h1, h2, hl⟩
theorem VaultRet.done {B vg dg : Nat} {r R : DV × Int} {w w1 w' : World} (hr : r = keepL R) (h1 : DiskAt B w1 dg R.1.1) (h2 : VaultAt B w1 vg dg R.1.2) (hl : LiesV B w w1) (hw : w' = w1.setCell ⟨vg, 4, none⟩ (.bool (decide (R.2 ≠ 0)))) : VaultRet B vg dg r w (.returned (.int .i64 R.2)) w' := by
  subst hr
  subst hw
  exact ⟨rfl, h1.vault h2 4 _, h2.setBroken _, hl.trans (h2.liesV 4 _)⟩
theorem mayL_ne {V : VaultM} {l : List Bs} {D : DiskM} (h : mayL V l ≠ 0) : addL l (D, V) = ((D, V), mayL V l) := by
  unfold mayL at h ⊢
  unfold addL
  split
  · rfl
  · rename_i h1
    rw [if_neg h1] at h
    split
    · rfl
    · rename_i h2
      rw [if_neg h2] at h
      exact absurd rfl h
theorem mayL_zero {V : VaultM} {l : List Bs} (h : mayL V l = 0) : V.broken = false ∧ longL l = false := by
  unfold mayL at h
  split at h
  · cases h
  · rename_i h1
    split at h
    · cases h
    · rename_i h2
      exact ⟨by simpa using h1, by simpa using h2⟩
theorem room_le (D : DiskM) : D.room ≤ D.most := by unfold DiskM.room; omega

set_option maxRecDepth 100000 in
set_option maxHeartbeats 1000000 in
theorem vadd_any (B cnt : Nat) (hcnt : cnt + 10 ≤ 1099511627776) (D : DiskM) (hok : D.ok cnt) (V : VaultM) (vg dg : Nat) (l : List Bs) (hll : l.length ≤ 1099511627776) (hsz : sizesL l ≤ 1099511627776) (hn : V.n + l.length ≤ 9223372036854775807) (a : Option Addr) (cap : Nat) (w : World) (h : DiskAt B w dg D) (hv : VaultAt B w vg dg V) (hr : RecsAt B w a l) (hT : Tab w) :
    Calls Tryd.prog 12 #[.pointer (some ⟨vg, 0, none⟩), .slice a l.length cap] w (VaultRet B vg dg (addL l (D, V)) w) := by
  have hB := h.base
  obtain ⟨W, hW⟩ : ∃ W, W = (w.alloc (.cells #[.pointer (some ⟨vg, 0, none⟩)] 29)).alloc (.cells #[.slice a l.length cap] 30) := ⟨_, rfl⟩
  have hb2 : Below w.heap.size w W := by rw [hW]; exact ((Below.refl _ _).alloc (Nat.le_refl _) _).alloc (by simp) _
  have hbv : Box W w.heap.size 29 (.pointer (some ⟨vg, 0, none⟩)) := ⟨by rw [hW]; exact (Blk.new _ _ _).alloc _, by decide⟩
  have hbl : Box W (w.heap.size + 1) 30 (.slice a l.length cap) := ⟨by rw [hW]; have := Blk.new (w.alloc (.cells #[.pointer (some ⟨vg, 0, none⟩)] 29)) 30 #[.slice a l.length cap]; simpa using this, by decide⟩
  have hsW : W.heap.size = w.heap.size + 2 := by rw [hW]; simp
  have hDW := h.grown hb2
  have hVW := hv.grown hb2
  have hRW := hr.lies (Lies.new hb2 hB)
  have hTW := hT.grown hb2
  have hmay := vmay_any B V vg dg l (by omega) a cap W hVW hRW
  have hlW := (Lies.new (B := B) hb2 hB).toV
  have cv : W.cell? ⟨w.heap.size, 0, none⟩ = some (.pointer (some ⟨vg, 0, none⟩)) := hbv.cell
  have cl : W.cell? ⟨w.heap.size + 1, 0, none⟩ = some (.slice a l.length cap) := hbl.cell
  have hcase : (mayL V l ≠ 0 ∧ addL l (D, V) = ((D, V), mayL V l)) ∨ (mayL V l = 0 ∧ D.room < sizesL l ∧ addL l (D, V) = ((D, V), 7)) ∨ (mayL V l = 0 ∧ ¬ D.room < sizesL l ∧ l.length = 0 ∧ addL l (D, V) = ((D, V), 0)) ∨
      (mayL V l = 0 ∧ ¬ D.room < sizesL l ∧ l.length ≠ 0 ∧ addL l (D, V) = keepL (runL (addOps l.length (framesL V.gen V.n l)) (D, V))) := by
    by_cases hm : mayL V l = 0
    · obtain ⟨h1, h2⟩ := mayL_zero hm
      by_cases h3 : D.room < sizesL l
      · exact .inr (.inl ⟨hm, h3, by simp [addL, h1, h2, h3]⟩)
      · by_cases h4 : l.length = 0
        · exact .inr (.inr (.inl ⟨hm, h3, h4, by simp only [addL, h1, h2, h3, h4, if_false, if_true, Bool.false_eq_true]⟩))
        · exact .inr (.inr (.inr ⟨hm, h3, h4, by simp only [addL, h1, h2, h3, h4, if_false, Bool.false_eq_true]⟩))
    · exact .inl ⟨hm, mayL_ne hm⟩
  have h0 := Lib.hid h
  have hv0 := Lib.hid hv
  have hok0 := Lib.hid hok
  replace hmay := Lib.hid hmay
  replace hW := Lib.hid hW
  clear h hv hok hr hT
  rcases hcase with ⟨hm, he⟩ | hcase
  · have hm' : (mayL V l != 0) = true := by simp [hm]
    have hm2 : (mayL V l == 0) = false := by rw [beq_eq_false_iff_ne]; exact hm
    rw [he]
    generalize mayL V l = x at *
    clear hm he
    go_enter Tryd.func12, Tryd.ntmps12
    go_upto_region 1 with (fail)
    rw [← hW.out]
    go_wp2_with (go_at_call 35; refine hmay.out.mono ?_; rintro e w1 ⟨rfl, rfl⟩)
    go_ret
    exact VaultRet.same rfl h0.out hv0.out hb2 hB
  · have hm : mayL V l = 0 := by rcases hcase with h | h | h <;> exact h.1
    rw [hm] at hmay
    have hFl := framesL_length V.gen V.n l
    have hfr := fun wx (hb : Below W.heap.size W wx) => frames_any B V.gen V.n l hn hll hsz a cap wx (by have := hb.size; omega) (hRW.lies (Lies.new hb (by omega))) (hTW.grown hb)
    have hrm := fun wx (hb : Below W.heap.size W wx) => room_any B cnt D hok0.out dg wx (hDW.grown hb)
    have hroom := room_le D
    have hsz' := hsz
    have hmost := hok0.out.most2
    obtain ⟨F, hF⟩ : ∃ F, F = framesL V.gen V.n l := ⟨_, rfl⟩
    rw [← hF] at hFl hfr hcase
    have c2 := hVW.c2
    have c3 := hVW.c3
    have c0 := hVW.c0
    have hvl := hVW.1.lt
    have zv := fun z : Grew W.heap.size W => Grew.cell cv (show w.heap.size < W.heap.size by omega) z
    have zl := fun z : Grew W.heap.size W => Grew.cell cl (show w.heap.size + 1 < W.heap.size by omega) z
    have z0 := fun z : Grew W.heap.size W => Grew.cell c0 hvl z
    have z2 := fun z : Grew W.heap.size W => Grew.cell c2 hvl z
    have z3 := fun z : Grew W.heap.size W => Grew.cell c3 hvl z
    have hsW0 := Lib.hid hsW
    have hll0 : ((l.length : Nat) : Int) ≤ 9223372036854775807 := by omega
    replace hfr := Lib.hid hfr
    replace hrm := Lib.hid hrm
    replace hFl := Lib.hid hFl
    replace hF := Lib.hid hF
    replace hcase := Lib.hid hcase
    replace hRW := Lib.hid hRW
    replace hTW := Lib.hid hTW
    replace hDW := Lib.hid hDW
    replace hVW := Lib.hid hVW
    replace hlW := Lib.hid hlW
    replace hbv := Lib.hid hbv
    replace hbl := Lib.hid hbl
    clear hm hsW
    go_enter Tryd.func12, Tryd.ntmps12
    go_upto_region 1 with (fail)
    rw [← hW.out]
    go_upto_region 4 with (go_at_call 35; refine hmay.out.mono ?_; rintro e w1 ⟨rfl, rfl⟩)
    go_cut [6] (fun s wx => ∃ (bs : Nat) (sa : Option Addr) (sc : Nat), s = .pointer (some ⟨bs, 0, none⟩) ∧ Below W.heap.size W wx ∧ Box wx bs 35 (.slice sa F.length sc) ∧ W.heap.size ≤ bs ∧ (sa = none → sc = 0) ∧ F.length ≤ sc ∧ BytesAt B wx sa F)
    case first =>
      rename_i J K' hJ hK'
      have hJ0 := Lib.hid hJ
      refine wp_region_ways (S := fun w' => ∃ x : Grew W.heap.size W, w' = x.1) (.two [0, 1, 2, 3, 4, 5, 6, 7, 8] 9 (.one [] 10 (.one [] 11 (.last []))) 10 (.one [] 9 (.one [] 11 (.last [])))) (by kernel_rfl) (by kernel_rfl) (by intro c a d u w h; cases d <;> exact h) ⟨⟨W.drew, (Below.refl _ _).drew⟩, rfl⟩ ?_
      simp only [wpWays, picks, List.getElem?_toArray, List.getElem?_cons_succ, List.getElem?_cons_zero]
      repeat (go_big_quiet_step (fail))
      refine wpQuiet_nil ?_
      have hd : Below W.heap.size W W.drew := (Below.refl _ _).drew
      refine ⟨?_, ?_⟩
      · refine wpOp_step (by simp only [List.getElem?_toArray, List.getElem?_cons_succ, List.getElem?_cons_zero]; rfl) (fun K hK => ?_)
        go_simp
        refine (hfr.out W.drew hd).mono ?_
        rintro e w1 ⟨v1, rfl, hown1, hB1⟩
        have hB1' : Below W.heap.size W w1 := hd.trans hB1
        obtain ⟨a1, q1, rfl, hn1, hl1, _, hb1⟩ := BytesAt.of_own (B := B) hown1
        refine hK _ _ ⟨⟨⟨w1, hB1'⟩, rfl⟩, ?_⟩
        clear hK K
        refine wpQuiet_nil ?_
        refine wpOp_step (by simp only [List.getElem?_toArray, List.getElem?_cons_succ, List.getElem?_cons_zero]; rfl) (fun K hK => ?_)
        go_simp
        refine hK _ _ ⟨⟨⟨_, hB1'.alloc hB1'.size _⟩, rfl⟩, ?_⟩
        clear hK K
        refine wpQuiet_nil ?_
        refine wpOp_step (by simp only [List.getElem?_toArray, List.getElem?_cons_succ, List.getElem?_cons_zero]; rfl) (fun K hK => ?_)
        go_simp
        refine hK _ _ ⟨⟨⟨_, hB1'.alloc hB1'.size _⟩, rfl⟩, ?_⟩
        clear hK K
        refine wpQuiet_nil ?_
        refine hK' _ _ (Met.intro (hJ0.out _ _ ?_))
        repeat apply Exists.intro
        refine ⟨?_, rfl⟩
        exact ⟨_, _, _, rfl, hB1'.alloc hB1'.size _, ⟨Blk.new w1 _ _, by decide⟩, hB1'.size, hn1, hl1, hb1.rest ((Lies.refl B w1).alloc (by have := hB1'.size; have := hsW0.out; omega) _)⟩
      · refine wpOp_step (by simp only [List.getElem?_toArray, List.getElem?_cons_succ, List.getElem?_cons_zero]; rfl) (fun K hK => ?_)
        go_simp
        have hal : Below W.heap.size W (W.alloc (.cells #[.slice none 0 0] 35)).drew := ((Below.refl _ _).alloc (Nat.le_refl _) _).drew
        have hbx : Blk (W.alloc (.cells #[.slice none 0 0] 35)).drew W.heap.size 35 #[.slice none 0 0] := (Blk.new W _ _).drew
        refine hK _ _ ⟨⟨⟨_, hal⟩, rfl⟩, ?_⟩
        clear hK K
        have hfr2 := hfr.out _ hal
        generalize (W.alloc (.cells #[.slice none 0 0] 35)).drew = W2 at *
        replace hfr2 := Lib.hid hfr2
        refine wpQuiet_nil ?_
        refine wpOp_step (by simp only [List.getElem?_toArray, List.getElem?_cons_succ, List.getElem?_cons_zero]; rfl) (fun K hK => ?_)
        go_simp
        refine hfr2.out.mono ?_
        rintro e w1 ⟨v1, rfl, hown1, hB1⟩
        have hB1' := hal.trans (hB1.mono hal.size)
        have hbx1 := hbx.below hB1 hbx.lt
        have hlt2 := hbx.lt
        obtain ⟨a1, q1, rfl, hn1, hl1, _, _⟩ := BytesAt.of_own (B := B) hown1
        have hc0 : w1.cell? ⟨W.heap.size, 0, none⟩ = some (.slice none 0 0) := hbx1.cell 0
        have hf0 := hbx1.free 0
        refine hK _ _ ⟨⟨⟨w1, hB1'⟩, rfl⟩, ?_⟩
        clear hK K
        refine wpQuiet_nil ?_
        refine wpOp_step (by simp only [List.getElem?_toArray, List.getElem?_cons_succ, List.getElem?_cons_zero]; rfl) (fun K hK => ?_)
        go_simp
        have hB3 : Below W.heap.size W (w1.setCell ⟨W.heap.size, 0, none⟩ (.slice a1 F.length q1)) := below_set hB1' (Nat.le_refl _) 0 _
        have hown3 : OwnBytes (w1.setCell ⟨W.heap.size, 0, none⟩ (.slice a1 F.length q1)) W2.heap.size (.slice a1 F.length q1) F := owns_same hown1 fun r hr => Below.heap_setCell w1 ⟨W.heap.size, 0, none⟩ _ r (fun e => by have := own_ge hown1 r hr; simp only at e; omega)
        have hby3 : BytesAt B (w1.setCell ⟨W.heap.size, 0, none⟩ (.slice a1 F.length q1)) a1 F := by
          obtain ⟨a2, q2, he, _, _, _, hb⟩ := BytesAt.of_own (B := B) hown3
          injection he with he
          subst he
          exact hb
        refine hK _ _ ⟨⟨⟨_, hB3⟩, rfl⟩, ?_⟩
        clear hK K
        refine wpQuiet_nil ?_
        refine hK' _ _ (Met.intro (hJ0.out _ _ ?_))
        repeat apply Exists.intro
        refine ⟨?_, rfl⟩
        exact ⟨_, _, _, rfl, hB3, ⟨hbx1.set 0 _, by decide⟩, Nat.le_refl _, hn1, hl1, hby3⟩
    case rest =>
      obtain ⟨bs, sa, sc, rfl, hBc, hxs, hbs, hsn, hsl, hby⟩ := hcut
      have hsz := hBc.size
      rename World => wp
      have hvc := hVW.out.grown hBc
      have d2 := hxs.cell
      have d0 := hvc.c0
      have dv : wp.cell? ⟨w.heap.size, 0, none⟩ = some (.pointer (some ⟨vg, 0, none⟩)) := (hbv.out.grown hBc).cell
      have dl : wp.cell? ⟨w.heap.size + 1, 0, none⟩ = some (.slice a l.length cap) := (hbl.out.grown hBc).cell
      have hsW1 := hsW0.out
      have hxl := hxs.1.lt
      have ys := fun z : Grew wp.heap.size wp => Grew.cell d2 hxl z
      have yv := fun z : Grew wp.heap.size wp => Grew.cell dv (show w.heap.size < wp.heap.size by omega) z
      have y0 := fun z : Grew wp.heap.size wp => Grew.cell d0 (show vg < wp.heap.size by omega) z
      have hFle : F.length ≤ 1099511627776 := by rw [hFl.out]; exact hsz'
      clear zv zl z0 z2 z3 cv cl c0 c2 c3
      go_upto_region 5 with (fail)
      go_cut [23] (fun s wx => s = .bool (decide (D.room < F.length)) ∧ Below wp.heap.size wp wx)
      case first =>
        rename_i J K' hJ hK'
        have hJ0 := Lib.hid hJ
        refine wp_region_ways (S := fun w' => ∃ x : Grew wp.heap.size wp, w' = x.1) (.one [0, 1, 2, 3, 4, 5] 6 (.last [7, 8])) (by kernel_rfl) (by kernel_rfl) (by intro c a d u w h; cases d <;> exact h) ⟨⟨wp.drew, (Below.refl _ _).drew⟩, rfl⟩ ?_
        simp only [wpWays, picks, List.getElem?_toArray, List.getElem?_cons_succ, List.getElem?_cons_zero]
        repeat (go_big_quiet_step (fail))
        refine wpQuiet_nil ?_
        have hd : Below wp.heap.size wp wp.drew := (Below.refl _ _).drew
        refine wpOp_step (by simp only [List.getElem?_toArray, List.getElem?_cons_succ, List.getElem?_cons_zero]; rfl) (fun K hK => ?_)
        go_simp
        refine (hrm.out wp.drew (hBc.trans (hd.mono hsz))).mono ?_
        rintro e w1 ⟨rfl, hB1⟩
        have hB1' : Below wp.heap.size wp w1 := hd.trans hB1
        refine hK _ _ ⟨⟨⟨w1, hB1'⟩, rfl⟩, ?_⟩
        clear hK K
        repeat (go_big_quiet_step (fail))
        refine wpQuiet_nil ?_
        refine hK' _ _ (Met.intro (hJ0.out _ _ ?_))
        repeat apply Exists.intro
        refine ⟨?_, rfl⟩
        exact ⟨rfl, hB1'⟩
      case rest =>
        obtain ⟨hu, hBd⟩ := hcut
        subst hu
        have hBx := hBc.trans (hBd.mono hsz)
        have hLx := Lies.new (B := B) hBx (by omega)
        have hDc := hDW.out.grown hBx
        have hVc := hVW.out.grown hBx
        have hxv := hbv.out.grown hBx
        have hxl2 := hbl.out.grown hBx
        have hxs2 := hxs.grown hBd
        have hby2 := hby.rest (Lies.new (B := B) hBd (by omega))
        have hall := hlW.out.trans hLx.toV
        have e1 : wc.cell? ⟨w.heap.size, 0, none⟩ = some (.pointer (some ⟨vg, 0, none⟩)) := hxv.cell
        have e2 : wc.cell? ⟨w.heap.size + 1, 0, none⟩ = some (.slice a l.length cap) := hxl2.cell
        have hszc := hBx.size
        clear ys yv y0 d0 d2 dv dl hfr hrm
        replace hDc := Lib.hid hDc
        replace hVc := Lib.hid hVc
        replace hxv := Lib.hid hxv
        replace hxl2 := Lib.hid hxl2
        replace hxs2 := Lib.hid hxs2
        replace hby2 := Lib.hid hby2
        replace hall := Lib.hid hall
        rcases hcase.out with ⟨_, h3, he⟩ | ⟨_, h3, h4, he⟩ | ⟨_, h3, h4, he⟩
        · have hb : decide (D.room < F.length) = true := decide_eq_true (by rw [hFl.out]; exact h3)
          have he0 := Lib.hid he
          generalize decide (D.room < F.length) = b at *
          subst hb
          clear h3 he
          go_wp2_with (fail)
          go_ret
          exact VaultRet.same' he0.out hDc.out hVc.out hall.out
        · have hb : decide (D.room < F.length) = false := decide_eq_false (by rw [hFl.out]; exact h3)
          have he0 := Lib.hid he
          generalize decide (D.room < F.length) = b at *
          subst hb
          have h4' : ((l.length : Int) == 0) = true := by rw [h4]; rfl
          clear h3 he
          go_wp2_with (fail)
          go_ret
          exact VaultRet.same' he0.out hDc.out hVc.out hall.out
        · have hb : decide (D.room < F.length) = false := decide_eq_false (by rw [hFl.out]; exact h3)
          have he0 := Lib.hid he
          generalize decide (D.room < F.length) = b at *
          subst hb
          have h4' : ((l.length : Int) == 0) = false := by rw [beq_eq_false_iff_ne]; omega

          have he0 := Lib.hid he
          clear h3 he
          go_upto_region 9 with (fail)
          obtain ⟨cl, hcl⟩ : ∃ cl : List (Addr × Value), cl = [(⟨w.heap.size, 0, none⟩, .pointer (some ⟨vg, 0, none⟩))] := ⟨_, rfl⟩
          have z0 := fun z : Has cl => z.cell (a := ⟨w.heap.size, 0, none⟩) (v := .pointer (some ⟨vg, 0, none⟩)) (by rw [hcl]; simp)
          have hS : ∀ wx, Box wx w.heap.size 29 (.pointer (some ⟨vg, 0, none⟩)) → ∃ x : Has cl, wx = x.1 := fun wx k => Has.mk (fun p hp => by
            rw [hcl, List.mem_singleton] at hp
            subst hp
            exact k.cell)
          have : Nonempty (Has cl) := (hS wc hxv.out).elim fun x _ => ⟨x⟩
          replace hS := Lib.hid hS
          clear hcl
          refine wp_region_ways (S := fun w' => ∃ x : Has cl, w' = x.1) (.one [0, 1, 2, 3] 4 (.one [] 5 (.one [] 6 (.last [7])))) (by kernel_rfl) (by kernel_rfl) (by intro c a d u w h; cases d <;> exact h) (hS.out wc.drew hxv.out) ?_
          simp only [wpWays, picks, List.getElem?_toArray, List.getElem?_cons_succ, List.getElem?_cons_zero]
          repeat (go_big_quiet_step (fail))
          refine wpQuiet_nil ?_
          refine wpOp_step (by simp only [List.getElem?_toArray, List.getElem?_cons_succ, List.getElem?_cons_zero]; rfl) (fun K hK => ?_)
          go_simp
          have hB9 : Below wc.heap.size wc (wc.alloc (.cells #[.func (.func 38) #[] #[.pointer (some ⟨w.heap.size, 0, none⟩), .pointer (some ⟨bs, 0, none⟩)], .func (.func 39) #[] #[.pointer (some ⟨w.heap.size, 0, none⟩)], .func (.func 40) #[] #[.pointer (some ⟨w.heap.size, 0, none⟩), .pointer (some ⟨w.heap.size + 1, 0, none⟩)]] 43)).drew := ((Below.refl _ _).alloc (Nat.le_refl _) _).drew
          have hsl9 : Blk (wc.alloc (.cells #[.func (.func 38) #[] #[.pointer (some ⟨w.heap.size, 0, none⟩), .pointer (some ⟨bs, 0, none⟩)], .func (.func 39) #[] #[.pointer (some ⟨w.heap.size, 0, none⟩)], .func (.func 40) #[] #[.pointer (some ⟨w.heap.size, 0, none⟩), .pointer (some ⟨w.heap.size + 1, 0, none⟩)]] 43)).drew wc.heap.size 43 #[.func (.func 38) #[] #[.pointer (some ⟨w.heap.size, 0, none⟩), .pointer (some ⟨bs, 0, none⟩)], .func (.func 39) #[] #[.pointer (some ⟨w.heap.size, 0, none⟩)], .func (.func 40) #[] #[.pointer (some ⟨w.heap.size, 0, none⟩), .pointer (some ⟨w.heap.size + 1, 0, none⟩)]] := (Blk.new wc _ _).drew
          have hL9 := Lies.new (B := B) hB9 (by omega)
          have hx9 := hxv.out.grown hB9
          refine hK _ _ ⟨hS.out _ hx9, ?_⟩
          clear hK K
          have hk := addall_any B cnt hcnt D hok0.out V vg dg w.heap.size (w.heap.size + 1) bs wc.heap.size l.length a cap hn F sa sc hsn (by omega) _ (hDc.out.grown hB9) (hVc.out.grown hB9) hx9 (hxl2.out.grown hB9) (hxs2.out.grown hB9) (hby2.out.rest hL9) hsl9
          have hall9 := hall.out.trans hL9.toV
          generalize (wc.alloc (.cells #[.func (.func 38) #[] #[.pointer (some ⟨w.heap.size, 0, none⟩), .pointer (some ⟨bs, 0, none⟩)], .func (.func 39) #[] #[.pointer (some ⟨w.heap.size, 0, none⟩)], .func (.func 40) #[] #[.pointer (some ⟨w.heap.size, 0, none⟩), .pointer (some ⟨w.heap.size + 1, 0, none⟩)]] 43)).drew = W9 at *
          generalize runL (addOps l.length F) (D, V) = R at *
          replace hk := Lib.hid hk
          refine wpQuiet_nil ?_
          refine wpOp_step (by simp only [List.getElem?_toArray, List.getElem?_cons_succ, List.getElem?_cons_zero]; rfl) (fun K hK => ?_)
          go_simp
          refine hk.out.mono ?_
          rintro e wa ⟨rfl, ⟨hDa, hVa⟩, hLa⟩
          have hxa := hx9.restV hLa
          refine hK _ _ ⟨hS.out _ hxa, ?_⟩
          clear hK K
          have hkp := vkept_any B R.1.2 vg dg R.2 wa hVa
          replace hkp := Lib.hid hkp
          refine wpQuiet_nil ?_
          refine wpOp_step (by simp only [List.getElem?_toArray, List.getElem?_cons_succ, List.getElem?_cons_zero]; rfl) (fun K hK => ?_)
          go_simp
          refine hkp.out.mono ?_
          rintro e wb ⟨rfl, hwb⟩
          have hxb : Box wb w.heap.size 29 (.pointer (some ⟨vg, 0, none⟩)) := by rw [hwb]; exact hxa.restV (hVa.liesV 4 _)
          refine hK _ _ ⟨hS.out _ hxb, ?_⟩
          clear hK K
          repeat (go_big_quiet_step (fail))
          refine wpQuiet_nil ?_
          go_wp2_with (fail)
          go_ret
          exact VaultRet.done he0.out hDa hVa (hall9.trans hLa) hwb
end Go.Proofs.YtiidohaibbdgeaaDoor
