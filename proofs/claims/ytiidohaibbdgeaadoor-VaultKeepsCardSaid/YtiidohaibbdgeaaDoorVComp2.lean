/-
  A vault is made anew with some records (Vault.Compact).
-/
import Derived.Test.YtiidohaibbdgeaaDoorVComp
namespace Go.Proofs.YtiidohaibbdgeaaDoor
open Go Go.RowKit

set_option maxRecDepth 100000 in
set_option maxHeartbeats 1000000 in
theorem compall_any (B cnt : Nat) (hcnt : cnt + 10 ≤ 1099511627776) (D : DiskM) (hok : D.ok cnt) (V : VaultM) (vg dg bv bl bs bo bf o m : Nat) (la : Option Addr) (lc : Nat) (hg : V.gen + 1 ≤ 18446744073709551615) (hm : m ≤ 9223372036854775807) (F : Bs) (sa : Option Addr) (sc : Nat) (hsc : sa = none → sc = 0) (hF : F.length ≤ 70368744177664) (w : World)
    (h : DiskAt B w dg D ∧ VaultAt B w vg dg V ∧ Box w bv 29 (.pointer (some ⟨vg, 0, none⟩)) ∧ Box w bo 3 (.int .i64 o) ∧ Box w bl 30 (.slice la m lc) ∧ Box w bs 35 (.slice sa F.length sc) ∧ BytesAt B w sa F)
    (hsl : Blk w bf 43 #[.func (.func 42) #[] #[.pointer (some ⟨bv, 0, none⟩), .pointer (some ⟨bo, 0, none⟩)], .func (.func 43) #[] #[.pointer (some ⟨bv, 0, none⟩), .pointer (some ⟨bo, 0, none⟩), .pointer (some ⟨bs, 0, none⟩)], .func (.func 44) #[] #[.pointer (some ⟨bv, 0, none⟩), .pointer (some ⟨bo, 0, none⟩)], .func (.func 45) #[] #[.pointer (some ⟨bv, 0, none⟩)], .func (.func 46) #[] #[.pointer (some ⟨bo, 0, none⟩), .pointer (some ⟨bv, 0, none⟩), .pointer (some ⟨bl, 0, none⟩)]]) :
    Calls Tryd.prog 29 #[.slice (some ⟨bf, 0, none⟩) 5 5] w fun e w' => e = .returned (.int .i64 (runL (compOps o m F) (D, V)).2) ∧ (DiskAt B w' dg (runL (compOps o m F) (D, V)).1.1 ∧ VaultAt B w' vg dg (runL (compOps o m F) (D, V)).1.2) ∧ LiesV B w w' := by
  refine (all_st (fun (s : DV) wy => DiskAt B wy dg s.1 ∧ VaultAt B wy vg dg s.2 ∧ Box wy bv 29 (.pointer (some ⟨vg, 0, none⟩)) ∧ Box wy bo 3 (.int .i64 o) ∧ Box wy bl 30 (.slice la m lc) ∧ Box wy bs 35 (.slice sa F.length sc) ∧ BytesAt B wy sa F) (fun i s => s.1.ok (cnt + i) ∧ (i ≤ 4 → s.2.gen + 1 ≤ 18446744073709551615))
      [(42, #[.pointer (some ⟨bv, 0, none⟩), .pointer (some ⟨bo, 0, none⟩)]), (43, #[.pointer (some ⟨bv, 0, none⟩), .pointer (some ⟨bo, 0, none⟩), .pointer (some ⟨bs, 0, none⟩)]), (44, #[.pointer (some ⟨bv, 0, none⟩), .pointer (some ⟨bo, 0, none⟩)]), (45, #[.pointer (some ⟨bv, 0, none⟩)]), (46, #[.pointer (some ⟨bo, 0, none⟩), .pointer (some ⟨bv, 0, none⟩), .pointer (some ⟨bl, 0, none⟩)])]
      (compOps o m F) (fun s => (s, 0)) rfl (by simp) B bf 0 5 w (D, V) (fun i hi wy => by
        match i, hi with
        | 0, _ => exact enters_of Tryd.func42 (by kernel_rfl) rfl _ wy
        | 1, _ => exact enters_of Tryd.func43 (by kernel_rfl) rfl _ wy
        | 2, _ => exact enters_of Tryd.func44 (by kernel_rfl) rfl _ wy
        | 3, _ => exact enters_of Tryd.func45 (by kernel_rfl) rfl _ wy
        | 4, _ => exact enters_of Tryd.func46 (by kernel_rfl) rfl _ wy) (.inr ⟨_, _, _, hsl, by decide⟩) (fun i hi => by
        match i, hi with
        | 0, _ => exact hsl.cell 0
        | 1, _ => exact hsl.cell 1
        | 2, _ => exact hsl.cell 2
        | 3, _ => exact hsl.cell 3
        | 4, _ => exact hsl.cell 4) h ⟨hok, fun _ => hg⟩ (fun i hi wy s hok' ⟨h1, h2, h3, h4, h5, h6, h7⟩ hlv => by
        have fin : ∀ {r : DiskM × Int} {e : Ending} {w' : World}, DiskRet B dg r wy e w' → e = .returned (.int .i64 r.2) ∧ (DiskAt B w' dg r.1 ∧ VaultAt B w' vg dg s.2 ∧ Box w' bv 29 (.pointer (some ⟨vg, 0, none⟩)) ∧ Box w' bo 3 (.int .i64 o) ∧ Box w' bl 30 (.slice la m lc) ∧ Box w' bs 35 (.slice sa F.length sc) ∧ BytesAt B w' sa F) ∧ LiesV B wy w' :=
          fun {r e w'} ⟨k1, k2, k3⟩ => ⟨k1, ⟨k2, h2.lies k3, h3.lies k3, h4.lies k3, h5.lies k3, h6.lies k3, h7.rest k3⟩, k3.toV⟩
        match i, hi with
        | 0, _ => exact (comp1_any B _ s.1 hok'.1 s.2 vg dg bv bo o wy h1 h2 h3 h4).mono fun _ _ => fin
        | 1, _ => exact (comp2_any B _ s.1 hok'.1 s.2 vg dg bv bo bs o F sa sc hsc hF wy h1 h2 h3 h4 h6 h7).mono fun _ _ => fin
        | 2, _ => exact (comp3_any B _ s.1 hok'.1 s.2 vg dg bv bo o wy h1 h2 h3 h4).mono fun _ _ => fin
        | 3, _ => exact (comp4_any B _ s.1 hok'.1 s.2 vg dg bv wy h1 h2 h3).mono fun _ _ => fin
        | 4, _ => exact (comp5_any B s.1 s.2 vg dg bv bo bl o m la lc (hok'.2 (by omega)) hm wy h1 h2 h3 h4 h5).mono fun e w' ⟨k1, k2, k3, k4⟩ => ⟨k1, ⟨k2, k3, h3.restV k4, h4.restV k4, h5.restV k4, h6.restV k4, h7.restV k4⟩, k4⟩)
      (fun i hi s hok' _ => by
        match i, hi with
        | 0, _ => exact ⟨vcut_ok hok'.1 _ _ (by omega), fun _ => hok'.2 (by omega)⟩
        | 1, _ => exact ⟨write_ok hok'.1 _ _ (by omega), fun _ => hok'.2 (by omega)⟩
        | 2, _ => exact ⟨(sync_ok hok'.1 _).more (by omega), fun _ => hok'.2 (by omega)⟩
        | 3, _ => exact ⟨cut_ok hok'.1 _ _ (by omega), fun _ => hok'.2 (by omega)⟩
        | 4, _ => exact ⟨hok'.1.more (by omega), fun h => absurd h (by omega)⟩)).mono fun e w' ⟨k1, ⟨k2, k3, _⟩, k4⟩ => ⟨k1, ⟨k2, k3⟩, k4⟩

/-- What is written into a box that has just been laid. -/
theorem store_box {B n base : Nat} {w1 : World} {v old : Value} {F : Bs} (hbx : Blk w1 n 35 #[old]) (hown : OwnBytes w1 base v F) :
    ∃ sa sc, v = .slice sa F.length sc ∧ (sa = none → sc = 0) ∧ F.length ≤ sc ∧ Box (w1.setCell ⟨n, 0, none⟩ v) n 35 v ∧ BytesAt B (w1.setCell ⟨n, 0, none⟩ v) sa F := by
  have hown3 : OwnBytes (w1.setCell ⟨n, 0, none⟩ v) base v F := owns_same hown fun r hr => by
    obtain ⟨cur, hh, _⟩ := owns_block hown hr
    exact Below.heap_setCell w1 ⟨n, 0, none⟩ v r (fun e => type_ne hbx hh (by decide) e.symm)
  obtain ⟨sa, sc, hv, h1, h2, _, h3⟩ := BytesAt.of_own (B := B) hown3
  exact ⟨sa, sc, hv, h1, h2, ⟨hbx.set 0 v, by decide⟩, h3⟩
theorem compL_may {V : VaultM} {l : List Bs} {D : DiskM} (h : mayL V l ≠ 0) : compL l (D, V) = ((D, V), mayL V l) := by
  unfold mayL at h ⊢
  unfold compL
  split
  · rfl
  · rename_i h1
    rw [if_neg h1] at h
    split
    · rfl
    · rename_i h2
      rw [if_neg h2] at h
      exact absurd rfl h

set_option maxRecDepth 100000 in
set_option maxHeartbeats 1000000 in
theorem vcomp_any (B cnt : Nat) (hcnt : cnt + 10 ≤ 1099511627776) (D : DiskM) (hok : D.ok cnt) (V : VaultM) (hfile : V.file < 2) (hgen : V.gen ≤ 4611686018427387904) (vg dg : Nat) (l : List Bs) (hll : l.length ≤ 1099511627776) (hsz : sizesL l ≤ 1099511627776) (a : Option Addr) (cap : Nat) (w : World) (h : DiskAt B w dg D) (hv : VaultAt B w vg dg V) (hr : RecsAt B w a l) (hT : Tab w) :
    Calls Tryd.prog 13 #[.pointer (some ⟨vg, 0, none⟩), .slice a l.length cap] w (VaultRet B vg dg (compL l (D, V)) w) := by
  have hB := h.base
  obtain ⟨W, hW⟩ : ∃ W, W = (w.alloc (.cells #[.pointer (some ⟨vg, 0, none⟩)] 29)).alloc (.cells #[.slice a l.length cap] 30) := ⟨_, rfl⟩
  have hb2 : Below w.heap.size w W := by rw [hW]; exact ((Below.refl _ _).alloc (Nat.le_refl _) _).alloc (by simp) _
  have hbv : Box W w.heap.size 29 (.pointer (some ⟨vg, 0, none⟩)) := ⟨by rw [hW]; exact (Blk.new _ _ _).alloc _, by decide⟩
  have hbl : Box W (w.heap.size + 1) 30 (.slice a l.length cap) := ⟨by rw [hW]; have := Blk.new (w.alloc (.cells #[.pointer (some ⟨vg, 0, none⟩)] 29)) 30 #[.slice a l.length cap]; simpa using this, by decide⟩
  have hsW : W.heap.size = w.heap.size + 2 := by rw [hW]; simp
  have hDW := h.grown hb2
  have hVW := hv.grown hb2
  have hRW := hr.lies (Lies.new hb2 hB)
  have hTW := hT.grown hb2
  have hmay := vmay_any B V vg dg l (by omega) a cap W hVW hRW
  have hlW := (Lies.new (B := B) hb2 hB).toV
  have cv : W.cell? ⟨w.heap.size, 0, none⟩ = some (.pointer (some ⟨vg, 0, none⟩)) := hbv.cell
  have cl : W.cell? ⟨w.heap.size + 1, 0, none⟩ = some (.slice a l.length cap) := hbl.cell
  have c2 := hVW.c2
  have hkpW := fun (x : Int) (wx : World) {V' : VaultM} (h' : VaultAt B wx vg dg V') => vkept_any B V' vg dg x wx h'
  have h0 := Lib.hid h
  have hv0 := Lib.hid hv
  have hok0 := Lib.hid hok
  have hg0 : ((V.gen : Nat) : Int) ≤ 4611686018427387904 := by omega
  replace hmay := Lib.hid hmay
  replace hW := Lib.hid hW
  replace hkpW := Lib.hid hkpW
  clear h hv hok hr hT
  by_cases hm : mayL V l = 0
  case neg =>
    have hm' : (mayL V l != 0) = true := by simp [hm]
    have hm2 : (mayL V l == 0) = false := by rw [beq_eq_false_iff_ne]; exact hm
    have he := compL_may (D := D) hm
    replace he := Lib.hid he
    generalize mayL V l = x at *
    clear hm
    go_enter Tryd.func13, Tryd.ntmps13
    go_upto_region 1 with (fail)
    rw [← hW.out]
    go_wp2_with (go_at_call 35; refine hmay.out.mono ?_; rintro e w1 ⟨rfl, rfl⟩)
    go_ret
    exact VaultRet.same he.out h0.out hv0.out hb2 hB
  rw [hm] at hmay
  obtain ⟨hbr, hlg⟩ := mayL_zero hm
  by_cases hge : 4611686018427387904 ≤ V.gen
  · have he : compL l (D, V) = ((D, V), 6) := by simp [compL, hbr, hlg, hge]
    have hge' : (4611686018427387904 : Int) ≤ (V.gen : Int) := by omega
    replace he := Lib.hid he
    clear hm hge
    go_enter Tryd.func13, Tryd.ntmps13
    go_upto_region 1 with (fail)
    rw [← hW.out]
    go_wp2_with (go_at_call 35; refine hmay.out.mono ?_; rintro e w1 ⟨rfl, rfl⟩)
    go_ret
    exact VaultRet.same he.out h0.out hv0.out hb2 hB
  have hcase : ((D.read ((1 - V.file : Nat) : Int)).2 ≠ 0 ∧ compL l (D, V) = keepL ((D, V), (D.read ((1 - V.file : Nat) : Int)).2)) ∨
      ((D.read ((1 - V.file : Nat) : Int)).2 = 0 ∧ D.room + (D.read ((1 - V.file : Nat) : Int)).1.length < 44 + sizesL l ∧ compL l (D, V) = ((D, V), 7)) ∨
      ((D.read ((1 - V.file : Nat) : Int)).2 = 0 ∧ ¬ D.room + (D.read ((1 - V.file : Nat) : Int)).1.length < 44 + sizesL l ∧ compL l (D, V) = keepL (runL (compOps (1 - V.file) l.length (headL (V.gen + 1) l.length ++ framesL (V.gen + 1) 0 l)) (D, V))) := by
    by_cases hrd : (D.read ((1 - V.file : Nat) : Int)).2 = 0
    · by_cases hrm : D.room + (D.read ((1 - V.file : Nat) : Int)).1.length < 44 + sizesL l
      · exact .inr (.inl ⟨hrd, hrm, by simp only [compL, hbr, hlg, hge, hrd, hrm, if_false, if_true, Bool.false_eq_true, ne_eq, not_true_eq_false]⟩)
      · exact .inr (.inr ⟨hrd, hrm, by simp only [compL, hbr, hlg, hge, hrd, hrm, if_false, Bool.false_eq_true, ne_eq, not_true_eq_false]⟩)
    · exact .inl ⟨hrd, by simp only [compL, hbr, hlg, hge, hrd, if_false, if_true, Bool.false_eq_true, ne_eq, not_false_eq_true]⟩
  have hge1 : decide ((4611686018427387904 : Int) ≤ (V.gen : Int)) = false := decide_eq_false (by omega)
  have hge2 : decide (4611686018427387904 ≤ V.gen) = false := decide_eq_false hge
  have hgl : V.gen < 4611686018427387904 := Nat.lt_of_not_le hge
  have hwr : IntKind.i64.wrap ((1 : Int) - (V.file : Int)) = ((1 - V.file : Nat) : Int) := by rw [IntWalk.i64_in _ (by omega)]; omega
  obtain ⟨o, ho⟩ : ∃ o, o = 1 - V.file := ⟨_, rfl⟩
  rw [← ho] at hwr hcase
  obtain ⟨W6, hW6⟩ : ∃ W6, W6 = W.alloc (.cells #[.int .i64 (o : Int)] 3) := ⟨_, rfl⟩
  have hB6 : Below W.heap.size W W6 := by rw [hW6]; exact (Below.refl _ _).alloc (Nat.le_refl _) _
  have hbo : Box W6 W.heap.size 3 (.int .i64 o) := ⟨by rw [hW6]; exact Blk.new _ _ _, by decide⟩
  have hs6 : W6.heap.size = w.heap.size + 3 := by rw [hW6]; simp; omega
  have hD6 := hDW.grown hB6
  have hV6 := hVW.grown hB6
  have hR6 := hRW.lies (Lies.new hB6 (by omega))
  have hT6 := hTW.grown hB6
  have hbv6 := hbv.grown hB6
  have hbl6 := hbl.grown hB6
  have hl6 := hlW.trans (Lies.new (B := B) hB6 (by omega)).toV
  have hfl := framesL_length (V.gen + 1) 0 l
  have hhl := headL_length (V.gen + 1) l.length
  have hrd := fun wx (hb : Below W6.heap.size W6 wx) => read_any B cnt D hok0.out dg (o : Int) wx (hD6.grown hb)
  have hrm := fun wx (hb : Below W6.heap.size W6 wx) => room_any B cnt D hok0.out dg wx (hD6.grown hb)
  have hfr := fun wx (hb : Below W6.heap.size W6 wx) => frames_any B (V.gen + 1) 0 l (by omega) hll hsz a cap wx (by have := hb.size; omega) (hR6.lies (Lies.new hb (by omega))) (hT6.grown hb)
  have hhd := fun wx (hb : Below W6.heap.size W6 wx) => head_any (V.gen + 1) l.length (by omega) wx (hT6.grown hb)
  have hroom := room_le D
  have hmost := hok0.out.most2
  have hXl : (D.read (o : Int)).1.length ≤ 4194304 := by
    have k0 := okL_all hok0.out.ok0
    have k1 := okL_all hok0.out.ok1
    change D.f0.stands.length ≤ _ at k0
    change D.f1.stands.length ≤ _ at k1
    unfold DiskM.read
    split
    · simp
    · unfold DiskM.file
      split
      · show D.f0.stands.length ≤ _; omega
      · show D.f1.stands.length ≤ _; omega
  generalize (D.read (o : Int)).1 = X at *
  generalize (D.read (o : Int)).2 = E at *
  obtain ⟨F, hF⟩ : ∃ F, F = framesL (V.gen + 1) 0 l := ⟨_, rfl⟩
  obtain ⟨H, hH⟩ : ∃ H, H = headL (V.gen + 1) l.length := ⟨_, rfl⟩
  rw [← hF] at hfl hfr hcase
  rw [← hH] at hhl hhd hcase
  obtain ⟨C, hC⟩ : ∃ C, C = H ++ F := ⟨_, rfl⟩
  rw [← hC] at hcase
  have hCl : C.length = 44 + sizesL l := by rw [hC, List.length_append, hhl, hfl]
  have c0 := hV6.c0
  have c6 : W6.cell? ⟨W.heap.size, 0, none⟩ = some (.int .i64 o) := hbo.cell
  have cv6 : W6.cell? ⟨w.heap.size, 0, none⟩ = some (.pointer (some ⟨vg, 0, none⟩)) := hbv6.cell
  have c1 := hVW.c1
  have hvl := hV6.1.lt
  have zv := fun z : Grew W6.heap.size W6 => Grew.cell cv6 (show w.heap.size < W6.heap.size by omega) z
  have zo := fun z : Grew W6.heap.size W6 => Grew.cell c6 (show W.heap.size < W6.heap.size by omega) z
  have z0 := fun z : Grew W6.heap.size W6 => Grew.cell c0 hvl z
  have hs60 := Lib.hid hs6
  have hll0 : ((l.length : Nat) : Int) ≤ 9223372036854775807 := by omega
  replace hfr := Lib.hid hfr
  replace hrm := Lib.hid hrm
  replace hrd := Lib.hid hrd
  replace hhd := Lib.hid hhd
  replace hfl := Lib.hid hfl
  replace hF := Lib.hid hF
  replace hH := Lib.hid hH
  replace hC := Lib.hid hC
  replace hCl := Lib.hid hCl
  replace hcase := Lib.hid hcase
  replace hR6 := Lib.hid hR6
  replace hT6 := Lib.hid hT6
  replace hD6 := Lib.hid hD6
  replace hV6 := Lib.hid hV6
  replace hl6 := Lib.hid hl6
  replace hbv6 := Lib.hid hbv6
  replace hbl6 := Lib.hid hbl6
  replace hbo := Lib.hid hbo
  replace hW6 := Lib.hid hW6
  replace ho := Lib.hid ho
  clear hm hsW hge hbr hlg hRW hTW hDW hVW hlW hbv hbl hs6 hB6
  go_enter Tryd.func13, Tryd.ntmps13
  go_upto_region 1 with (fail)
  rw [← hW.out]
  go_upto_region 7 with (go_at_call 35; refine hmay.out.mono ?_; rintro e w1 ⟨rfl, rfl⟩)
  rw [← hW6.out]
  go_cut [7, 8] (fun v x wx => ∃ (a1 : Option Addr) (q1 : Nat), v = .slice a1 X.length q1 ∧ x = .int .i64 E ∧ Below W6.heap.size W6 wx)
  case first =>
    rename_i J K' hJ hK'
    have hJ0 := Lib.hid hJ
    refine wp_region_ways (S := fun w' => ∃ x : Grew W6.heap.size W6, w' = x.1) (.one [0, 1, 2, 3, 4] 5 (.last [6, 7, 8, 9, 10])) (by kernel_rfl) (by kernel_rfl) (by intro c a d u w h; cases d <;> exact h) ⟨⟨W6.drew, (Below.refl _ _).drew⟩, rfl⟩ ?_
    simp only [wpWays, picks, List.getElem?_toArray, List.getElem?_cons_succ, List.getElem?_cons_zero]
    repeat (go_big_quiet_step (fail))
    refine wpQuiet_nil ?_
    have hd : Below W6.heap.size W6 W6.drew := (Below.refl _ _).drew
    refine wpOp_step (by simp only [List.getElem?_toArray, List.getElem?_cons_succ, List.getElem?_cons_zero]; rfl) (fun K hK => ?_)
    go_simp
    refine (hrd.out W6.drew hd).mono ?_
    rintro e w1 ⟨v1, rfl, hown1, hB1⟩
    have hB1' : Below W6.heap.size W6 w1 := hd.trans hB1
    obtain ⟨a1, q1, rfl, _, _, _, _⟩ := BytesAt.of_own (B := B) hown1
    refine hK _ _ ⟨⟨⟨w1, hB1'⟩, rfl⟩, ?_⟩
    clear hK K
    repeat (go_big_quiet_step (fail))
    refine wpQuiet_nil ?_
    refine hK' _ _ (Met.intro (hJ0.out _ _ ?_))
    repeat apply Exists.intro
    refine ⟨?_, rfl⟩
    exact ⟨_, _, rfl, rfl, hB1'⟩
  case rest =>
    obtain ⟨a1, q1, rfl, rfl, hBc⟩ := hcut
    rename World => w7
    have hs7 := hBc.size
    have hs60' := hs60.out
    have hV7 := hV6.out.grown hBc
    have hbv7 := hbv6.out.grown hBc
    have hbl7 := hbl6.out.grown hBc
    have hbo7 := hbo.out.grown hBc
    have d0 := hV7.c0
    have d2 := hV7.c2
    have dv : w7.cell? ⟨w.heap.size, 0, none⟩ = some (.pointer (some ⟨vg, 0, none⟩)) := hbv7.cell
    have dl : w7.cell? ⟨w.heap.size + 1, 0, none⟩ = some (.slice a l.length cap) := hbl7.cell
    have hl7 := hl6.out.trans (Lies.new (B := B) hBc (by omega)).toV
    clear zv zo z0 cv cl c0 c1 c2 c6 cv6
    replace hl7 := Lib.hid hl7
    rcases hcase.out with ⟨hE, he⟩ | hcase2
    · have hE1 : (E != 0) = true := by simp [hE]
      have hE2 : (E == 0) = false := by rw [beq_eq_false_iff_ne]; exact hE
      have hkp := hkpW.out E w7 hV7
      have hD7 := hD6.out.grown hBc
      replace hkp := Lib.hid hkp
      replace he := Lib.hid he
      clear hE
      go_wp2_with (go_at_call 37; refine hkp.out.mono ?_; rintro e w8 ⟨rfl, hw8⟩; replace hw8 := Lib.hid hw8)
      go_ret
      exact VaultRet.done he.out hD7 hV7 hl7.out hw8.out
    · have hE : E = 0 := by rcases hcase2 with h | h <;> exact h.1
      subst hE
      go_upto_region 10 with (fail)
      have hwg : IntKind.u64.wrap ((V.gen : Int) + 1) = ((V.gen + 1 : Nat) : Int) := by rw [IntWalk.u64_in _ (by omega)]; omega
      have hrm7 := fun wx (hb : Below w7.heap.size w7 wx) => hrm.out wx (hBc.trans (hb.mono hs7))
      have hfr7 := fun wx (hb : Below w7.heap.size w7 wx) => hfr.out wx (hBc.trans (hb.mono hs7))
      have hhd7 := fun wx (hb : Below w7.heap.size w7 wx) => hhd.out wx (hBc.trans (hb.mono hs7))
      replace hrm7 := Lib.hid hrm7
      replace hfr7 := Lib.hid hfr7
      replace hhd7 := Lib.hid hhd7
      have hHl : H.length ≤ 44 := by rw [hhl]; omega
      have hFl : F.length ≤ 1099511627776 := by rw [hfl.out]; exact hsz
      have hhl0 := Lib.hid hhl
      clear hhl
      have zv := fun z : Grew w7.heap.size w7 => Grew.cell dv (show w.heap.size < w7.heap.size by omega) z
      have zl := fun z : Grew w7.heap.size w7 => Grew.cell dl (show w.heap.size + 1 < w7.heap.size by omega) z
      have z2 := fun z : Grew w7.heap.size w7 => Grew.cell d2 hV7.1.lt z
      have hd : Below w7.heap.size w7 w7.drew := (Below.refl _ _).drew
      go_cut [9] (fun s wx => ∃ (bs : Nat) (sa : Option Addr) (sc : Nat), s = .pointer (some ⟨bs, 0, none⟩) ∧ Below w7.heap.size w7 wx ∧ Box wx bs 35 (.slice sa C.length sc) ∧ (sa = none → sc = 0) ∧ BytesAt B wx sa C)
      case first =>
        rename_i J K' hJ hK'
        have hJ0 := Lib.hid hJ
        refine wp_region_ways (S := fun w' => ∃ x : Grew w7.heap.size w7, w' = x.1) (.two [0, 1, 2, 3, 4, 5, 6, 8, 9, 10, 11, 12, 13] 7 (.two [] 14 (.two [] 15 (.one [] 16 (.one [] 17 (.last []))) 16 (.one [] 15 (.one [] 17 (.last [])))) 16 (.one [] 14 (.one [] 15 (.one [] 17 (.last []))))) 16 (.one [] 7 (.one [] 14 (.one [] 15 (.one [] 17 (.last [])))))) (by kernel_rfl) (by kernel_rfl) (by intro c a d u w h; cases d <;> exact h) ⟨⟨w7.drew, hd⟩, rfl⟩ ?_
        simp only [wpWays, picks, List.getElem?_toArray, List.getElem?_cons_succ, List.getElem?_cons_zero]
        repeat (go_big_quiet_step (fail))
        refine wpQuiet_nil ?_
        refine ⟨?_, ?_⟩
        · refine wpOp_step (by simp only [List.getElem?_toArray, List.getElem?_cons_succ, List.getElem?_cons_zero]; rfl) (fun K hK => ?_)
          go_simp
          refine (hhd7.out w7.drew hd).mono ?_
          rintro e wh ⟨vh, rfl, hownh, hBh⟩
          have hb1 := hd.trans (hBh.mono hd.size)
          obtain ⟨ah, qh, rfl, hnh, hlh, _, hbh⟩ := BytesAt.of_own (B := B) hownh
          refine hK _ _ ⟨⟨⟨wh, hb1⟩, rfl⟩, ?_⟩
          clear hK K
          refine wpQuiet_nil ?_
          refine ⟨?_, ?_⟩
          · refine wpOp_step (by simp only [List.getElem?_toArray, List.getElem?_cons_succ, List.getElem?_cons_zero]; rfl) (fun K hK => ?_)
            go_simp
            refine (hfr7.out wh hb1).mono ?_
            rintro e wf ⟨vf, rfl, hownf, hBf⟩
            have hb2 := hb1.trans (hBf.mono hb1.size)
            obtain ⟨af, qf, rfl, hnf, hlf, _, hbf⟩ := BytesAt.of_own (B := B) hownf
            replace hownh := hownh.on hBf
            refine hK _ _ ⟨⟨⟨wf, hb2⟩, rfl⟩, ?_⟩
            clear hK K
            refine wpQuiet_nil ?_
            refine ⟨?_, ?_⟩
            · refine wpOp_of_list (by simp only [List.getElem?_toArray, List.getElem?_cons_succ, List.getElem?_cons_zero]; rfl) ?_
              refine wpList_grow_bytes rfl (.tmp 47) (.tmp 54) rfl w7.drew.heap.size _ H rfl hownh af qf wf.heap.size F rfl hbf.reads hnf (by omega) (by have := hBh.size; have := hBf.size; show w7.heap.size ≤ _; have : w7.drew.heap.size = w7.heap.size := rfl; omega) w7.heap.size w7 hb2 (Nat.le_refl _) ?_
              intro va wa howna hga hb3
              rw [← hC.out] at howna
              refine wpList_end ⟨⟨⟨wa, hb3⟩, rfl⟩, ?_⟩
              refine wpQuiet_nil ?_
              go_frame
              obtain ⟨sa, sc, rfl, hsn, _, _, hbya⟩ := BytesAt.of_own (B := B) howna
              refine wpOp_step (by simp only [List.getElem?_toArray, List.getElem?_cons_succ, List.getElem?_cons_zero]; rfl) (fun K hK => ?_)
              go_simp
              have hal : Below wa.heap.size wa (wa.alloc (.cells #[.slice none 0 0] 35)) := (Below.refl _ _).alloc (Nat.le_refl _) _
              have hbx : Blk (wa.alloc (.cells #[.slice none 0 0] 35)) wa.heap.size 35 #[.slice none 0 0] := Blk.new wa _ _
              have hb9 : Below w7.heap.size w7 (wa.alloc (.cells #[.slice none 0 0] 35)) := hb3.trans (hal.mono hb3.size)
              refine hK _ _ ⟨⟨⟨_, hb9⟩, rfl⟩, ?_⟩
              clear hK K
              refine wpQuiet_nil ?_
              refine wpOp_step (by simp only [List.getElem?_toArray, List.getElem?_cons_succ, List.getElem?_cons_zero]; rfl) (fun K hK => ?_)
              go_simp
              have hb8 : Below w7.heap.size w7 (wa.alloc (.cells #[.slice sa C.length sc] 35)) := hb3.trans (((Below.refl _ _).alloc (Nat.le_refl _) _).mono hb3.size)
              refine hK _ _ ⟨⟨⟨_, hb8⟩, rfl⟩, ?_⟩
              clear hK K
              refine wpQuiet_nil ?_
              refine hK' _ _ (Met.intro (hJ0.out _ _ ?_))
              repeat apply Exists.intro
              refine ⟨?_, rfl⟩
              exact ⟨_, _, _, rfl, hb8, ⟨Blk.new wa _ _, by decide⟩, hsn, hbya.rest ((Lies.refl B wa).alloc (by have := hb3.size; omega) _)⟩
            · refine wpOp_step (by simp only [List.getElem?_toArray, List.getElem?_cons_succ, List.getElem?_cons_zero]; rfl) (fun K hK => ?_)
              go_simp
              have hal : Below wf.heap.size wf (wf.alloc (.cells #[.slice none 0 0] 35)) := (Below.refl _ _).alloc (Nat.le_refl _) _
              have hbx : Blk (wf.alloc (.cells #[.slice none 0 0] 35)) wf.heap.size 35 #[.slice none 0 0] := Blk.new wf _ _
              have hb9 : Below w7.heap.size w7 (wf.alloc (.cells #[.slice none 0 0] 35)) := hb2.trans (hal.mono hb2.size)
              refine hK _ _ ⟨⟨⟨_, hb9⟩, rfl⟩, ?_⟩
              clear hK K
              replace hownh := hownh.on hal
              replace hbf := hbf.rest (Lies.new hal (by have := hb2.size; omega))
              generalize (wf.alloc (.cells #[.slice none 0 0] 35)) = wb at *
              refine wpQuiet_nil ?_
              refine wpOp_of_list (by simp only [List.getElem?_toArray, List.getElem?_cons_succ, List.getElem?_cons_zero]; rfl) ?_
              refine wpList_grow_bytes rfl (.tmp 47) (.tmp 54) rfl w7.drew.heap.size _ H rfl hownh af qf wb.heap.size F rfl hbf.reads hnf (by omega) (by have := hBh.size; have := hBf.size; have := hal.size; show w7.heap.size ≤ _; have : w7.drew.heap.size = w7.heap.size := rfl; omega) w7.heap.size w7 hb9 (Nat.le_refl _) ?_
              intro va wa howna hga hb3
              rw [← hC.out] at howna
              have hbxa := hbx.grown hga (fun e => by obtain ⟨cur, hh, _⟩ := owns_block hownh e.symm; exact type_ne hbx hh (by decide) rfl)
              refine wpList_end ⟨⟨⟨wa, hb3⟩, rfl⟩, ?_⟩
              refine wpQuiet_nil ?_
              go_frame
              obtain ⟨sa, sc, rfl, hsn, _, hbs, hby⟩ := store_box (B := B) hbxa howna
              have hc0 := hbxa.cell 0
              have hf0 := hbxa.free 0
              refine wpOp_step (by simp only [List.getElem?_toArray, List.getElem?_cons_succ, List.getElem?_cons_zero]; rfl) (fun K hK => ?_)
              go_simp
              have hb5 := below_set hb3 (show w7.heap.size ≤ wf.heap.size by exact hb2.size) 0 (.slice sa C.length sc)
              refine hK _ _ ⟨⟨⟨_, hb5⟩, rfl⟩, ?_⟩
              clear hK K
              refine wpQuiet_nil ?_
              refine hK' _ _ (Met.intro (hJ0.out _ _ ?_))
              repeat apply Exists.intro
              refine ⟨?_, rfl⟩
              exact ⟨_, _, _, rfl, hb5, hbs, hsn, hby⟩
          · refine wpOp_step (by simp only [List.getElem?_toArray, List.getElem?_cons_succ, List.getElem?_cons_zero]; rfl) (fun K hK => ?_)
            go_simp
            have hal : Below wh.heap.size wh (wh.alloc (.cells #[.slice none 0 0] 35)) := (Below.refl _ _).alloc (Nat.le_refl _) _
            have hbx : Blk (wh.alloc (.cells #[.slice none 0 0] 35)) wh.heap.size 35 #[.slice none 0 0] := Blk.new wh _ _
            have hb9 : Below w7.heap.size w7 (wh.alloc (.cells #[.slice none 0 0] 35)) := hb1.trans (hal.mono hb1.size)
            refine hK _ _ ⟨⟨⟨_, hb9⟩, rfl⟩, ?_⟩
            clear hK K
            replace hownh := hownh.on hal
            generalize (wh.alloc (.cells #[.slice none 0 0] 35)) = wb at *
            refine wpQuiet_nil ?_
            refine wpOp_step (by simp only [List.getElem?_toArray, List.getElem?_cons_succ, List.getElem?_cons_zero]; rfl) (fun K hK => ?_)
            go_simp
            refine (hfr7.out wb hb9).mono ?_
            rintro e wf ⟨vf, rfl, hownf, hBf⟩
            have hb2 := hb9.trans (hBf.mono hb9.size)
            obtain ⟨af, qf, rfl, hnf, hlf, _, hbf⟩ := BytesAt.of_own (B := B) hownf
            replace hownh := hownh.on hBf
            replace hbx := hbx.below hBf hbx.lt
            refine hK _ _ ⟨⟨⟨wf, hb2⟩, rfl⟩, ?_⟩
            clear hK K
            refine wpQuiet_nil ?_
            refine wpOp_of_list (by simp only [List.getElem?_toArray, List.getElem?_cons_succ, List.getElem?_cons_zero]; rfl) ?_
            refine wpList_grow_bytes rfl (.tmp 47) (.tmp 54) rfl w7.drew.heap.size _ H rfl hownh af qf wf.heap.size F rfl hbf.reads hnf (by omega) (by have := hBh.size; have := hBf.size; have := hal.size; show w7.heap.size ≤ _; have : w7.drew.heap.size = w7.heap.size := rfl; omega) w7.heap.size w7 hb2 (Nat.le_refl _) ?_
            intro va wa howna hga hb3
            rw [← hC.out] at howna
            have hbxa := hbx.grown hga (fun e => by obtain ⟨cur, hh, _⟩ := owns_block hownh e.symm; exact type_ne hbx hh (by decide) rfl)
            refine wpList_end ⟨⟨⟨wa, hb3⟩, rfl⟩, ?_⟩
            refine wpQuiet_nil ?_
            go_frame
            obtain ⟨sa, sc, rfl, hsn, _, hbs, hby⟩ := store_box (B := B) hbxa howna
            have hc0 := hbxa.cell 0
            have hf0 := hbxa.free 0
            refine wpOp_step (by simp only [List.getElem?_toArray, List.getElem?_cons_succ, List.getElem?_cons_zero]; rfl) (fun K hK => ?_)
            go_simp
            have hb5 := below_set hb3 (show w7.heap.size ≤ wh.heap.size by exact hb1.size) 0 (.slice sa C.length sc)
            refine hK _ _ ⟨⟨⟨_, hb5⟩, rfl⟩, ?_⟩
            clear hK K
            refine wpQuiet_nil ?_
            refine hK' _ _ (Met.intro (hJ0.out _ _ ?_))
            repeat apply Exists.intro
            refine ⟨?_, rfl⟩
            exact ⟨_, _, _, rfl, hb5, hbs, hsn, hby⟩
        · refine wpOp_step (by simp only [List.getElem?_toArray, List.getElem?_cons_succ, List.getElem?_cons_zero]; rfl) (fun K hK => ?_)
          go_simp
          have hal0 : Below w7.heap.size w7 (w7.alloc (.cells #[.slice none 0 0] 35)).drew := ((Below.refl _ _).alloc (Nat.le_refl _) _).drew
          have hbx : Blk (w7.alloc (.cells #[.slice none 0 0] 35)).drew w7.heap.size 35 #[.slice none 0 0] := (Blk.new w7 _ _).drew
          refine hK _ _ ⟨⟨⟨_, hal0⟩, rfl⟩, ?_⟩
          clear hK K
          generalize (w7.alloc (.cells #[.slice none 0 0] 35)).drew = wb at *
          refine wpQuiet_nil ?_
          refine wpOp_step (by simp only [List.getElem?_toArray, List.getElem?_cons_succ, List.getElem?_cons_zero]; rfl) (fun K hK => ?_)
          go_simp
          refine (hhd7.out wb hal0).mono ?_
          rintro e wh ⟨vh, rfl, hownh, hBh⟩
          have hb1 := hal0.trans (hBh.mono hal0.size)
          obtain ⟨ah, qh, rfl, hnh, hlh, _, hbh⟩ := BytesAt.of_own (B := B) hownh
          replace hbx := hbx.below hBh hbx.lt
          refine hK _ _ ⟨⟨⟨wh, hb1⟩, rfl⟩, ?_⟩
          clear hK K
          refine wpQuiet_nil ?_
          refine wpOp_step (by simp only [List.getElem?_toArray, List.getElem?_cons_succ, List.getElem?_cons_zero]; rfl) (fun K hK => ?_)
          go_simp
          refine (hfr7.out wh hb1).mono ?_
          rintro e wf ⟨vf, rfl, hownf, hBf⟩
          have hb2 := hb1.trans (hBf.mono hb1.size)
          obtain ⟨af, qf, rfl, hnf, hlf, _, hbf⟩ := BytesAt.of_own (B := B) hownf
          replace hownh := hownh.on hBf
          replace hbx := hbx.below hBf hbx.lt
          refine hK _ _ ⟨⟨⟨wf, hb2⟩, rfl⟩, ?_⟩
          clear hK K
          refine wpQuiet_nil ?_
          refine wpOp_of_list (by simp only [List.getElem?_toArray, List.getElem?_cons_succ, List.getElem?_cons_zero]; rfl) ?_
          refine wpList_grow_bytes rfl (.tmp 47) (.tmp 54) rfl wb.heap.size _ H rfl hownh af qf wf.heap.size F rfl hbf.reads hnf (by omega) (by have := hBh.size; have := hBf.size; omega) w7.heap.size w7 hb2 (hal0.size) ?_
          intro va wa howna hga hb3
          rw [← hC.out] at howna
          have hbxa := hbx.grown hga (fun e => by obtain ⟨cur, hh, _⟩ := owns_block hownh e.symm; exact type_ne hbx hh (by decide) rfl)
          refine wpList_end ⟨⟨⟨wa, hb3⟩, rfl⟩, ?_⟩
          refine wpQuiet_nil ?_
          go_frame
          obtain ⟨sa, sc, rfl, hsn, _, hbs, hby⟩ := store_box (B := B) hbxa howna
          have hc0 := hbxa.cell 0
          have hf0 := hbxa.free 0
          refine wpOp_step (by simp only [List.getElem?_toArray, List.getElem?_cons_succ, List.getElem?_cons_zero]; rfl) (fun K hK => ?_)
          go_simp
          have hb5 := below_set hb3 (show w7.heap.size ≤ w7.heap.size by exact Nat.le_refl _) 0 (.slice sa C.length sc)
          refine hK _ _ ⟨⟨⟨_, hb5⟩, rfl⟩, ?_⟩
          clear hK K
          refine wpQuiet_nil ?_
          refine hK' _ _ (Met.intro (hJ0.out _ _ ?_))
          repeat apply Exists.intro
          refine ⟨?_, rfl⟩
          exact ⟨_, _, _, rfl, hb5, hbs, hsn, hby⟩
      case rest =>
        obtain ⟨bs, sa, sc, rfl, hBe, hxs, hsn, hby⟩ := hcut
        rename World => w10
        have hs10 := hBe.size
        have hV10 := hV7.grown hBe
        have hbv10 := hbv7.grown hBe
        have hD10 := hD6.out.grown (hBc.trans (hBe.mono hs7))
        have e0 := hV10.c0
        have ev : w10.cell? ⟨w.heap.size, 0, none⟩ = some (.pointer (some ⟨vg, 0, none⟩)) := hbv10.cell
        have es := hxs.cell
        have hxl := hxs.1.lt
        clear zv zl z2 dv dl d0 d2
        have yv := fun z : Grew w10.heap.size w10 => Grew.cell ev (show w.heap.size < w10.heap.size by omega) z
        have ys := fun z : Grew w10.heap.size w10 => Grew.cell es hxl z
        have y0 := fun z : Grew w10.heap.size w10 => Grew.cell e0 hV10.1.lt z
        have hrm10 := fun wx (hb : Below w10.heap.size w10 wx) => hrm7.out wx (hBe.trans (hb.mono hs10))
        replace hrm10 := Lib.hid hrm10
        have hroom4 : D.room ≤ 4194304 := by omega
        have hCle : C.length ≤ 1099511627820 := by rw [hCl.out]; omega
        go_upto_region 11 with (fail)
        go_cut [66] (fun s wx => s = .bool (decide (D.room + X.length < C.length)) ∧ Below w10.heap.size w10 wx)
        case first =>
          rename_i J K' hJ hK'
          have hJ0 := Lib.hid hJ
          refine wp_region_ways (S := fun w' => ∃ x : Grew w10.heap.size w10, w' = x.1) (.one [0, 1, 2, 3, 4, 5, 7, 8] 6 (.last [9, 10])) (by kernel_rfl) (by kernel_rfl) (by intro c a d u w h; cases d <;> exact h) ⟨⟨w10.drew, (Below.refl _ _).drew⟩, rfl⟩ ?_
          simp only [wpWays, picks, List.getElem?_toArray, List.getElem?_cons_succ, List.getElem?_cons_zero]
          repeat (go_big_quiet_step (fail))
          refine wpQuiet_nil ?_
          have hd2 : Below w10.heap.size w10 w10.drew := (Below.refl _ _).drew
          refine wpOp_step (by simp only [List.getElem?_toArray, List.getElem?_cons_succ, List.getElem?_cons_zero]; rfl) (fun K hK => ?_)
          go_simp
          refine (hrm10.out w10.drew hd2).mono ?_
          rintro e w1 ⟨rfl, hB1⟩
          have hB1' : Below w10.heap.size w10 w1 := hd2.trans hB1
          refine hK _ _ ⟨⟨⟨w1, hB1'⟩, rfl⟩, ?_⟩
          clear hK K
          repeat (go_big_quiet_step (fail))
          refine wpQuiet_nil ?_
          refine hK' _ _ (Met.intro (hJ0.out _ _ ?_))
          repeat apply Exists.intro
          refine ⟨?_, rfl⟩
          exact ⟨by first | rfl | (congr 2; apply propext; omega), hB1'⟩
        case rest =>
          obtain ⟨hu, hBd⟩ := hcut
          subst hu
          have hBx := hBe.trans (hBd.mono hs10)
          have hBy := hBc.trans (hBx.mono hs7)
          have hLy := Lies.new (B := B) hBy (by omega)
          have hDc := hD6.out.grown hBy
          have hVc := hV6.out.grown hBy
          have hxv := hbv6.out.grown hBy
          have hxl2 := hbl6.out.grown hBy
          have hxo := hbo.out.grown hBy
          have hxs2 := hxs.grown hBd
          have hby2 := hby.rest (Lies.new (B := B) hBd (by omega))
          have hall := hl6.out.trans hLy.toV
          have e1 : wc.cell? ⟨w.heap.size, 0, none⟩ = some (.pointer (some ⟨vg, 0, none⟩)) := hxv.cell
          have hszc := hBy.size
          clear ys yv y0 e0 ev es hrm10 hrm7 hfr7 hhd7 hrm hfr hhd hrd
          replace hDc := Lib.hid hDc
          replace hVc := Lib.hid hVc
          replace hxv := Lib.hid hxv
          replace hxl2 := Lib.hid hxl2
          replace hxs2 := Lib.hid hxs2
          replace hxo := Lib.hid hxo
          replace hby2 := Lib.hid hby2
          replace hall := Lib.hid hall
          rcases hcase2 with ⟨_, h3, he⟩ | ⟨_, h3, he⟩
          · have hb : decide (D.room + X.length < C.length) = true := decide_eq_true (by rw [hCl.out]; exact h3)
            have he0 := Lib.hid he
            generalize decide (D.room + X.length < C.length) = b at *
            subst hb
            clear h3 he
            go_wp2_with (fail)
            go_ret
            exact VaultRet.same' he0.out hDc.out hVc.out hall.out
          · have hb : decide (D.room + X.length < C.length) = false := decide_eq_false (by rw [hCl.out]; exact h3)
            have he0 := Lib.hid he
            generalize decide (D.room + X.length < C.length) = b at *
            subst hb
            clear h3 he
            go_upto_region 13 with (fail)
            obtain ⟨cl, hcl⟩ : ∃ cl : List (Addr × Value), cl = [(⟨w.heap.size, 0, none⟩, .pointer (some ⟨vg, 0, none⟩))] := ⟨_, rfl⟩
            have z0 := fun z : Has cl => z.cell (a := ⟨w.heap.size, 0, none⟩) (v := .pointer (some ⟨vg, 0, none⟩)) (by rw [hcl]; simp)
            have hS : ∀ wx, Box wx w.heap.size 29 (.pointer (some ⟨vg, 0, none⟩)) → ∃ x : Has cl, wx = x.1 := fun wx k => Has.mk (fun p hp => by
              rw [hcl, List.mem_singleton] at hp
              subst hp
              exact k.cell)
            have : Nonempty (Has cl) := (hS wc hxv.out).elim fun x _ => ⟨x⟩
            replace hS := Lib.hid hS
            clear hcl
            refine wp_region_ways (S := fun w' => ∃ x : Has cl, w' = x.1) (.one [0, 1, 2, 3, 4, 5] 6 (.one [] 7 (.one [] 8 (.last [9])))) (by kernel_rfl) (by kernel_rfl) (by intro c a d u w h; cases d <;> exact h) (hS.out wc.drew hxv.out) ?_
            simp only [wpWays, picks, List.getElem?_toArray, List.getElem?_cons_succ, List.getElem?_cons_zero]
            repeat (go_big_quiet_step (fail))
            refine wpQuiet_nil ?_
            refine wpOp_step (by simp only [List.getElem?_toArray, List.getElem?_cons_succ, List.getElem?_cons_zero]; rfl) (fun K hK => ?_)
            go_simp
            have hB9 : Below wc.heap.size wc (wc.alloc (.cells #[.func (.func 42) #[] #[.pointer (some ⟨w.heap.size, 0, none⟩), .pointer (some ⟨W.heap.size, 0, none⟩)], .func (.func 43) #[] #[.pointer (some ⟨w.heap.size, 0, none⟩), .pointer (some ⟨W.heap.size, 0, none⟩), .pointer (some ⟨bs, 0, none⟩)], .func (.func 44) #[] #[.pointer (some ⟨w.heap.size, 0, none⟩), .pointer (some ⟨W.heap.size, 0, none⟩)], .func (.func 45) #[] #[.pointer (some ⟨w.heap.size, 0, none⟩)], .func (.func 46) #[] #[.pointer (some ⟨W.heap.size, 0, none⟩), .pointer (some ⟨w.heap.size, 0, none⟩), .pointer (some ⟨w.heap.size + 1, 0, none⟩)]] 43)).drew := ((Below.refl _ _).alloc (Nat.le_refl _) _).drew
            have hsl9 : Blk (wc.alloc (.cells #[.func (.func 42) #[] #[.pointer (some ⟨w.heap.size, 0, none⟩), .pointer (some ⟨W.heap.size, 0, none⟩)], .func (.func 43) #[] #[.pointer (some ⟨w.heap.size, 0, none⟩), .pointer (some ⟨W.heap.size, 0, none⟩), .pointer (some ⟨bs, 0, none⟩)], .func (.func 44) #[] #[.pointer (some ⟨w.heap.size, 0, none⟩), .pointer (some ⟨W.heap.size, 0, none⟩)], .func (.func 45) #[] #[.pointer (some ⟨w.heap.size, 0, none⟩)], .func (.func 46) #[] #[.pointer (some ⟨W.heap.size, 0, none⟩), .pointer (some ⟨w.heap.size, 0, none⟩), .pointer (some ⟨w.heap.size + 1, 0, none⟩)]] 43)).drew wc.heap.size 43 #[.func (.func 42) #[] #[.pointer (some ⟨w.heap.size, 0, none⟩), .pointer (some ⟨W.heap.size, 0, none⟩)], .func (.func 43) #[] #[.pointer (some ⟨w.heap.size, 0, none⟩), .pointer (some ⟨W.heap.size, 0, none⟩), .pointer (some ⟨bs, 0, none⟩)], .func (.func 44) #[] #[.pointer (some ⟨w.heap.size, 0, none⟩), .pointer (some ⟨W.heap.size, 0, none⟩)], .func (.func 45) #[] #[.pointer (some ⟨w.heap.size, 0, none⟩)], .func (.func 46) #[] #[.pointer (some ⟨W.heap.size, 0, none⟩), .pointer (some ⟨w.heap.size, 0, none⟩), .pointer (some ⟨w.heap.size + 1, 0, none⟩)]] := (Blk.new wc _ _).drew
            have hL9 := Lies.new (B := B) hB9 (by omega)
            have hx9 := hxv.out.grown hB9
            refine hK _ _ ⟨hS.out _ hx9, ?_⟩
            clear hK K
            have hk := compall_any B cnt hcnt D hok0.out V vg dg w.heap.size (w.heap.size + 1) bs W.heap.size wc.heap.size o l.length a cap (by omega) (by omega) C sa sc hsn (by omega) _ ⟨hDc.out.grown hB9, hVc.out.grown hB9, hx9, hxo.out.grown hB9, hxl2.out.grown hB9, hxs2.out.grown hB9, hby2.out.rest hL9⟩ hsl9
            have hall9 := hall.out.trans hL9.toV
            generalize (wc.alloc (.cells #[.func (.func 42) #[] #[.pointer (some ⟨w.heap.size, 0, none⟩), .pointer (some ⟨W.heap.size, 0, none⟩)], .func (.func 43) #[] #[.pointer (some ⟨w.heap.size, 0, none⟩), .pointer (some ⟨W.heap.size, 0, none⟩), .pointer (some ⟨bs, 0, none⟩)], .func (.func 44) #[] #[.pointer (some ⟨w.heap.size, 0, none⟩), .pointer (some ⟨W.heap.size, 0, none⟩)], .func (.func 45) #[] #[.pointer (some ⟨w.heap.size, 0, none⟩)], .func (.func 46) #[] #[.pointer (some ⟨W.heap.size, 0, none⟩), .pointer (some ⟨w.heap.size, 0, none⟩), .pointer (some ⟨w.heap.size + 1, 0, none⟩)]] 43)).drew = W9 at *
            generalize runL (compOps o l.length C) (D, V) = R at *
            replace hk := Lib.hid hk
            refine wpQuiet_nil ?_
            refine wpOp_step (by simp only [List.getElem?_toArray, List.getElem?_cons_succ, List.getElem?_cons_zero]; rfl) (fun K hK => ?_)
            go_simp
            refine hk.out.mono ?_
            rintro e wa ⟨rfl, ⟨hDa, hVa⟩, hLa⟩
            have hxa := hx9.restV hLa
            refine hK _ _ ⟨hS.out _ hxa, ?_⟩
            clear hK K
            have hkp := hkpW.out R.2 wa hVa
            replace hkp := Lib.hid hkp
            refine wpQuiet_nil ?_
            refine wpOp_step (by simp only [List.getElem?_toArray, List.getElem?_cons_succ, List.getElem?_cons_zero]; rfl) (fun K hK => ?_)
            go_simp
            refine hkp.out.mono ?_
            rintro e wb ⟨rfl, hwb⟩
            have hwb0 := Lib.hid hwb
            have hxb : Box wb w.heap.size 29 (.pointer (some ⟨vg, 0, none⟩)) := by rw [hwb]; exact hxa.restV (hVa.liesV 4 _)
            refine hK _ _ ⟨hS.out _ hxb, ?_⟩
            clear hK K hwb
            repeat (go_big_quiet_step (fail))
            refine wpQuiet_nil ?_
            go_wp2_with (fail)
            go_ret
            exact VaultRet.done he0.out hDa hVa (hall9.trans hLa) hwb0.out
end Go.Proofs.YtiidohaibbdgeaaDoor

