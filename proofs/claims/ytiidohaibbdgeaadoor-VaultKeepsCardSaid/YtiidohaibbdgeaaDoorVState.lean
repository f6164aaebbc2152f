/-
  A vault's disk through its calls: what bounds it, what it is behind a loss of power, behind a fuse. Plain.
-/
import Derived.Test.YtiidohaibbdgeaaDoorVSame
namespace Go.Proofs.YtiidohaibbdgeaaDoor
open Go Go.RowKit

theorem runL_inv {σ : Type} (P : Nat → σ → Prop) (N : Nat) (hm : ∀ k s, P k s → k < N → P (k + 1) s) : ∀ (fs : List (σ → σ × Int)) (k : Nat) (s : σ), P k s → k + fs.length ≤ N → (∀ f ∈ fs, ∀ k s, P k s → k < N → P (k + 1) (f s).1) → P (k + fs.length) (runL fs s).1
  | [], k, s, h, _, _ => h
  | f :: fs, k, s, h, hN, hf => by
    rw [List.length_cons] at hN ⊢
    have h1 := hf f (by simp) k s h (by omega)
    rw [runL]
    split
    · have up : ∀ m k s, P k s → k + m ≤ N → P (k + m) s := fun m => by
        induction m with
        | zero => intro k s h _; exact h
        | succ m ih => intro k s h hk; have := ih (k + 1) s (hm k s h (by omega)) (by omega); rwa [show k + 1 + m = k + (m + 1) by omega] at this
      have := up fs.length (k + 1) _ h1 (by omega)
      rwa [show k + 1 + fs.length = k + (fs.length + 1) by omega] at this
    · have := runL_inv P N hm fs (k + 1) _ h1 (by omega) (fun g hg => hf g (by simp [hg]))
      rwa [show k + 1 + fs.length = k + (fs.length + 1) by omega] at this

theorem ok_mono {D : DiskM} {a b : Nat} (h : D.ok a) (hab : a ≤ b) (hb : b ≤ 1099511627776) : D.ok b := ⟨h.most1, h.most2, h.ok0, h.ok1, Nat.le_trans h.n0 hab, Nat.le_trans h.n1 hab, hb, h.left0, h.left1⟩
theorem addL_ok {l : List Bs} {x : DV} {cnt : Nat} (h : x.1.ok cnt) (hc : cnt + 3 ≤ 1099511627776) : (addL l x).1.1.ok (cnt + 3) := by
  have h3 := ok_mono h (show cnt ≤ cnt + 3 by omega) hc
  unfold addL
  split; · exact h3
  split; · exact h3
  split; · exact h3
  split; · exact h3
  exact runL_inv (fun k (s : DV) => s.1.ok k) 1099511627776 (fun k s h hk => h.more hk) _ cnt x h hc (fun f hf k s h hk => by
    simp only [addOps, List.mem_cons, List.not_mem_nil, or_false] at hf
    rcases hf with rfl | rfl | rfl
    · exact write_ok h _ _ hk
    · exact (sync_ok h _).more hk
    · exact h.more hk)
theorem compL_ok {l : List Bs} {x : DV} {cnt : Nat} (h : x.1.ok cnt) (hc : cnt + 5 ≤ 1099511627776) : (compL l x).1.1.ok (cnt + 5) := by
  have h3 := ok_mono h (show cnt ≤ cnt + 5 by omega) hc
  unfold compL
  split; · exact h3
  split; · exact h3
  split; · exact h3
  split; · exact h3
  split; · exact h3
  exact runL_inv (fun k (s : DV) => s.1.ok k) 1099511627776 (fun k s h hk => h.more hk) _ cnt x h hc (fun f hf k s h hk => by
    simp only [compOps, List.mem_cons, List.not_mem_nil, or_false] at hf
    rcases hf with rfl | rfl | rfl | rfl | rfl
    · exact vcut_ok h _ _ hk
    · exact write_ok h _ _ hk
    · exact (sync_ok h _).more hk
    · exact cut_ok h _ _ hk
    · exact h.more hk)
theorem openV_ok {D : DiskM} {cnt : Nat} (h : D.ok cnt) (hc : cnt + 4 ≤ 1099511627776) : D.openV.1.ok (cnt + 4) := by
  have h3 := ok_mono h (show cnt ≤ cnt + 4 by omega) hc
  unfold DiskM.openV
  split; · exact h3
  split
  · exact runL_inv (fun k (s : DiskM) => s.ok k) 1099511627776 (fun k s h hk => h.more hk) _ cnt D h hc (fun f hf k s h hk => by
      simp only [beginOps, List.mem_cons, List.not_mem_nil, or_false] at hf
      rcases hf with rfl | rfl | rfl | rfl
      · exact vcut_ok h _ _ hk
      · exact vcut_ok h _ _ hk
      · exact write_ok h _ _ hk
      · exact (sync_ok h _).more hk)
  · rename_i f x l _
    have := runL_inv (fun k (s : DiskM) => s.ok k) 1099511627776 (fun k s h hk => h.more hk) (openOps f (44 + sizesL l)) cnt D h (by simp only [openOps, List.length_cons, List.length_nil]; omega) (fun f hf k s h hk => by
      simp only [openOps, List.mem_cons, List.not_mem_nil, or_false] at hf
      rcases hf with rfl | rfl | rfl
      · exact vcut_ok h _ _ hk
      · exact (sync_ok h _).more hk
      · exact vcut_ok h _ _ hk)
    exact ok_mono this (by simp only [openOps, List.length_cons, List.length_nil]; omega) hc

theorem ok_units {D : DiskM} {cnt : Nat} (h : D.ok cnt) (hc : cnt ≤ 1073741824) (f : Nat) : unitsL (D.file f).loose ≤ 4611686018427387904 := by
  have h2 : D.most + 1 ≤ 4194305 := Nat.succ_le_succ h.most2
  unfold DiskM.file
  split
  · have := okL_units h.ok0
    exact Nat.le_trans this (Nat.le_trans (Nat.mul_le_mul (Nat.le_trans h.n0 hc) h2) (by decide))
  · have := okL_units h.ok1
    exact Nat.le_trans this (Nat.le_trans (Nat.mul_le_mul (Nat.le_trans h.n1 hc) h2) (by decide))

/-- A disk whose best file is firm. -/
def Closed (M : Nat) (all : List Bs) (f g : Nat) (D : DiskM) : Prop := f < 2 ∧ ∃ s O lf, D = mkD f ⟨s, []⟩ O M false false lf ∧ Snd f g all s ∧ ∀ t, O.res t → Lower (1 - f) g t
theorem Good.closed {M : Nat} {x : DV} {all : List Bs} (h : Good M false x all) : Closed M all x.2.file x.2.gen x.1 := by
  obtain ⟨h1, _, _, s, O, lf, h4, h5, _, h7⟩ := h
  exact ⟨h1, s, O, lf, h4, h5, h7⟩
theorem Closed.open_ {M : Nat} {all : List Bs} {f g : Nat} {D : DiskM} (h : Closed M all f g D) :
    D.openV.2.1 = 0 ∧ D.openV.2.2 = some (⟨f, g, all.length, false⟩, all) ∧ Good M false (D.openV.1, ⟨f, g, all.length, false⟩) all := by
  obtain ⟨hf, s, O, lf, rfl, h5, h7⟩ := h
  rcases open_found (M := M) (fu := false) hf (A := ⟨s, []⟩) (O := O) (lf := lf) h5.look h7 (fun h => by cases h) (by simp [unitsL]) with h | ⟨h, _⟩
  · exact h
  · cases h
/-- The power goes, and comes back. -/
theorem Good.offon {M : Nat} {fu : Bool} {x : DV} {all : List Bs} (h : Good M fu x all) (picks : List Int) : x.1.down.2 = 0 ∧ (x.1.down.1.on picks).2 = 0 ∧ Closed M all x.2.file x.2.gen (x.1.down.1.on picks).1 := by
  obtain ⟨D, V⟩ := x
  obtain ⟨h1, _, _, s, O, lf, h4, h5, _, h7⟩ := h
  simp only at h1 h4 h5 h7 ⊢
  subst h4
  obtain ⟨f, g, n, br⟩ := V
  simp only at h1 h5 h7 ⊢
  match f, h1 with
  | 0, _ =>
    obtain ⟨t, ht, hr⟩ := settle_res O (pickAt picks 1)
    refine ⟨rfl, rfl, by omega, s, ⟨t, []⟩, lf, ?_, h5, fun t' ht' => by rw [res_firm ht']; exact h7 t hr⟩
    show (⟨FileM.settle ⟨s, []⟩ (pickAt picks 0), O.settle (pickAt picks 1), M, false, false, lf⟩ : DiskM) = ⟨⟨s, []⟩, ⟨t, []⟩, M, false, false, lf⟩
    rw [ht]
    rfl
  | 1, _ =>
    obtain ⟨t, ht, hr⟩ := settle_res O (pickAt picks 0)
    refine ⟨rfl, rfl, by omega, s, ⟨t, []⟩, lf, ?_, h5, fun t' ht' => by rw [res_firm ht']; exact h7 t hr⟩
    show (⟨O.settle (pickAt picks 0), FileM.settle ⟨s, []⟩ (pickAt picks 1), M, false, false, lf⟩ : DiskM) = ⟨⟨t, []⟩, ⟨s, []⟩, M, false, false, lf⟩
    rw [ht]
    rfl

/-- The power goes ahead of the second call of the disk: of an Add the records are written, and not sure. -/
theorem fuse_add {M : Nat} {x : DV} {all l : List Bs} (h : Good M false x all) (h0 : x.2.file = 0) (hl : longL l = false) (hn : l.length ≠ 0) (hr : sizesL l ≤ M - (44 + sizesL all)) :
    (x.1.fuse 1).2 = 0 ∧ (addL l ((x.1.fuse 1).1, x.2)).2 = 8 ∧ (addL l ((x.1.fuse 1).1, x.2)).1.2.broken = true ∧ (addL l ((x.1.fuse 1).1, x.2)).1.1.off = true ∧
    ∀ (picks : List Int), pickAt picks 0 = sizesL l → (((addL l ((x.1.fuse 1).1, x.2)).1.1).on picks).2 = 0 ∧ Closed M (all ++ l) 0 x.2.gen (((addL l ((x.1.fuse 1).1, x.2)).1.1).on picks).1 := by
  have hroom := h.room
  obtain ⟨D, V⟩ := x
  obtain ⟨h1, h2, h3, s, O, lf, h4, h5, h6, h7⟩ := h
  simp only at h0 h1 h2 h3 h4 h5 h7 hroom ⊢
  rw [h0] at h4 h5 h7
  subst h4
  have hfu : ((mkD 0 ⟨s, []⟩ O M false false lf).fuse 1) = (mkD 0 ⟨s, []⟩ O M false true 1, 0) := rfl
  rw [hfu]
  simp only
  have hroom2 : (mkD 0 ⟨s, []⟩ O M false true 1).room = M - (44 + sizesL all) := hroom
  have e : addL l (mkD 0 ⟨s, []⟩ O M false true 1, V) = keepL (runL (addOps l.length (framesL V.gen all.length l)) (mkD 0 ⟨s, []⟩ O M false true 1, V)) := by
    simp only [addL, h2, hl, hroom2, hn, h3, if_false, Bool.false_eq_true]
    rw [if_neg (by omega)]
  rw [e]
  have hFl := framesL_length V.gen all.length l
  have hmore := h5.more (longL_false hl)
  generalize framesL V.gen all.length l = F at *
  have hsl := h5.length
  have hw : (mkD 0 ⟨s, []⟩ O M false true 1).write ((0 : Nat) : Int) F = (mkD 0 (FileM.put ⟨s, []⟩ (.wr F)) O M false true 0, 0) := by
    unfold DiskM.write
    rw [mkD_may (f := 0) (by omega), if_neg (by simp), if_neg (by rw [hroom2]; omega)]
    unfold DiskM.goes
    rw [if_neg (by rw [mkD_left]; omega)]
    have hz : RowKit.wrap64 ((mkD 0 ⟨s, []⟩ O M false true 1).left - 1) = 0 := by rw [mkD_left]; unfold RowKit.wrap64; omega
    rw [hz]
    rfl
  have hy : (mkD 0 (FileM.put ⟨s, []⟩ (.wr F)) O M false true 0).sync ((0 : Nat) : Int) = (mkD 0 (FileM.put ⟨s, []⟩ (.wr F)) O M true true 0, 8) := by
    unfold DiskM.sync
    rw [mkD_may (f := 0) (by omega), if_neg (by simp)]
    rfl
  have e1 : runL (addOps l.length F) (mkD 0 ⟨s, []⟩ O M false true 1, V) = ((mkD 0 (FileM.put ⟨s, []⟩ (.wr F)) O M true true 0, V), 8) := by
    refine (runL_cons0 (s' := (mkD 0 (FileM.put ⟨s, []⟩ (.wr F)) O M false true 0, V)) ?_).trans (runL_consE ?_ (by omega))
    · simp only
      rw [h0, hw]
    · simp only
      rw [h0, hy]
  rw [e1]
  refine ⟨trivial, rfl, rfl, rfl, fun picks hp => ?_⟩
  obtain ⟨t, ht, hr'⟩ := settle_res O (pickAt picks 1)
  have hs0 : FileM.settle (FileM.put ⟨s, []⟩ (.wr F)) (pickAt picks 0) = ⟨s ++ F, []⟩ := by
    rw [settle_all (by rw [hp, ← hFl]; simp [FileM.put, unitsL, Chg.units]), stands_put_wr, stands_firm]
  refine ⟨rfl, by omega, s ++ F, ⟨t, []⟩, 0, ?_, hmore, fun t' ht' => by rw [res_firm ht']; exact h7 t hr'⟩
  show (⟨FileM.settle (FileM.put ⟨s, []⟩ (.wr F)) (pickAt picks 0), O.settle (pickAt picks 1), M, false, false, 0⟩ : DiskM) = ⟨⟨s ++ F, []⟩, ⟨t, []⟩, M, false, false, 0⟩
  rw [ht, hs0]
theorem add_broken {l : List Bs} {x : DV} (h : x.2.broken = true) : addL l x = (x, 3) := by simp [addL, h]
theorem down_off {D : DiskM} (h : D.off = true) : D.down = (D, 8) := by simp [DiskM.down, h]

/-- A vault on a new disk. -/
theorem new_open {M : Nat} (h1 : 44 ≤ M) (h2 : M ≤ 4194304) : (DiskM.new M).openV.2.1 = 0 ∧ (DiskM.new M).openV.2.2 = some (⟨1, 1, 0, false⟩, []) ∧ Good M false ((DiskM.new M).openV.1, ⟨1, 1, 0, false⟩) [] := by
  have e : DiskM.new M = mkD 1 ⟨[], []⟩ ⟨[], []⟩ M false false 0 := rfl
  rw [e]
  obtain ⟨k1, k2, k3⟩ := open_begun (M := M) h1 h2 (A := ⟨[], []⟩) (O := ⟨[], []⟩) (lf := 0) (lookL_nil 1) (fun t ht => by rw [res_firm ht]; exact lookL_nil 0)
  exact ⟨k1, k2, k3 (by simp [unitsL])⟩
end Go.Proofs.YtiidohaibbdgeaaDoor
