/-
  The law of stage 12, plain; in memory; past.found, heavy; the steps that come in, opened.
-/
import Derived.Test.YtiidohaibbdgeaaDoorVTurn
import Derived.Test.YtiidohaibbdgeaaDoorVState
import Derived.Test.YtiidohaibbdgeaaDoorVRow
namespace Go.Proofs.YtiidohaibbdgeaaDoor
open Go Go.RowKit

/-- What a vault had when the last call was answered OK; what an Add that was not was to add; what a Compact that was not was to leave. -/
structure PastM where
  all : List Bs
  more : List Bs
  next : List Bs
  other : Bool
def PastM.found (p : PastM) (l : List Bs) : Prop := (p.other = true ∧ l = p.next) ∨ ∃ n, n ≤ p.more.length ∧ l = p.all ++ p.more.take n
theorem PastM.found_all (p : PastM) : p.found p.all := .inr ⟨0, by omega, by simp⟩

theorem add_vault (l : List Bs) (x : DV) : (addL l x).1.2.file = x.2.file ∧ (addL l x).1.2.gen = x.2.gen ∧ (addL l x).1.2.n ≤ x.2.n + l.length := by
  unfold addL
  split; · exact ⟨rfl, rfl, by show x.2.n ≤ _; omega⟩
  split; · exact ⟨rfl, rfl, by show x.2.n ≤ _; omega⟩
  split; · exact ⟨rfl, rfl, by show x.2.n ≤ _; omega⟩
  split; · exact ⟨rfl, rfl, by show x.2.n ≤ _; omega⟩
  show (runL (addOps l.length (framesL x.2.gen x.2.n l)) x).1.2.file = _ ∧ (runL (addOps l.length (framesL x.2.gen x.2.n l)) x).1.2.gen = _ ∧ (runL (addOps l.length (framesL x.2.gen x.2.n l)) x).1.2.n ≤ _
  simp only [addOps, runL]
  split
  · exact ⟨rfl, rfl, by show x.2.n ≤ _; omega⟩
  · split
    · exact ⟨rfl, rfl, by show x.2.n ≤ _; omega⟩
    · simp only [ne_eq, not_true_eq_false, if_false]
      exact ⟨trivial, trivial, Nat.le_refl _⟩
theorem comp_run (o m : Nat) (F : Bs) (x : DV) : (runL (compOps o m F) x).1.2 = x.2 ∨ (runL (compOps o m F) x).1.2 = { x.2 with file := o, gen := x.2.gen + 1, n := m } := by
  simp only [compOps, runL]
  split; · exact .inl rfl
  split; · exact .inl rfl
  split; · exact .inl rfl
  split; · exact .inl rfl
  simp only [ne_eq, not_true_eq_false, if_false]
  exact .inr trivial
/-- A vault's numbers. -/
def VaultM.ok (V : VaultM) : Prop := V.file < 2 ∧ V.gen ≤ 4611686018427387904 ∧ V.n ≤ 1099511627776
theorem comp_vault {l : List Bs} {x : DV} (h : x.2.ok) (hl : l.length ≤ 1099511627776) : (compL l x).1.2.ok := by
  obtain ⟨h1, h2, h3⟩ := h
  unfold compL
  split; · exact ⟨h1, h2, h3⟩
  split; · exact ⟨h1, h2, h3⟩
  split; · exact ⟨h1, h2, h3⟩
  rename_i hg
  split; · exact ⟨h1, h2, h3⟩
  split; · exact ⟨h1, h2, h3⟩
  have := comp_run (1 - x.2.file) l.length (headL (x.2.gen + 1) l.length ++ framesL (x.2.gen + 1) 0 l) x
  show (runL (compOps (1 - x.2.file) l.length (headL (x.2.gen + 1) l.length ++ framesL (x.2.gen + 1) 0 l)) x).1.2.file < 2 ∧ (runL (compOps (1 - x.2.file) l.length (headL (x.2.gen + 1) l.length ++ framesL (x.2.gen + 1) 0 l)) x).1.2.gen ≤ _ ∧ (runL (compOps (1 - x.2.file) l.length (headL (x.2.gen + 1) l.length ++ framesL (x.2.gen + 1) 0 l)) x).1.2.n ≤ _
  rcases this with this | this
  · rw [this]; exact ⟨h1, h2, h3⟩
  · rw [this]; exact ⟨by show 1 - x.2.file < 2; omega, by show x.2.gen + 1 ≤ _; omega, hl⟩
theorem Good.vok {M cnt : Nat} {fu : Bool} {x : DV} {all : List Bs} (h : Good M fu x all) (hok : x.1.ok cnt) : x.2.ok := by
  obtain ⟨h1, h2, h3, s, O, lf, h4, h5, h6, h7⟩ := h
  have hp := look_parity h5.look
  have hm := hok.most2
  rw [h4, mkD_most] at hm
  have k0 := okL_all hok.ok0
  have k1 := okL_all hok.ok1
  change x.1.f0.stands.length ≤ _ at k0
  change x.1.f1.stands.length ≤ _ at k1
  rw [h4, mkD_most] at k0 k1
  have hl := h5.length
  have hle : s.length ≤ M := by
    match x.2.file, h1, k0, k1 with
    | 0, _, k0, k1 => exact k0
    | 1, _, k0, k1 => exact k1
  have hz : ∀ l : List Bs, l.length ≤ sizesL l := fun l => by
    induction l with
    | nil => simp
    | cons r l ih => rw [List.length_cons, sizesL]; omega
  have := hz all
  exact ⟨h1, hp.2.1, by omega⟩

/-- A disk's files behind a loss of power. -/
def Settled (M : Nat) (P : List Bs → Prop) (fu : Bool) (D : DiskM) : Prop := ∃ f g l s t lf, f < 2 ∧ D = mkD f ⟨s, []⟩ ⟨t, []⟩ M false fu lf ∧ lookL f s = some (g, l) ∧ Lower (1 - f) g t ∧ P l
theorem Holds.settled {M : Nat} {P : List Bs → Prop} {D : DiskM} (h : Holds P D) (ho : D.off = true) (hM : D.most = M) (picks : List Int) : (D.on picks).2 = 0 ∧ Settled M P false (D.on picks).1 := by
  obtain ⟨s, hs, hrs⟩ := settle_res D.f0 (pickAt picks 0)
  obtain ⟨t, ht, hrt⟩ := settle_res D.f1 (pickAt picks 1)
  obtain ⟨f, g, l, hb, hp⟩ := h s t hrs hrt
  obtain ⟨hf, h1, h2⟩ := best_some hb
  have e : D.on picks = (⟨⟨s, []⟩, ⟨t, []⟩, M, false, false, D.left⟩, 0) := by
    unfold DiskM.on
    rw [if_neg (by rw [ho]; simp), hs, ht, hM]
  rw [e]
  refine ⟨rfl, ?_⟩
  match f, hf with
  | 0, _ => exact ⟨0, g, l, s, t, D.left, by omega, rfl, h1, h2, hp⟩
  | 1, _ => exact ⟨1, g, l, t, s, D.left, by omega, rfl, by simpa using h1, by simpa using h2, hp⟩
theorem Settled.fuse {M : Nat} {P : List Bs → Prop} {fu : Bool} {D : DiskM} (h : Settled M P fu D) (n : Int) : (D.fuse n).2 = 0 ∧ Settled M P (decide (0 ≤ n)) (D.fuse n).1 := by
  obtain ⟨f, g, l, s, t, lf, hf, rfl, h1, h2, h3⟩ := h
  have e : (mkD f ⟨s, []⟩ ⟨t, []⟩ M false fu lf).fuse n = (mkD f ⟨s, []⟩ ⟨t, []⟩ M false (decide (0 ≤ n)) n, 0) := by
    match f, hf with
    | 0, _ => rfl
    | 1, _ => rfl
  rw [e]
  exact ⟨rfl, f, g, l, s, t, n, hf, rfl, h1, h2, h3⟩
theorem Settled.open_ {M : Nat} {P : List Bs → Prop} {fu : Bool} {D : DiskM} (h : Settled M P fu D) :
    (∃ l f g, P l ∧ D.openV.2.1 = 0 ∧ D.openV.2.2 = some (⟨f, g, l.length, false⟩, l) ∧ Good M fu (D.openV.1, ⟨f, g, l.length, false⟩) l) ∨
    (fu = true ∧ D.openV.2.1 = 8 ∧ D.openV.2.2 = none ∧ D.openV.1.off = true ∧ Holds P D.openV.1) := by
  obtain ⟨f, g, l, s, t, lf, hf, rfl, h1, h2, h3⟩ := h
  rcases open_found (M := M) (fu := fu) hf (A := ⟨s, []⟩) (O := ⟨t, []⟩) (lf := lf) h1 (fun t' ht => by rw [res_firm ht]; exact h2) (fun _ a ha => by rw [res_firm ha]; exact h1) (by simp [unitsL]) with ⟨k1, k2, k3⟩ | ⟨k1, k2, k3, k4, k5⟩
  · exact .inl ⟨l, f, g, h3, k1, k2, k3⟩
  · exact .inr ⟨k1, k2, k3, k4, k5.imp fun y hy => by rw [hy]; exact h3⟩
theorem Holds.down {P : List Bs → Prop} {D : DiskM} (h : Holds P D) : Holds P D.down.1 ∧ D.down.1.off = true ∧ D.down.1.most = D.most := by
  unfold DiskM.down
  split
  · exact ⟨h, by assumption, rfl⟩
  · exact ⟨h, rfl, rfl⟩

theorem most_goes (D : DiskM) (k : DiskM → DiskM) (hk : ∀ D, (k D).most = D.most) : (D.goes k).1.most = D.most := by
  unfold DiskM.goes
  split
  · rfl
  · rw [hk]
theorem most_with (D : DiskM) (f : Nat) (F : FileM) : (D.with f F).most = D.most := by unfold DiskM.with; split <;> rfl
theorem most_write (D : DiskM) (f : Int) (b : Bs) : (D.write f b).1.most = D.most := by
  unfold DiskM.write
  split; · rfl
  split; · rfl
  exact most_goes _ _ fun _ => most_with _ _ _
theorem most_cut (D : DiskM) (f n : Int) : (D.cut f n).1.most = D.most := by
  unfold DiskM.cut
  split; · rfl
  split; · rfl
  exact most_goes _ _ fun _ => most_with _ _ _
theorem most_vcut (D : DiskM) (f n : Int) : (D.vcut f n).1.most = D.most := by
  unfold DiskM.vcut
  split
  · rfl
  · exact most_cut _ _ _
theorem most_sync (D : DiskM) (f : Int) : (D.sync f).1.most = D.most := by
  unfold DiskM.sync
  split; · rfl
  exact most_goes _ _ fun _ => most_with _ _ _
theorem runL_all {σ : Type} (P : σ → Prop) : ∀ (fs : List (σ → σ × Int)) (s : σ), P s → (∀ f ∈ fs, ∀ s, P s → P (f s).1) → P (runL fs s).1
  | [], s, h, _ => h
  | f :: fs, s, h, hf => by
    have h1 := hf f (by simp) s h
    rw [runL]
    split
    · exact h1
    · exact runL_all P fs _ h1 fun g hg => hf g (by simp [hg])
theorem most_add (l : List Bs) (x : DV) : (addL l x).1.1.most = x.1.most := by
  unfold addL
  split; · rfl
  split; · rfl
  split; · rfl
  split; · rfl
  exact runL_all (fun s : DV => s.1.most = x.1.most) _ x rfl fun f hf s h => by
    simp only [addOps, List.mem_cons, List.not_mem_nil, or_false] at hf
    rcases hf with rfl | rfl | rfl
    · exact (most_write _ _ _).trans h
    · exact (most_sync _ _).trans h
    · exact h
theorem most_comp (l : List Bs) (x : DV) : (compL l x).1.1.most = x.1.most := by
  unfold compL
  split; · rfl
  split; · rfl
  split; · rfl
  split; · rfl
  split; · rfl
  exact runL_all (fun s : DV => s.1.most = x.1.most) _ x rfl fun f hf s h => by
    simp only [compOps, List.mem_cons, List.not_mem_nil, or_false] at hf
    rcases hf with rfl | rfl | rfl | rfl | rfl
    · exact (most_vcut _ _ _).trans h
    · exact (most_write _ _ _).trans h
    · exact (most_sync _ _).trans h
    · exact (most_cut _ _ _).trans h
    · exact h
theorem most_open (D : DiskM) : D.openV.1.most = D.most := by
  unfold DiskM.openV
  split; · rfl
  split
  · exact runL_all (fun s : DiskM => s.most = D.most) beginOps D rfl fun f hf s h => by
      simp only [beginOps, List.mem_cons, List.not_mem_nil, or_false] at hf
      rcases hf with rfl | rfl | rfl | rfl
      · exact (most_vcut _ _ _).trans h
      · exact (most_vcut _ _ _).trans h
      · exact (most_write _ _ _).trans h
      · exact (most_sync _ _).trans h
  · rename_i f x l _
    exact runL_all (fun s : DiskM => s.most = D.most) (openOps f (44 + sizesL l)) D rfl fun f hf s h => by
      simp only [openOps, List.mem_cons, List.not_mem_nil, or_false] at hf
      rcases hf with rfl | rfl | rfl
      · exact (most_vcut _ _ _).trans h
      · exact (most_sync _ _).trans h
      · exact (most_vcut _ _ _).trans h

/-- A law's state, plain: the disk, the vault if there is one, what it had. -/
def KeepM (M : Nat) (D : DiskM) (V : Option VaultM) (p : PastM) : Prop :=
  (∃ W fu, V = some W ∧ Good M fu (D, W) p.all ∧ p.more = [] ∧ p.other = false) ∨
  (D.off = true ∧ D.most = M ∧ Holds p.found D ∧ ∀ W, V = some W → W.broken = true ∧ W.ok)
theorem KeepM.vok {M cnt : Nat} {D : DiskM} {V : Option VaultM} {p : PastM} (h : KeepM M D V p) (hok : D.ok cnt) : ∀ W, V = some W → W.ok := fun W hW => by
  rcases h with ⟨W', fu, h1, h2, _⟩ | ⟨_, _, _, h⟩
  · rw [h1] at hW
    cases hW
    exact h2.vok hok
  · exact (h W hW).2
theorem KeepM.holds {M : Nat} {D : DiskM} {V : Option VaultM} {p : PastM} (h : KeepM M D V p) : Holds p.found D ∧ D.most = M := by
  rcases h with ⟨W', fu, h1, h2, _⟩ | ⟨_, h1, h, _⟩
  · refine ⟨h2.holds.imp fun y hy => by rw [hy]; exact p.found_all, ?_⟩
    obtain ⟨_, _, _, s, O, lf, h4, _⟩ := h2
    simp only at h4
    rw [h4, mkD_most]
  · exact ⟨h, h1⟩
/-- What is remembered behind an Add. -/
def pastAdd (p : PastM) (l : List Bs) (e : Int) : PastM := if e = 0 then { p with all := p.all ++ l } else if e = 8 then { p with more := l } else p
def pastComp (p : PastM) (l : List Bs) (e : Int) : PastM := if e = 0 then ⟨l, [], [], false⟩ else if e = 8 then { p with next := l, other := true } else p
theorem keep_add {M cnt : Nat} (hM : M ≤ 4194304) {D : DiskM} {W : VaultM} {p : PastM} {l : List Bs} (h : KeepM M D (some W) p) (hok : D.ok cnt) (hl : l.length ≤ 4194304) : KeepM M (addL l (D, W)).1.1 (some (addL l (D, W)).1.2) (pastAdd p l (addL l (D, W)).2) := by
  have hv := h.vok hok W rfl
  have hmost := h.holds.2
  rcases h with ⟨W', fu, h1, h2, h3, h4⟩ | ⟨h1, h2, h3, h4⟩
  · cases h1
    rcases add_good hM (l := l) h2 with ⟨_, k⟩ | ⟨_, _, k⟩ | ⟨_, _, k1, k2, _, _⟩ | ⟨_, k1, k2, k3, k4⟩
    · rw [k]; exact .inl ⟨W, fu, rfl, h2, h3, h4⟩
    · rw [k]; exact .inl ⟨W, fu, rfl, h2, h3, h4⟩
    · rw [k1]; exact .inl ⟨_, fu, rfl, k2, h3, h4⟩
    · rw [k1]
      refine .inr ⟨k2, (most_add l (D, W)).trans hmost, k4.imp fun y hy => ?_, fun W' hW => ?_⟩
      · obtain ⟨n, hn, hy⟩ := hy
        exact .inr ⟨n, hn, hy⟩
      · cases hW
        obtain ⟨j1, j2, j3⟩ := add_vault l (D, W)
        exact ⟨k3, by rw [j1]; exact hv.1, by rw [j2]; exact hv.2.1, by
          have hn : W.n = p.all.length := h2.2.2.1
          have hs : p.all.length ≤ 4194304 := by
            obtain ⟨_, _, _, s, O, lf, q4, q5, _, _⟩ := h2
            have hm := hok.most2
            have q0 := okL_all hok.ok0
            have q1 := okL_all hok.ok1
            change D.f0.stands.length ≤ _ at q0
            change D.f1.stands.length ≤ _ at q1
            simp only at q4 q5
            rw [q4, mkD_most] at q0 q1
            have hl := q5.length
            have hz : ∀ l : List Bs, l.length ≤ sizesL l := fun l => by
              induction l with
              | nil => simp
              | cons r l ih => rw [List.length_cons, sizesL]; omega
            have hle : s.length ≤ M := by
              match W.file, hv.1, q0, q1 with
              | 0, _, q0, q1 => exact q0
              | 1, _, q0, q1 => exact q1
            have := hz p.all
            omega
          have j3' : (addL l (D, W)).1.2.n ≤ W.n + l.length := j3
          omega⟩
  · have hb := (h4 W rfl).1
    rw [add_broken (x := (D, W)) hb]
    exact .inr ⟨h1, h2, h3, h4⟩
theorem comp_broken {l : List Bs} {x : DV} (h : x.2.broken = true) : compL l x = (x, 3) := by simp [compL, h]
theorem keep_comp {M cnt : Nat} (hM : M ≤ 4194304) {D : DiskM} {W : VaultM} {p : PastM} {l : List Bs} (h : KeepM M D (some W) p) (hok : D.ok cnt) (hcnt : cnt ≤ 1073741824) (hl : l.length ≤ 4194304) : KeepM M (compL l (D, W)).1.1 (some (compL l (D, W)).1.2) (pastComp p l (compL l (D, W)).2) := by
  have hv := h.vok hok W rfl
  have hmost := h.holds.2
  rcases h with ⟨W', fu, h1, h2, h3, h4⟩ | ⟨h1, h2, h3, h4⟩
  · cases h1
    rcases comp_good hM (l := l) (by omega) h2 (fun O hO => by rw [hO]; exact ok_units hok hcnt _) with ⟨_, k⟩ | ⟨_, _, k⟩ | ⟨_, _, _, k⟩ | ⟨_, _, _, k1, k2, _, _⟩ | ⟨_, k1, k2, k3, k4⟩
    · rw [k]; exact .inl ⟨W, fu, rfl, h2, h3, h4⟩
    · rw [k]; exact .inl ⟨W, fu, rfl, h2, h3, h4⟩
    · rw [k]; exact .inl ⟨W, fu, rfl, h2, h3, h4⟩
    · rw [k1]; exact .inl ⟨_, fu, rfl, k2, rfl, rfl⟩
    · rw [k1]
      refine .inr ⟨k2, (most_comp l (D, W)).trans hmost, k4.imp fun y hy => ?_, fun W' hW => ?_⟩
      · rcases hy with hy | hy
        · exact .inr ⟨0, Nat.zero_le _, by rw [hy]; simp [pastComp]⟩
        · exact .inl ⟨rfl, hy⟩
      · cases hW
        exact ⟨k3, comp_vault (x := (D, W)) hv (by omega)⟩
  · have hb := (h4 W rfl).1
    rw [comp_broken (x := (D, W)) hb]
    exact .inr ⟨h1, h2, h3, h4⟩
theorem keep_fuse {M : Nat} {D : DiskM} {V : Option VaultM} {p : PastM} (h : KeepM M D V p) (n : Int) : KeepM M (D.fuse n).1 V p := by
  rcases h with ⟨W, fu, h1, h2, h3⟩ | ⟨h1, h2, h3, h4⟩
  · refine .inl ⟨W, decide (0 ≤ n), h1, ?_, h3⟩
    obtain ⟨k1, k2, k3, s, O, lf, k4, k5⟩ := h2
    simp only at k1 k2 k3 k4 k5
    refine ⟨k1, k2, k3, s, O, n, ?_, k5⟩
    simp only
    rw [k4]
    match W.file, k1 with
    | 0, _ => rfl
    | 1, _ => rfl
  · have : D.fuse n = (D, 8) := by simp [DiskM.fuse, h1]
    rw [this]
    exact .inr ⟨h1, h2, h3, h4⟩

/-- A disk, and a vault if there is one; what is known of them. -/
def KA (B : Nat) (w : World) (dg M : Nat) (v : Option Addr) (p : PastM) (cnt : Nat) : Prop :=
  ∃ (D : DiskM) (V : Option VaultM), DiskAt B w dg D ∧ D.ok cnt ∧ KeepM M D V p ∧ match V with | none => v = none | some W => ∃ vg, v = some ⟨vg, 0, none⟩ ∧ VaultAt B w vg dg W
def KO (B : Nat) (w : World) (dg M : Nat) (P : List Bs → Prop) (cnt : Nat) : Prop := ∃ D : DiskM, DiskAt B w dg D ∧ D.ok cnt ∧ D.off = true ∧ D.most = M ∧ Holds P D
def KT (B : Nat) (w : World) (dg M : Nat) (P : List Bs → Prop) (fu : Bool) (cnt : Nat) : Prop := ∃ D : DiskM, DiskAt B w dg D ∧ D.ok cnt ∧ Settled M P fu D
theorem KA.base {B : Nat} {w : World} {dg M : Nat} {v : Option Addr} {p : PastM} {cnt : Nat} (h : KA B w dg M v p cnt) : B ≤ w.heap.size := by
  obtain ⟨D, V, h1, _⟩ := h
  exact h1.base
theorem KA.turned {B : Nat} {T : TypeId} {w w' : World} {dg M : Nat} {v : Option Addr} {p : PastM} {cnt : Nat} (h : KA B w dg M v p cnt) (hr : Turned B T w w') (ht : T ∉ [5, 105] := by decide) (ht2 : 112 ≠ T := by decide) (ht3 : 68 ≠ T := by decide) (ht4 : 77 ≠ T := by decide) : KA B w' dg M v p cnt := by
  obtain ⟨D, V, h1, h2, h3, h4⟩ := h
  refine ⟨D, V, h1.turned hr ht ht2 ht3, h2, h3, ?_⟩
  cases V with
  | none => exact h4
  | some W =>
    obtain ⟨vg, e, h5⟩ := h4
    exact ⟨vg, e, h5.turned hr ht4⟩
theorem KA.grown {B : Nat} {w w' : World} {dg M : Nat} {v : Option Addr} {p : PastM} {cnt : Nat} (h : KA B w dg M v p cnt) (hb : Below w.heap.size w w') : KA B w' dg M v p cnt := by
  obtain ⟨D, V, h1, h2, h3, h4⟩ := h
  refine ⟨D, V, h1.grown hb, h2, h3, ?_⟩
  cases V with
  | none => exact h4
  | some W =>
    obtain ⟨vg, e, h5⟩ := h4
    exact ⟨vg, e, h5.grown hb⟩
theorem KA.more {B : Nat} {w : World} {dg M : Nat} {v : Option Addr} {p : PastM} {cnt c : Nat} (h : KA B w dg M v p cnt) (hc : cnt ≤ c) (hm : c ≤ 1099511627776) : KA B w dg M v p c := by
  obtain ⟨D, V, h1, h2, h3, h4⟩ := h
  exact ⟨D, V, h1, ok_mono h2 hc hm, h3, h4⟩

theorem ka_add (B M dg : Nat) (hM : M ≤ 4194304) (v : Option Addr) (p : PastM) (l : List Bs) (cnt : Nat) (hcnt : cnt + 10 ≤ 1099511627776) (hll : l.length ≤ 4194304) (hsz : sizesL l ≤ 1099511627776) (a : Option Addr) (cap : Nat) (w : World) (h : KA B w dg M v p cnt) (hr : RecsAt B w a l) (hT : Tab w) :
    Calls Tryd.prog 12 #[.pointer v, .slice a l.length cap] w fun e w' => ∃ x : Int, e = .returned (.int .i64 x) ∧ KA B w' dg M v (pastAdd p l x) (cnt + 3) ∧ LiesV B w w' := by
  have hB := h.base
  obtain ⟨D, V, h1, h2, h3, h4⟩ := h
  cases V with
  | none =>
    subst h4
    refine (add_nil a l.length cap w).mono fun e w' ⟨r1, r2⟩ => ⟨2, r1, ?_, (Lies.new r2 hB).toV⟩
    exact ⟨D, none, h1.grown r2, ok_mono h2 (by omega) (by omega), h3, rfl⟩
  | some W =>
    obtain ⟨vg, rfl, h5⟩ := h4
    have hv := h3.vok h2 W rfl
    have hn := hv.2.2
    refine (vadd_any B cnt hcnt D h2 W vg dg l (by omega) hsz (by omega) a cap w h1 h5 hr hT).mono fun e w' hret => ?_
    obtain ⟨r1, r2, r3, r4⟩ := hret
    exact ⟨_, r1, ⟨_, some _, r2, addL_ok (x := (D, W)) h2 (by omega), keep_add hM h3 h2 hll, vg, rfl, r3⟩, r4⟩
theorem ka_comp (B M dg : Nat) (hM : M ≤ 4194304) (v : Option Addr) (p : PastM) (l : List Bs) (cnt : Nat) (hcnt : cnt + 10 ≤ 1073741824) (hll : l.length ≤ 4194304) (hsz : sizesL l ≤ 1099511627776) (a : Option Addr) (cap : Nat) (w : World) (h : KA B w dg M v p cnt) (hr : RecsAt B w a l) (hT : Tab w) :
    Calls Tryd.prog 13 #[.pointer v, .slice a l.length cap] w fun e w' => ∃ x : Int, e = .returned (.int .i64 x) ∧ KA B w' dg M v (pastComp p l x) (cnt + 5) ∧ LiesV B w w' := by
  have hB := h.base
  obtain ⟨D, V, h1, h2, h3, h4⟩ := h
  cases V with
  | none =>
    subst h4
    refine (comp_nil a l.length cap w).mono fun e w' ⟨r1, r2⟩ => ⟨2, r1, ?_, (Lies.new r2 hB).toV⟩
    exact ⟨D, none, h1.grown r2, ok_mono h2 (by omega) (by omega), h3, rfl⟩
  | some W =>
    obtain ⟨vg, rfl, h5⟩ := h4
    have hv := h3.vok h2 W rfl
    refine (vcomp_any B cnt (by omega) D h2 W hv.1 hv.2.1 vg dg l (by omega) hsz a cap w h1 h5 hr hT).mono fun e w' hret => ?_
    obtain ⟨r1, r2, r3, r4⟩ := hret
    exact ⟨_, r1, ⟨_, some _, r2, compL_ok (x := (D, W)) h2 (by omega), keep_comp hM h3 h2 (by omega) hll, vg, rfl, r3⟩, r4⟩
theorem ka_fuse (B M dg : Nat) (v : Option Addr) (p : PastM) (n : Int) (hn0 : -9223372036854775808 ≤ n) (hn1 : n ≤ 9223372036854775807) (cnt : Nat) (w : World) (h : KA B w dg M v p cnt) :
    Calls Tryd.prog 16 #[.pointer (some ⟨dg, 0, none⟩), .int .i64 n] w fun e w' => ∃ x : Int, e = .returned (.int .i64 x) ∧ KA B w' dg M v p cnt ∧ LiesV B w w' := by
  obtain ⟨D, V, h1, h2, h3, h4⟩ := h
  refine (fuse_any B D dg n w h1).mono fun e w' hr => ?_
  obtain ⟨r1, r2, r3⟩ := hr
  refine ⟨_, r1, ⟨_, V, r2, fuse_ok h2 n hn0 hn1, keep_fuse h3 n, ?_⟩, r3.toV⟩
  cases V with
  | none => exact h4
  | some W =>
    obtain ⟨vg, e, h5⟩ := h4
    exact ⟨vg, e, h5.lies r3⟩
theorem ka_off (B M dg : Nat) (v : Option Addr) (p : PastM) (cnt : Nat) (w : World) (h : KA B w dg M v p cnt) :
    Calls Tryd.prog 14 #[.pointer (some ⟨dg, 0, none⟩)] w fun e w' => ∃ x : Int, e = .returned (.int .i64 x) ∧ KO B w' dg M p.found cnt ∧ LiesV B w w' := by
  obtain ⟨D, V, h1, h2, h3, h4⟩ := h
  refine (off_any B D dg w h1).mono fun e w' hr => ?_
  obtain ⟨r1, r2, r3⟩ := hr
  obtain ⟨k1, k2⟩ := h3.holds
  obtain ⟨j1, j2, j3⟩ := k1.down
  exact ⟨_, r1, ⟨_, r2, down_ok h2, j2, j3.trans k2, j1⟩, r3.toV⟩
theorem ko_on (B M dg : Nat) (P : List Bs → Prop) (cnt : Nat) (picks : List Int) (hp : ∀ z ∈ picks, z ≤ 9223372036854775807) (hpl : picks.length ≤ 140737488355328) (a : Option Addr) (cap : Nat) (w : World) (h : KO B w dg M P cnt) (hpk : IntsAt B w a picks) :
    Calls Tryd.prog 15 #[.pointer (some ⟨dg, 0, none⟩), .slice a picks.length cap] w fun e w' => e = .returned (.int .i64 0) ∧ KT B w' dg M P false cnt ∧ LiesV B w w' := by
  obtain ⟨D, h1, h2, h3, h4, h5⟩ := h
  refine (on_any B cnt D h2 dg picks hp hpl a cap w h1 hpk).mono fun e w' hr => ?_
  obtain ⟨r1, r2, r3⟩ := hr
  obtain ⟨k1, k2⟩ := h5.settled h3 h4 picks
  rw [k1] at r1
  exact ⟨r1, ⟨_, r2, on_ok h2 picks, k2⟩, r3.toV⟩
theorem kt_fuse (B M dg : Nat) (P : List Bs → Prop) (fu : Bool) (cnt : Nat) (n : Int) (hn0 : -9223372036854775808 ≤ n) (hn1 : n ≤ 9223372036854775807) (w : World) (h : KT B w dg M P fu cnt) :
    Calls Tryd.prog 16 #[.pointer (some ⟨dg, 0, none⟩), .int .i64 n] w fun e w' => e = .returned (.int .i64 0) ∧ KT B w' dg M P (decide (0 ≤ n)) cnt ∧ LiesV B w w' := by
  obtain ⟨D, h1, h2, h3⟩ := h
  refine (fuse_any B D dg n w h1).mono fun e w' hr => ?_
  obtain ⟨r1, r2, r3⟩ := hr
  obtain ⟨k1, k2⟩ := h3.fuse n
  rw [k1] at r1
  exact ⟨r1, ⟨_, r2, fuse_ok h2 n hn0 hn1, k2⟩, r3.toV⟩
/-- What Open hands back. -/
def KeepOpen (B dg M : Nat) (p : PastM) (fu : Bool) (cnt : Nat) (w : World) (e : Ending) (w' : World) : Prop :=
  LiesV B w w' ∧ ((∃ vg a c l, p.found l ∧ e = .returned (.tuple #[.pointer (some ⟨vg, 0, none⟩), .slice a l.length c, .int .i64 0]) ∧ KA B w' dg M (some ⟨vg, 0, none⟩) ⟨l, [], [], false⟩ cnt ∧ RecsAt B w' a l ∧ (a = none → c = 0) ∧ l.length ≤ c ∧ l.length ≤ 4194304) ∨
    (fu = true ∧ e = .returned (.tuple #[.pointer none, .slice none 0 0, .int .i64 8]) ∧ KA B w' dg M none p cnt))
theorem OwnRecs.caps {w : World} {base : Nat} {a : Option Addr} {n c : Nat} {l : List Bs} (h : OwnRecs w base (.slice a n c) l) : (a = Option.none → c = 0) ∧ n ≤ c := by
  obtain ⟨xs, h1, h2, h3⟩ := h
  rcases h2.2 with ⟨hv, h0⟩ | ⟨g, cap, cur, hv, hg, hh, hc, hm, _⟩
  · injection hv with e1 e2 e3
    subst e1 e2 e3
    exact ⟨fun _ => rfl, Nat.le_refl _⟩
  · injection hv with e1 e2 e3
    subst e1 e2 e3
    exact ⟨(fun h => by cases h), hc⟩
theorem kt_open (B M dg : Nat) (p : PastM) (fu : Bool) (cnt : Nat) (hcnt : cnt + 10 ≤ 1099511627776) (w : World) (h : KT B w dg M p.found fu cnt) (hT : Tab w) (hTB : 0 < B) :
    Calls Tryd.prog 11 #[.pointer (some ⟨dg, 0, none⟩)] w (KeepOpen B dg M p fu (cnt + 4) w) := by
  obtain ⟨D, h1, h2, h3⟩ := h
  refine (open_any B cnt hcnt D h2 dg w h1 hT hTB).mono fun e w' hr => ?_
  obtain ⟨r1, r2, r3⟩ := hr
  have hok := openV_ok h2 (show cnt + 4 ≤ 1099511627776 by omega)
  have hmost : D.openV.1.most = M := (most_open D).trans (by
    obtain ⟨f, g, l, s, t, lf, _, rfl, _⟩ := h3
    exact mkD_most)
  rcases h3.open_ with ⟨l, f, g, k1, k2, k3, k4⟩ | ⟨k1, k2, k3, k4, k5⟩
  · rw [k3] at r3
    obtain ⟨vg, v, rfl, r4, _, r6⟩ := r3
    obtain ⟨a, c, rfl⟩ := r6.form
    obtain ⟨c1, c2⟩ := r6.caps
    have hs := (k4.sizes hok).2.2.2
    exact ⟨r1, .inl ⟨vg, a, c, l, k1, rfl, ⟨_, some _, r2, hok, .inl ⟨_, fu, rfl, k4, rfl, rfl⟩, vg, rfl, r4⟩, r6.recs, c1, c2, hs⟩⟩
  · rw [k3] at r3
    refine ⟨r1, .inr ⟨k1, by rw [r3, k2], ⟨_, none, r2, hok, .inr ⟨k4, hmost, k5, fun W hW => by cases hW⟩, rfl⟩⟩⟩
/-- A new disk is opened. -/
theorem ka_new (B M dg : Nat) (h1 : 44 ≤ M) (h2 : M ≤ 4194304) (w : World) (h : DiskAt B w dg (DiskM.new M)) (hT : Tab w) (hTB : 0 < B) :
    Calls Tryd.prog 11 #[.pointer (some ⟨dg, 0, none⟩)] w fun e w' => ∃ vg a c, e = .returned (.tuple #[.pointer (some ⟨vg, 0, none⟩), .slice a 0 c, .int .i64 0]) ∧ KA B w' dg M (some ⟨vg, 0, none⟩) ⟨[], [], [], false⟩ 4 ∧ LiesV B w w' :=
  (open_new B M dg h1 h2 w h hT hTB).mono fun e w' hr => by
    obtain ⟨vg, a, c, rfl, ⟨x, k1, k2, k3, k4, k5, k6⟩, _, hl⟩ := hr
    exact ⟨vg, a, c, rfl, ⟨x.1, some x.2, k1, k6, .inl ⟨x.2, false, rfl, k3, rfl, rfl⟩, vg, rfl, k2⟩, hl⟩
end Go.Proofs.YtiidohaibbdgeaaDoor

namespace Go.Proofs.YtiidohaibbdgeaaDoor
open Go Go.RowKit

set_option maxRecDepth 100000 in
theorem size_u8s (w : World) : (sizeOf (Tryd.prog.elem 30)).run Tryd.prog w = .ok 1 w := by kernel_rfl
set_option maxRecDepth 100000 in
theorem recs_first (a : Option Addr) (len cap k : Nat) (hk : k ≤ cap) (q : IntKind) (w : World) :
    (Instr.sliceAt 30 (.slice a len cap) none (some (.int q (k : Int))) none).run Tryd.prog w = .ok (.slice a k cap) w := by
  rw [run_sliceAt_slice w _ _ _ _ _ Tryd.underlying30, run_slice_h w _ _ _ _ Tryd.underlying30 q k (by omega) (by omega), size_u8s]
  simp only [Result.andThen_ok, sliced, Int.toNat_natCast, Nat.zero_mul, Nat.sub_zero, add_zero_addr]
set_option maxRecDepth 100000 in
theorem recs_rest (a : Option Addr) (len cap k : Nat) (hk : k ≤ len) (q : IntKind) (w : World) :
    (Instr.sliceAt 30 (.slice a len cap) (some (.int q (k : Int))) none none).run Tryd.prog w = .ok (.slice (cutAddr cap k a) (len - k) (cap - k)) w := by
  rw [run_sliceAt_slice w _ _ _ _ _ Tryd.underlying30, run_slice_l w _ _ _ _ Tryd.underlying30 q k (by omega) (by omega), size_u8s]
  simp only [Result.andThen_ok, sliced, Int.toNat_natCast, Nat.mul_one]
  rfl
/-- A known run of a guarded operation. -/
theorem wpQuiet_guarded {P : Program} {ops : Array Oper} {C : World → Prop} {Q : Act → Prop} {a : Act} {o : Oper} {rest : List Oper} (hw : Region.wanted o (yielded ops a.tmps) = true) (v : Value)
    (hrun : ∀ w, C w → (execOp a.eval o).run P w = .ok (.value v) w) (h : wpQuiet P ops C Q rest (a.put o.dst v)) : wpQuiet P ops C Q (o :: rest) a := by
  refine wpQuiet_step fun K hK => ?_
  rw [if_pos hw]
  refine ⟨v, fun w hw' => ?_, hK _ h⟩
  unfold Oper.quietAt
  rw [hrun w hw']
  exact ⟨rfl, rfl⟩
/-- A past's four cells. -/
def PastVals (B : Nat) (w : World) (cs : Array Value) (p : PastM) : Prop :=
  ∃ a1 c1 a2 c2 a3 c3, cs = #[.slice a1 p.all.length c1, .slice a2 p.more.length c2, .slice a3 p.next.length c3, .bool p.other] ∧ p.all.length ≤ c1 ∧ p.more.length ≤ c2 ∧ (a1 = none → c1 = 0) ∧ RecsAt B w a1 p.all ∧ RecsLow B w a2 p.more ∧ RecsLow B w a3 p.next

set_option maxRecDepth 100000 in
set_option maxHeartbeats 1000000 in
theorem found_any (B : Nat) (p : PastM) (l : List Bs) (hp : p.found l) (hl : l.length ≤ 70368744177664) (h1 : p.all.length ≤ 70368744177664) (h2 : p.more.length ≤ 70368744177664) (h3 : p.next.length ≤ 70368744177664)
    (a : Option Addr) (c : Nat) (hlc : l.length ≤ c) (cs : Array Value) (w : World) (hB : B ≤ w.heap.size) (hv : PastVals B w cs p) (hr : RecsAt B w a l) :
    Calls Tryd.prog 17 #[.agg cs, .slice a l.length c] w fun e w' => e = .returned (.bool true) ∧ Below w.heap.size w w' := by
  obtain ⟨all, more, next, other⟩ := p
  obtain ⟨a1, c1, a2, c2, a3, c3, rfl, k1, k2, _, r1, r2, r3⟩ := hv
  simp only at h1 h2 h3 k1 k2 r1 r2 r3
  replace r2 := r2.recs
  replace r3 := r3.recs
  have hs1 := fun wx (hb : Below w.heap.size w wx) => same_any B l next hl h3 a a3 c c3 wx (Nat.le_trans hB hb.size) (hr.lies (Lies.new hb hB)) (r3.lies (Lies.new hb hB))
  have hcell : ∀ j v, (#[Value.slice a1 all.length c1, .slice a2 more.length c2, .slice a3 next.length c3, .bool other] : Array Value)[j]? = some v → (w.alloc (.cells #[.slice a1 all.length c1, .slice a2 more.length c2, .slice a3 next.length c3, .bool other] 34)).cell? ⟨w.heap.size, j, none⟩ = some v := fun j v hj => by
    rw [(Blk.new w _ _).cell j]; exact hj
  have x0 := hcell 0 _ rfl
  have x1 := hcell 1 _ rfl
  have x2 := hcell 2 _ rfl
  have x3 := hcell 3 _ rfl
  have hbA : Below w.heap.size w (w.alloc (.cells #[.slice a1 all.length c1, .slice a2 more.length c2, .slice a3 next.length c3, .bool other] 34)) := (Below.refl _ _).alloc (Nat.le_refl _) _
  have hlt : w.heap.size < (w.alloc (.cells #[.slice a1 all.length c1, .slice a2 more.length c2, .slice a3 next.length c3, .bool other] 34)).heap.size := (Blk.new w _ _).lt
  replace hs1 := Lib.hid hs1
  clear hcell
  by_cases hA : other = true ∧ l = next
  · obtain ⟨rfl, rfl⟩ := hA
    replace hp := Lib.hid hp
    replace hbA := Lib.hid hbA
    have hd : decide (l = l) = true := decide_eq_true rfl
    rw [hd] at hs1
    clear hd
    go_enter Tryd.func17, Tryd.ntmps17
    go_wp2_with (go_at_call 19; refine (hs1.out _ hbA.out).mono ?_; rintro e w1 ⟨rfl, hB1⟩)
    go_ret
    exact ⟨rfl, hbA.out.trans (hB1.mono hbA.out.size)⟩
  · obtain ⟨n, hn, rfl⟩ : ∃ n, n ≤ more.length ∧ l = all ++ more.take n := hp.resolve_left hA
    have hLn : (all ++ more.take n).length = all.length + n := by rw [List.length_append, List.length_take_of_le hn]
    have hne : other = true → decide (all ++ more.take n = next) = false := fun h => decide_eq_false fun e => hA ⟨h, e⟩
    obtain ⟨l, hl0⟩ : ∃ l, l = all ++ more.take n := ⟨_, rfl⟩
    have ht : l.take all.length = all := by rw [hl0, List.take_left']; rfl
    have hdr : l.drop all.length = more.take n := by rw [hl0, List.drop_left']; rfl
    rw [← hl0] at hl hlc hr hs1 hLn hne ⊢
    have htl : (more.take n).length = n := List.length_take_of_le hn
    have hsA := fun wx (hb : Below w.heap.size w wx) => same_any B all all h1 h1 a a1 c c1 wx (Nat.le_trans hB hb.size) (by have := (hr.take all.length).lies (Lies.new hb hB); rw [ht] at this; exact this) (r1.lies (Lies.new hb hB))
    have hsB := fun wx (hb : Below w.heap.size w wx) => same_any B (more.take n) (more.take n) (by omega) (by omega) (cutAddr c all.length a) a2 (c - all.length) c2 wx (Nat.le_trans hB hb.size) (by have := (hr.drop all.length hlc).lies (Lies.new hb hB); rw [hdr] at this; exact this) ((r2.take n).lies (Lies.new hb hB))
    rw [decide_eq_true (rfl : all = all)] at hsA
    rw [decide_eq_true (rfl : more.take n = more.take n), htl] at hsB
    have hp1 := fun wx => recs_first a l.length c all.length (by omega) .i64 wx
    have hp2 := fun wx => recs_rest a l.length c all.length (by omega) .i64 wx
    have hp3 := fun wx => recs_first a2 more.length c2 n (by omega) .i64 wx
    rw [show l.length - all.length = n by omega] at hp2
    have hnm : (n : Int) ≤ (more.length : Int) := by omega
    have hn0 : (0 : Int) ≤ (n : Int) := by omega
    have hsub : (l.length : Int) - (all.length : Int) = (n : Int) := by omega
    replace hsA := Lib.hid hsA
    replace hsB := Lib.hid hsB
    replace hp1 := Lib.hid hp1
    replace hp2 := Lib.hid hp2
    replace hp3 := Lib.hid hp3
    replace hne := Lib.hid hne
    replace hbA := Lib.hid hbA
    replace hLn := Lib.hid hLn
    clear hp hA hl0 ht hdr htl r1 r2 r3 hr
    go_enter Tryd.func17, Tryd.ntmps17
    cases other
    case false =>
      clear hne
      go_upto_region 4 with (fail)
      generalize hwq : World.alloc _ _ = wq at *
      have q0 := x0
      have q1 := x1
      have hbq := hbA.out
      have hltq := hlt
      clear x0 x1 x2 x3 hbA hlt hs1 hwq
      have z0 := fun z : Grew wq.heap.size wq => Grew.cell q0 hltq z
      have z1 := fun z : Grew wq.heap.size wq => Grew.cell q1 hltq z
      have hd : Below wq.heap.size wq wq.drew := (Below.refl _ _).drew
      refine wp_region_ways (S := fun w' => ∃ x : Grew wq.heap.size wq, w' = x.1) (.one [0, 1, 2, 3, 4, 5, 6, 7, 8, 9, 10, 11, 12, 13, 14, 15, 16] 17 (.one [18, 19, 20, 21, 22, 23, 24, 25, 26, 27, 28] 29 (.last [30, 31]))) (by kernel_rfl) (by kernel_rfl) (by intro c a d u w h; cases d <;> exact h) ⟨⟨wq.drew, hd⟩, rfl⟩ ?_
      simp only [wpWays, picks, List.getElem?_toArray, List.getElem?_cons_succ, List.getElem?_cons_zero]
      iterate 14 (go_big_quiet_step (fail))
      refine wpQuiet_guarded rfl _ (fun wx _ => exec_piece rfl (hp1.out wx)) ?_
      go_frame
      repeat (go_big_quiet_step (fail))
      refine wpQuiet_nil ?_
      refine wpOp_step (by simp only [List.getElem?_toArray, List.getElem?_cons_succ, List.getElem?_cons_zero]; rfl) (fun K hK => ?_)
      go_simp
      refine (hsA.out wq.drew (hbq.trans (hd.mono hbq.size))).mono ?_
      rintro e w3 ⟨rfl, hB3⟩
      have hB3' := hd.trans hB3
      refine hK _ _ ⟨⟨⟨w3, hB3'⟩, rfl⟩, ?_⟩
      clear hK K
      iterate 6 (go_big_quiet_step (fail))
      refine wpQuiet_guarded rfl _ (fun wx _ => exec_piece rfl (hp2.out wx)) ?_
      go_frame
      iterate 3 (go_big_quiet_step (fail))
      refine wpQuiet_guarded rfl _ (fun wx _ => exec_piece rfl (hp3.out wx)) ?_
      go_frame
      repeat (go_big_quiet_step (fail))
      refine wpQuiet_nil ?_
      refine wpOp_step (by simp only [List.getElem?_toArray, List.getElem?_cons_succ, List.getElem?_cons_zero]; rfl) (fun K hK => ?_)
      go_simp
      refine (hsB.out w3 (hbq.trans (hB3'.mono hbq.size))).mono ?_
      rintro e w4 ⟨rfl, hB4⟩
      have hB4' := hB3'.trans (hB4.mono hB3'.size)
      refine hK _ _ ⟨⟨⟨w4, hB4'⟩, rfl⟩, ?_⟩
      clear hK K
      repeat (go_big_quiet_step (fail))
      refine wpQuiet_nil ?_
      clear z0 z1
      go_wp2_with (fail)
      go_ret
      exact ⟨rfl, hbq.trans (hB4'.mono hbq.size)⟩
    case true =>
      have hne' := hne.out rfl
      rw [hne'] at hs1
      go_upto_region 4 with (go_at_call 19; refine (hs1.out _ hbA.out).mono ?_; rintro e wq ⟨rfl, hB1⟩; have q0 := (hB1.cell (p := ⟨w.heap.size, 0, none⟩) hlt).trans x0; have q1 := (hB1.cell (p := ⟨w.heap.size, 1, none⟩) hlt).trans x1)
      have hbq := hbA.out.trans (hB1.mono hbA.out.size)
      have hltq := Nat.lt_of_lt_of_le hlt hB1.size
      clear x0 x1 x2 x3 hbA hlt hs1 hB1 hne' hne
      have z0 := fun z : Grew wq.heap.size wq => Grew.cell q0 hltq z
      have z1 := fun z : Grew wq.heap.size wq => Grew.cell q1 hltq z
      have hd : Below wq.heap.size wq wq.drew := (Below.refl _ _).drew
      refine wp_region_ways (S := fun w' => ∃ x : Grew wq.heap.size wq, w' = x.1) (.one [0, 1, 2, 3, 4, 5, 6, 7, 8, 9, 10, 11, 12, 13, 14, 15, 16] 17 (.one [18, 19, 20, 21, 22, 23, 24, 25, 26, 27, 28] 29 (.last [30, 31]))) (by kernel_rfl) (by kernel_rfl) (by intro c a d u w h; cases d <;> exact h) ⟨⟨wq.drew, hd⟩, rfl⟩ ?_
      simp only [wpWays, picks, List.getElem?_toArray, List.getElem?_cons_succ, List.getElem?_cons_zero]
      iterate 14 (go_big_quiet_step (fail))
      refine wpQuiet_guarded rfl _ (fun wx _ => exec_piece rfl (hp1.out wx)) ?_
      go_frame
      repeat (go_big_quiet_step (fail))
      refine wpQuiet_nil ?_
      refine wpOp_step (by simp only [List.getElem?_toArray, List.getElem?_cons_succ, List.getElem?_cons_zero]; rfl) (fun K hK => ?_)
      go_simp
      refine (hsA.out wq.drew (hbq.trans (hd.mono hbq.size))).mono ?_
      rintro e w3 ⟨rfl, hB3⟩
      have hB3' := hd.trans hB3
      refine hK _ _ ⟨⟨⟨w3, hB3'⟩, rfl⟩, ?_⟩
      clear hK K
      iterate 6 (go_big_quiet_step (fail))
      refine wpQuiet_guarded rfl _ (fun wx _ => exec_piece rfl (hp2.out wx)) ?_
      go_frame
      iterate 3 (go_big_quiet_step (fail))
      refine wpQuiet_guarded rfl _ (fun wx _ => exec_piece rfl (hp3.out wx)) ?_
      go_frame
      repeat (go_big_quiet_step (fail))
      refine wpQuiet_nil ?_
      refine wpOp_step (by simp only [List.getElem?_toArray, List.getElem?_cons_succ, List.getElem?_cons_zero]; rfl) (fun K hK => ?_)
      go_simp
      refine (hsB.out w3 (hbq.trans (hB3'.mono hbq.size))).mono ?_
      rintro e w4 ⟨rfl, hB4⟩
      have hB4' := hB3'.trans (hB4.mono hB3'.size)
      refine hK _ _ ⟨⟨⟨w4, hB4'⟩, rfl⟩, ?_⟩
      clear hK K
      repeat (go_big_quiet_step (fail))
      refine wpQuiet_nil ?_
      clear z0 z1
      go_wp2_with (fail)
      go_ret
      exact ⟨rfl, hbq.trans (hB4'.mono hbq.size)⟩

/-- A step, as the law reads it: what to do, the records, the disk's number, how many bytes, the picks. -/
structure StepM where
  act : Nat
  recs : List Bs
  n : Int
  nb : Nat
  picks : List Int
def recW : List Bs → Nat
  | [] => 0
  | r :: l => r.length + 16 + recW l
def stepW (s : StepM) : Nat := 32 + s.nb + s.picks.length + recW s.recs
def stepsW : List StepM → Nat
  | [] => 0
  | s :: l => stepW s + stepsW l
theorem recW_append : ∀ l m : List Bs, recW (l ++ m) = recW l + recW m
  | [], m => by simp [recW]
  | r :: l, m => by rw [List.cons_append, recW, recW, recW_append l m]; omega
theorem stepsW_append : ∀ l m : List StepM, stepsW (l ++ m) = stepsW l + stepsW m
  | [], m => by simp [stepsW]
  | r :: l, m => by rw [List.cons_append, stepsW, stepsW, stepsW_append l m]; omega
theorem recW_step {l : List Bs} {k : Nat} (h : k < l.length) : recW (l.take (k + 1)) = recW (l.take k) + ((l.getD k []).length + 16) := by
  rw [take_one h ([] : Bs), recW_append]; simp [recW]
theorem stepsW_step {l : List StepM} {k : Nat} (h : k < l.length) : stepsW (l.take (k + 1)) = stepsW (l.take k) + stepW (l.getD k ⟨0, [], 0, 0, []⟩) := by
  rw [take_one h (⟨0, [], 0, 0, []⟩ : StepM), stepsW_append]; simp [stepsW]
theorem stepsW_mem {s : StepM} : ∀ {l : List StepM}, s ∈ l → stepW s ≤ stepsW l
  | x :: l, h => by
    rw [stepsW]
    rcases List.mem_cons.1 h with rfl | h
    · omega
    · have := stepsW_mem h; omega
theorem stepsW_len : ∀ l : List StepM, l.length * 32 ≤ stepsW l
  | [] => by simp
  | s :: l => by have := stepsW_len l; rw [stepsW, stepW, List.length_cons]; omega
theorem recW_len : ∀ l : List Bs, l.length * 16 ≤ recW l
  | [] => by simp
  | s :: l => by have := recW_len l; rw [recW, List.length_cons]; omega
theorem recW_sizes : ∀ l : List Bs, sizesL l ≤ 3 * recW l
  | [] => by simp [sizesL]
  | s :: l => by have := recW_sizes l; rw [recW, sizesL]; omega
def IntsLow (B : Nat) (w : World) (a : Option Addr) (zs : List Int) : Prop :=
  0 < zs.length → ∃ b o, a = some ⟨b, o, none⟩ ∧ b < B ∧ ∀ j, j < zs.length → w.cell? ⟨b, o + j, none⟩ = some (.int .i64 (zs.getD j 0))
theorem IntsLow.ints {B : Nat} {w : World} {a : Option Addr} {zs : List Int} (h : IntsLow B w a zs) : IntsAt B w a zs := fun hn => by
  obtain ⟨b, o, e, hb, hc⟩ := h hn
  exact ⟨b, o, e, .inl hb, hc⟩
/-- A step's seven cells. -/
def StepAt (B : Nat) (w : World) (b o : Nat) (s : StepM) : Prop :=
  ∃ (v2 v3 : Value) (a1 : Option Addr) (c1 : Nat) (a2 : Option Addr) (c2 : Nat) (a3 : Option Addr) (c3 : Nat),
    w.rangeAt b o [.int .u8 s.act, .slice a1 s.recs.length c1, v2, v3, .int .i64 s.n, .slice a2 s.nb c2, .slice a3 s.picks.length c3] ∧ v2.oneCell' = true ∧ v3.oneCell' = true ∧ (a1 = none → c1 = 0) ∧ s.recs.length ≤ c1 ∧ RecsLow B w a1 s.recs ∧ IntsLow B w a3 s.picks
def StepM.fits (s : StepM) : Prop := s.act ≤ 255 ∧ s.recs.length ≤ 140737488351232 ∧ (∀ j, j < s.recs.length → (s.recs.getD j []).length ≤ 140737488351232) ∧ -9223372036854775808 ≤ s.n ∧ s.n ≤ 9223372036854775807 ∧ s.nb ≤ 140737488351232 ∧ s.picks.length ≤ 140737488351232 ∧ ∀ z ∈ s.picks, z ≤ 9223372036854775807
def StepsLow (B : Nat) (w : World) (a : Option Addr) (l : List StepM) : Prop :=
  0 < l.length → ∃ b o, a = some ⟨b, o, none⟩ ∧ b < B ∧ ∀ j, j < l.length → StepAt B w b (o + j * 7) (l.getD j ⟨0, [], 0, 0, []⟩)
theorem StepAt.below {B : Nat} {w w' : World} {b o : Nat} {s : StepM} (h : StepAt B w b o s) (hb : b < B) (hl : Below B w w') : StepAt B w' b o s := by
  obtain ⟨v2, v3, a1, c1, a2, c2, a3, c3, h1, h2, h3, h4, h5, h6, h7⟩ := h
  refine ⟨v2, v3, a1, c1, a2, c2, a3, c3, fun j v hj => (hl.cell (p := ⟨b, o + j, none⟩) hb).trans (h1 j v hj), h2, h3, h4, h5, h6.below hl, fun hn => ?_⟩
  obtain ⟨b', o', e, hs, hc⟩ := h7 hn
  exact ⟨b', o', e, hs, fun j hj => (hl.cell (p := ⟨b', o' + j, none⟩) hs).trans (hc j hj)⟩

set_option maxRecDepth 100000 in
set_option maxHeartbeats 1000000 in
theorem heavy_any (l : List StepM) (hll : l.length ≤ 140737488351232) (hf : ∀ s ∈ l, s.fits) (a : Option Addr) (cap : Nat) (w : World) (hlow : StepsLow w.heap.size w a l) :
    Calls Tryd.prog 8 #[.slice a l.length cap] w fun e w' => ∃ x : Bool, e = .returned (.bool x) ∧ Below w.heap.size w w' ∧ (x = false → stepsW l ≤ 16384) := by
  have hlow0 := Lib.hid hlow
  have hf0 := Lib.hid hf
  clear hlow hf
  go_enter Tryd.func8, Tryd.ntmps8
  go_wp2_with (fail)
  go_loopg [3, 4] (l.length + 1) (fun g n i wr => ∃ (k N : Nat), g = l.length + 1 - k ∧ k ≤ l.length ∧ i = .int .i64 k ∧ n = .int .i64 N ∧ Below w.heap.size w wr ∧ ((N = stepsW (l.take k) ∧ N ≤ 281474976710656) ∨ (16384 < N ∧ N ≤ 1125899906842624)))
  case atStart => exact ⟨0, 0, by omega, by omega, rfl, rfl, Below.refl _ _, .inl ⟨by simp [stepsW], by omega⟩⟩
  case round =>
    obtain ⟨k, N, rfl, hk, rfl, rfl, hB, hN⟩ := hrel
    by_cases hlt : k < l.length
    · have hkl : (k : Int) < (l.length : Int) := by omega
      by_cases h8 : N ≤ 16384
      · have h8' : (N : Int) ≤ 16384 := by omega
        obtain ⟨b, o, rfl, hb, hc⟩ := hlow0.out (by omega)
        have hst := (hc k hlt).below hb hB
        have hft : (l.getD k ⟨0, [], 0, 0, []⟩).fits := by
          have : l.getD k ⟨0, [], 0, 0, []⟩ = l[k] := by simp [List.getD, hlt]
          rw [this]; exact hf0.out _ (List.getElem_mem hlt)
        have hS := stepsW_step hlt
        generalize l.getD k ⟨0, [], 0, 0, []⟩ = s at *
        obtain ⟨v2, v3, a1, c1, a2, c2, a3, c3, hrg, _, _, hz1, hq1, hrl, _⟩ := hst
        obtain ⟨_, f1, f2, _, _, f3, f4, _⟩ := hft
        have y1 := hrg 1 _ rfl
        have y5 := hrg 5 _ rfl
        have y6 := hrg 6 _ rfl
        have hN' : N = stepsW (l.take k) := hN.elim (fun h => h.1) (fun h => absurd h8 (by omega))
        obtain ⟨N1, hN1⟩ : ∃ N1, N1 = N + 32 + s.nb + s.picks.length := ⟨_, rfl⟩
        have hS1 : stepsW (l.take (k + 1)) = N1 + recW s.recs := by rw [hS, stepW]; omega
        replace hS1 := Lib.hid hS1
        replace hrl := Lib.hid hrl
        replace hN := Lib.hid hN
        replace f2 := Lib.hid f2
        clear hc hrg hS hN'
        have hblt : b < wr.heap.size := Nat.lt_of_lt_of_le hb hB.size
        have z1 := fun z : Grew wr.heap.size wr => Grew.cell y1 hblt z
        have z5 := fun z : Grew wr.heap.size wr => Grew.cell y5 hblt z
        have z6 := fun z : Grew wr.heap.size wr => Grew.cell y6 hblt z
        go_upto_block 1 with (fail)
        go_cut [3] (fun n wx => ∃ N' : Nat, n = .int .i64 N' ∧ Below w.heap.size w wx ∧ ((N' = N1 + recW s.recs ∧ N' ≤ 281474976710656) ∨ (16384 < N' ∧ N' ≤ 1125899906842624)))
        case first =>
          go_upto_region 5 with (fail)
          refine wp_grow wr.heap.size (by kernel_rfl) (by kernel_rfl) ?_
          repeat (go_big_quiet_step (fail))
          refine wpQuiet_nil ?_
          rintro w2 ⟨zz, hzz⟩
          have hw2 : Below wr.heap.size wr w2 := by rw [hzz]; exact zz.2
          have hw2m := hw2.mono hB.size
          have hB2 := hB.trans hw2m
          have u1 := (hw2.cell (p := ⟨b, o + k * 7 + 1, none⟩) hblt).trans y1
          clear z1 z5 z6 hzz zz y1 y5 y6
          go_wp2_with (fail)
          go_loopg [3, 5] (s.recs.length + 1) (fun g n i wz => ∃ (j N2 : Nat), g = s.recs.length + 1 - j ∧ j ≤ s.recs.length ∧ i = .int .i64 j ∧ n = .int .i64 N2 ∧ wz = w2 ∧ N2 = N1 + recW (s.recs.take j) ∧ N2 ≤ 562949953421312)
          case atStart => exact ⟨0, N1, by omega, by omega, rfl, by go_num, rfl, by simp [recW], by omega⟩
          case round =>
            obtain ⟨j, N2, rfl, hj, rfl, rfl, rfl, hN2, hN3⟩ := hrel
            by_cases hjl : j < s.recs.length
            · have hjk : (j : Int) < (s.recs.length : Int) := by omega
              by_cases h9 : N2 ≤ 16384
              · have h9' : (N2 : Int) ≤ 16384 := by omega
                obtain ⟨b', o', rfl, hb', hc'⟩ := (hrl.out.below hw2m) (by omega)
                obtain ⟨xa, xc, hv, _⟩ := hc' j hjl
                have hRs := recW_step hjl
                have hX := f2.out j hjl
                generalize s.recs.getD j [] = X at *
                rw [hN2] at h9' hN3
                have hN20 := Lib.hid hN2
                replace hRs := Lib.hid hRs
                clear hc' hN2
                go_wp2_with (fail)
                go_roundg (s.recs.length + 1 - (j + 1))
                case measure => omega
                case rel => exact ⟨j + 1, N2 + (X.length + 16), by omega, by omega, by go_num, by go_num, rfl, by rw [hRs.out, hN20.out]; omega, by omega⟩
              · have h9' : decide ((N2 : Int) ≤ 16384) = false := decide_eq_false (by omega)
                have h92 : decide (N2 ≤ 16384) = false := decide_eq_false h9
                clear hN2
                go_wp2_with (fail)
                go_meet
                exact ⟨N2, rfl, hB2, .inr ⟨by omega, by omega⟩⟩
            · obtain rfl : j = s.recs.length := by omega
              rw [List.take_length] at hN2
              replace hN2 := Lib.hid hN2
              go_wp2_with (fail)
              go_meet
              refine ⟨N2, rfl, hB2, ?_⟩
              by_cases h9 : N2 ≤ 16384
              · exact .inl ⟨hN2.out, by omega⟩
              · exact .inr ⟨by omega, by omega⟩
        case rest =>
          obtain ⟨N', rfl, hBx, hNx⟩ := hcut
          replace hNx := Lib.hid hNx
          go_wp2_with (fail)
          go_roundg (l.length + 1 - (k + 1))
          case measure => omega
          case rel => exact ⟨k + 1, N', by omega, by omega, by go_num, rfl, hBx, by rw [hS1.out]; exact hNx.out⟩
      · have h8' : decide ((N : Int) ≤ 16384) = false := decide_eq_false (by omega)
        have h82 : decide (N ≤ 16384) = false := decide_eq_false h8
        have h83 : (16384 : Int) < (N : Int) := by omega
        clear hN
        go_wp2_with (fail)
        go_ret
        exact ⟨_, rfl, hB, fun h => by simp at h⟩
    · obtain rfl : k = l.length := by omega
      rw [List.take_length] at hN
      have hN0 := Lib.hid hN
      clear hN
      go_wp2_with (fail)
      go_ret
      exact ⟨_, rfl, hB, fun h => by have := hN0.out; simp at h; omega⟩
end Go.Proofs.YtiidohaibbdgeaaDoor

namespace Go.Proofs.YtiidohaibbdgeaaDoor
open Go Go.RowKit Go.ChangeShapes Go.WideShapes Go.ChangeAt

theorem cells_i : Tryd.prog.cellsOf 3 = 1 := by kernel_rfl
theorem bytes_i : Tryd.prog.bytesOf 3 = 8 := by kernel_rfl
theorem cells_is : Tryd.prog.cellsOf 36 = 1 := by kernel_rfl
theorem cells_rs : Tryd.prog.cellsOf 30 = 1 := by kernel_rfl
theorem cells_s11 : Tryd.prog.cellsOf 38 = 5 := by kernel_rfl
theorem cells_s12 : Tryd.prog.cellsOf 40 = 7 := by kernel_rfl
theorem bytes_s12 : Tryd.prog.bytesOf 40 = 104 := by kernel_rfl
theorem fields_11 : ∃ f0 f1 f2 f3 f4, Tryd.prog.underlying 38 = some (.struct #[f0, f1, f2, f3, f4]) ∧ (f0.type = 5 ∧ f0.offset = 0) ∧ (f1.type = 3 ∧ f1.offset = 1) ∧ (f2.type = 3 ∧ f2.offset = 2) ∧ (f3.type = 35 ∧ f3.offset = 3) ∧ (f4.type = 36 ∧ f4.offset = 4) :=
  ⟨(Tryd.prog.fieldsOf 38)[0]!, (Tryd.prog.fieldsOf 38)[1]!, (Tryd.prog.fieldsOf 38)[2]!, (Tryd.prog.fieldsOf 38)[3]!, (Tryd.prog.fieldsOf 38)[4]!,
    by kernel_rfl, ⟨by kernel_rfl, by kernel_rfl⟩, ⟨by kernel_rfl, by kernel_rfl⟩, ⟨by kernel_rfl, by kernel_rfl⟩, ⟨by kernel_rfl, by kernel_rfl⟩, ⟨by kernel_rfl, by kernel_rfl⟩⟩
theorem fields_12 : ∃ f0 f1 f2, Tryd.prog.underlying 40 = some (.struct #[f0, f1, f2]) ∧ (f0.type = 5 ∧ f0.offset = 0) ∧ (f1.type = 30 ∧ f1.offset = 1) ∧ (f2.type = 38 ∧ f2.offset = 2) :=
  ⟨(Tryd.prog.fieldsOf 40)[0]!, (Tryd.prog.fieldsOf 40)[1]!, (Tryd.prog.fieldsOf 40)[2]!,
    by kernel_rfl, ⟨by kernel_rfl, by kernel_rfl⟩, ⟨by kernel_rfl, by kernel_rfl⟩, ⟨by kernel_rfl, by kernel_rfl⟩⟩
theorem fits_field {H : Type} {t : TypeId} {fs : Array Field} {ds : List (DataW H)} (hu : Tryd.prog.underlying t = some (.struct fs)) (h : Fits t (.agg ds)) {j : Nat} {f : Field} {d : DataW H} (hf : fs[j]? = some f) (hd : ds[j]? = some d) : Fits f.type d := fun n hn =>
  h n (by
    simp only [DataW.weights, hu]
    exact DataW.weights_mem_each (j := j) (by simp [hf]) hd n hn)

section
variable {H : Type} {enc : TypeId × Value → H} {w : World} {base : Nat} {spare : Nat → Bool} {held : Bool}

theorem u8_of_cells {fuel : Nat} {cs : List Value} {x : DataW H × List MemPlace} (h : DataW.trod enc Tryd.prog w base spare held fuel 5 cs = some x) : ∃ n : Nat, n ≤ 255 ∧ cs = [.int .u8 n] := by
  obtain ⟨n, hn, _, hw⟩ := DataW.trod_int Tryd.underlying5 h
  have hb : 0 ≤ n ∧ n ≤ 255 := by
    simp [Lit.wf, IntKind.min, IntKind.max, IntKind.signed, IntKind.bits] at hw
    omega
  exact ⟨n.toNat, by omega, by rw [hn, Int.toNat_of_nonneg hb.1]⟩
theorem int_of_cells {fuel : Nat} {cs : List Value} {x : DataW H × List MemPlace} (h : DataW.trod enc Tryd.prog w base spare held fuel 3 cs = some x) : ∃ n : Int, -9223372036854775808 ≤ n ∧ n ≤ 9223372036854775807 ∧ cs = [.int .i64 n] := by
  obtain ⟨n, hn, _, hw⟩ := DataW.trod_int Tryd.underlying3 h
  have hb : -9223372036854775808 ≤ n ∧ n ≤ 9223372036854775807 := by
    simp [Lit.wf, IntKind.min, IntKind.max, IntKind.signed, IntKind.bits] at hw
    omega
  exact ⟨n, hb.1, hb.2, hn⟩
theorem ints_of_cells {fuel : Nat} {cs : List Value} {x : DataW H × List MemPlace} (h : DataW.trod enc Tryd.prog w base spare held fuel 36 cs = some x) :
    ∃ (a : Option Addr) (l : List Int) (cap : Nat), cs = [.slice a l.length cap] ∧ (∀ z ∈ l, z ≤ 9223372036854775807) ∧ IntsLow w.heap.size w a l ∧ (Fits 36 x.1 → l.length ≤ reachBytes) := by
  rcases Go.Deep.open_slice Tryd.underlying36 h with ⟨rfl, _⟩ | ⟨a, len, cap, m, n, D, Pl, rfl, _, hl, hm, hmm, hxd, hx⟩
  · exact ⟨none, [], 0, rfl, (fun z hz => by cases hz), (fun h => by simp at h), fun _ => by simp⟩
  rw [cells_i] at hx
  have hle : len ≤ m := by rw [hmm]; split <;> omega
  have each : ∀ i, i < len → ∃ z : Int, z ≤ 9223372036854775807 ∧ w.cells? base (a.add (i * 1)) 1 = some [.int .i64 z] := fun i hi => by
    obtain ⟨cs', h1, h2⟩ := hx i (by omega)
    obtain ⟨z, _, hz, rfl⟩ := int_of_cells h2
    exact ⟨z, hz, h1⟩
  obtain ⟨E, hE⟩ := Go.Deep.choose_lt each
  refine ⟨some a, (List.range len).map E, cap, by simp, (fun z hz => ?h0), (fun hn => ?h1), fun hf => ?h2⟩
  case h0 =>
    obtain ⟨i, hi, rfl⟩ := List.mem_map.1 hz
    exact (hE i (List.mem_range.1 hi)).1
  case h2 =>
    have := hf ((((List.range len).map D).length + ((List.range (m - len)).map fun j => D (len + j)).length) * Tryd.prog.bytesOf 3) (by rw [hxd]; simp [DataW.weights, Tryd.underlying36])
    rw [bytes_i] at this
    simp at this ⊢
    omega
  have hn' : 0 < len := by simpa using hn
  have hcell : ∀ j, j < len → w.cell? (a.add j) = some (.int .i64 (E j)) := fun j hj => by
    obtain ⟨_, _, hc⟩ := World.cells?_some (hE j hj).2
    have := hc 0 (by omega)
    rw [Nat.mul_one] at this
    have h00 : (a.add j).add 0 = a.add j := by simp [Addr.add]
    rw [h00] at this
    rw [this]; simp
  have g0 := hcell 0 hn'
  obtain ⟨b, o, sp⟩ := a
  have hsp : sp = none := by simpa [Addr.add] using World.cell?_spot g0
  subst hsp
  refine ⟨b, o, rfl, block_lt_of_cell (a := ⟨b, o, none⟩) (by simpa [Addr.add] using g0), fun j hj => ?_⟩
  have hj' : j < len := by simpa using hj
  have := hcell j hj'
  rw [addr_add] at this
  rw [this]
  simp [List.getD, hj']
set_option maxRecDepth 100000 in
theorem step11_of_cells {fuel : Nat} {cs : List Value} {x : DataW H × List MemPlace} (h : DataW.trod enc Tryd.prog w base spare held fuel 38 cs = some x) :
    ∃ (v2 v3 : Value) (n : Int) (nb : Nat) (a2 : Option Addr) (c2 : Nat) (ps : List Int) (a3 : Option Addr) (c3 : Nat), cs = [v2, v3, .int .i64 n, .slice a2 nb c2, .slice a3 ps.length c3] ∧ v2.oneCell' = true ∧ v3.oneCell' = true ∧
      IntsLow w.heap.size w a3 ps ∧ -9223372036854775808 ≤ n ∧ n ≤ 9223372036854775807 ∧ (∀ z ∈ ps, z ≤ 9223372036854775807) ∧ (Fits 38 x.1 → nb ≤ reachBytes ∧ ps.length ≤ reachBytes) := by
  obtain ⟨f0, f1, f2, f3, f4, hu, ⟨t0, o0⟩, ⟨t1, o1⟩, ⟨t2, o2⟩, ⟨t3, o3⟩, t4, o4⟩ := fields_11
  obtain ⟨xs, m, _, rfl, hl, hlen, hf⟩ := DataW.trod_struct hu h
  rw [cells_s11] at hl
  match xs, hlen with
  | [y0, y1, y2, y3, y4], _ =>
  match cs, hl with
  | [d0, d1, d2, d3, d4], _ =>
  have h0 := hf 0 f0 rfl
  have h1 := hf 1 f1 rfl
  have h2 := hf 2 f2 rfl
  have h3 := hf 3 f3 rfl
  have h4 := hf 4 f4 rfl
  rw [t0, o0, cells_u8] at h0
  rw [t1, o1, cells_i] at h1
  rw [t2, o2, cells_i] at h2
  rw [t3, o3, cells_u8s] at h3
  rw [t4, o4, cells_is] at h4
  obtain ⟨n0, _, e0⟩ := u8_of_cells (cs := [d0]) (x := y0) h0
  obtain ⟨n1, _, _, e1⟩ := int_of_cells (cs := [d1]) (x := y1) h1
  obtain ⟨n2, k1, k2, e2⟩ := int_of_cells (cs := [d2]) (x := y2) h2
  obtain ⟨a3, l3, c3, e3, _, _, _, _, k3⟩ := bytes_of_cells (cs := [d3]) (x := y3) h3
  obtain ⟨a4, l4, c4, e4, k4, k5, k6⟩ := ints_of_cells (cs := [d4]) (x := y4) h4
  injection e0 with e0
  injection e1 with e1
  injection e2 with e2
  injection e3 with e3
  injection e4 with e4
  subst e0 e1 e2 e3 e4
  refine ⟨_, _, n2, l3.length, a3, c3, l4, a4, c4, rfl, rfl, rfl, k5, k1, k2, k4, fun hx => ⟨k3 ?_, k6 ?_⟩⟩
  · have := fits_field (f := f3) (d := y3.1) hu hx (j := 3) rfl rfl
    rw [t3] at this
    exact this
  · have := fits_field (f := f4) (d := y4.1) hu hx (j := 4) rfl rfl
    rw [t4] at this
    exact this
set_option maxRecDepth 100000 in
theorem step_of_cells {fuel : Nat} {cs : List Value} {x : DataW H × List MemPlace} (h : DataW.trod enc Tryd.prog w base spare held fuel 40 cs = some x) :
    ∃ (s : StepM) (v2 v3 : Value) (a1 : Option Addr) (c1 : Nat) (a2 : Option Addr) (c2 : Nat) (a3 : Option Addr) (c3 : Nat),
      cs = [.int .u8 s.act, .slice a1 s.recs.length c1, v2, v3, .int .i64 s.n, .slice a2 s.nb c2, .slice a3 s.picks.length c3] ∧ v2.oneCell' = true ∧ v3.oneCell' = true ∧ (a1 = none → c1 = 0) ∧ s.recs.length ≤ c1 ∧ RecsLow w.heap.size w a1 s.recs ∧ IntsLow w.heap.size w a3 s.picks ∧ (Fits 40 x.1 → s.fits) := by
  obtain ⟨f0, f1, f2, hu, ⟨t0, o0⟩, ⟨t1, o1⟩, t2, o2⟩ := fields_12
  obtain ⟨xs, m, _, rfl, hl, hlen, hf⟩ := DataW.trod_struct hu h
  rw [cells_s12] at hl
  match xs, hlen with
  | [y0, y1, y2], _ =>
  match cs, hl with
  | [d0, d1, d2, d3, d4, d5, d6], _ =>
  have h0 := hf 0 f0 rfl
  have h1 := hf 1 f1 rfl
  have h2 := hf 2 f2 rfl
  rw [t0, o0, cells_u8] at h0
  rw [t1, o1, cells_rs] at h1
  rw [t2, o2, cells_s11] at h2
  obtain ⟨n0, k0, e0⟩ := u8_of_cells (cs := [d0]) (x := y0) h0
  obtain ⟨a1, l1, c1, e1, k1, k2, _, k3, k4⟩ := recs_of_cells (cs := [d1]) (x := y1) h1
  obtain ⟨v2, v3, n, nb, a2, c2, ps, a3, c3, e2, k5, k6, k7, k8, k9, k10, k11⟩ := step11_of_cells (cs := [d2, d3, d4, d5, d6]) (x := y2) h2
  injection e0 with e0
  injection e1 with e1
  injection e2 with e2 e3
  injection e3 with e3 e4
  injection e4 with e4 e5
  injection e5 with e5 e6
  injection e6 with e6
  subst e0 e1 e2 e3 e4 e5 e6
  refine ⟨⟨n0, l1, n, nb, ps⟩, _, _, a1, c1, a2, c2, a3, c3, rfl, k5, k6, k1, k2, k3, k7, fun hx => ?_⟩
  have g1 := fits_field (f := f1) (d := y1.1) hu hx (j := 1) rfl rfl
  have g2 := fits_field (f := f2) (d := y2.1) hu hx (j := 2) rfl rfl
  rw [t1] at g1
  rw [t2] at g2
  obtain ⟨q1, q2⟩ := k4 g1
  obtain ⟨q3, q4⟩ := k11 g2
  unfold reachBytes at q1 q2 q3 q4
  exact ⟨k0, by simp only; omega, q2, k8, k9, q3, q4, k10⟩
set_option maxRecDepth 100000 in
/-- Steps that come in. -/
theorem steps_of_cells {fuel : Nat} {cs : List Value} {x : DataW H × List MemPlace} (h : DataW.trod enc Tryd.prog w base spare held fuel 22 cs = some x) :
    ∃ (a : Option Addr) (l : List StepM) (cap : Nat), cs = [.slice a l.length cap] ∧ (a = none → cap = 0) ∧ l.length ≤ cap ∧ cap ≤ maxLen ∧ StepsLow w.heap.size w a l ∧ (Fits 22 x.1 → l.length ≤ 140737488351232 ∧ ∀ s ∈ l, s.fits) := by
  rcases Go.Deep.open_slice Tryd.underlying22 h with ⟨rfl, _⟩ | ⟨a, len, cap, m, n, D, Pl, rfl, _, hl, hm, hmm, hxd, hx⟩
  · exact ⟨none, [], 0, rfl, fun _ => rfl, by simp, by unfold maxLen; omega, (fun hn => by simp at hn), fun _ => ⟨by simp, fun s hs => by cases hs⟩⟩
  rw [cells_s12] at hx
  have hle : len ≤ m := by rw [hmm]; split <;> omega
  have each : ∀ i, i < len → ∃ s : StepM, (∃ cs', w.cells? base (a.add (i * 7)) 7 = some cs' ∧ ∃ (v2 v3 : Value) (a1 : Option Addr) (c1 : Nat) (a2 : Option Addr) (c2 : Nat) (a3 : Option Addr) (c3 : Nat),
      cs' = [.int .u8 s.act, .slice a1 s.recs.length c1, v2, v3, .int .i64 s.n, .slice a2 s.nb c2, .slice a3 s.picks.length c3] ∧ v2.oneCell' = true ∧ v3.oneCell' = true ∧ (a1 = none → c1 = 0) ∧ s.recs.length ≤ c1 ∧ RecsLow w.heap.size w a1 s.recs ∧ IntsLow w.heap.size w a3 s.picks) ∧ (Fits 40 (D i) → s.fits) := fun i hi => by
    obtain ⟨cs', h1, h2⟩ := hx i (by omega)
    obtain ⟨s, v2, v3, a1, c1, a2, c2, a3, c3, e, k1, k2, k3, k4, k5, k6, k7⟩ := step_of_cells h2
    exact ⟨s, ⟨cs', h1, v2, v3, a1, c1, a2, c2, a3, c3, e, k1, k2, k3, k4, k5, k6⟩, k7⟩
  haveI : Inhabited StepM := ⟨⟨0, [], 0, 0, []⟩⟩
  obtain ⟨E, hE⟩ := Go.Deep.choose_lt each
  refine ⟨some a, (List.range len).map E, cap, by simp, (fun h => by cases h), by simpa using hl, hm, (fun hn => ?h1), fun hf => ⟨?h2, fun s hs => ?h3⟩⟩
  case h2 =>
    have := hf ((((List.range len).map D).length + ((List.range (m - len)).map fun j => D (len + j)).length) * Tryd.prog.bytesOf 40) (by rw [hxd]; simp [DataW.weights, Tryd.underlying22])
    rw [bytes_s12] at this
    unfold reachBytes at this
    simp at this ⊢
    omega
  case h3 =>
    obtain ⟨i, hi, rfl⟩ := List.mem_map.1 hs
    have hi' := List.mem_range.1 hi
    exact (hE i hi').2 fun n hn => hf n (by
      rw [hxd]
      simp only [DataW.weights, Tryd.underlying22]
      exact List.mem_cons_of_mem _ (List.mem_append_left _ (weights_all (List.mem_map.2 ⟨i, hi, rfl⟩) hn)))
  have hn' : 0 < len := by simpa using hn
  have g0 : ∃ v, w.cell? (a.add 0) = some v := by
    obtain ⟨⟨cs', h1, v2, v3, a1, c1, a2, c2, a3, c3, rfl, _⟩, _⟩ := hE 0 hn'
    obtain ⟨_, _, hc⟩ := World.cells?_some h1
    have := hc 0 (by omega)
    rw [Nat.zero_mul] at this
    have h00 : (a.add 0).add 0 = a.add 0 := by simp [Addr.add]
    rw [h00] at this
    exact ⟨_, this⟩
  obtain ⟨_, g0⟩ := g0
  obtain ⟨b, o, sp⟩ := a
  have hsp : sp = none := by simpa [Addr.add] using World.cell?_spot g0
  subst hsp
  refine ⟨b, o, rfl, block_lt_of_cell (a := ⟨b, o, none⟩) (by simpa [Addr.add] using g0), fun j hj => ?_⟩
  have hj' : j < len := by simpa using hj
  have he : ((List.range len).map E).getD j ⟨0, [], 0, 0, []⟩ = E j := by simp [List.getD, hj']
  rw [he]
  obtain ⟨⟨cs', h1, v2, v3, a1, c1, a2, c2, a3, c3, rfl, k1, k2, k3, k4, k5, k6⟩, _⟩ := hE j hj'
  obtain ⟨_, _, hc⟩ := World.cells?_some h1
  refine ⟨v2, v3, a1, c1, a2, c2, a3, c3, fun q v hq => ?_, k1, k2, k3, k4, k5, k6⟩
  have hq7 : q < 7 := (List.getElem?_eq_some_iff.1 hq).1
  have := hc q hq7
  rw [addr_add, addr_add] at this
  rw [this]
  exact hq
end
end Go.Proofs.YtiidohaibbdgeaaDoor
