/-
  A vault's calls: what they answer, what they leave on the disk. Plain.
-/
import Derived.Test.YtiidohaibbdgeaaDoorVBegin
import Derived.Test.YtiidohaibbdgeaaDoorVPlain
namespace Go.Proofs.YtiidohaibbdgeaaDoor
open Go Go.RowKit

/-- The file, the generation and the records of the better of two. -/
def bestL : Option (Nat × List Bs) → Option (Nat × List Bs) → Option (Nat × Nat × List Bs)
  | none, none => none
  | some (x, l), none => some (0, x, l)
  | none, some (y, m) => some (1, y, m)
  | some (x, l), some (y, m) => if x < y then some (1, y, m) else some (0, x, l)
def openOps (f good : Nat) : List (DiskM → DiskM × Int) := [fun D => D.vcut f good, fun D => D.sync f, fun D => D.vcut ((1 : Int) - f) 0]
/-- A vault is opened: the disk, the error, the vault and its records. -/
def DiskM.openV (D : DiskM) : DiskM × Int × Option (VaultM × List Bs) :=
  if D.off = true then (D, 8, none) else
  match bestL (lookL 0 D.f0.stands) (lookL 1 D.f1.stands) with
  | none => (D.begin.1, D.begin.2, if D.begin.2 = 0 then some (⟨1, 1, 0, false⟩, []) else none)
  | some (f, x, l) => ((runL (openOps f (44 + sizesL l)) D).1, (runL (openOps f (44 + sizesL l)) D).2, if (runL (openOps f (44 + sizesL l)) D).2 = 0 then some (⟨f, x, l.length, false⟩, l) else none)

abbrev DV := DiskM × VaultM
/-- Is a record too long? -/
def longL (l : List Bs) : Bool := l.any fun r => decide (32768 < r.length)
/-- An error is remembered. -/
def keepL (r : DV × Int) : DV × Int := ((r.1.1, { r.1.2 with broken := decide (r.2 ≠ 0) }), r.2)
def addOps (m : Nat) (s : Bs) : List (DV → DV × Int) :=
  [fun x => (((x.1.write x.2.file s).1, x.2), (x.1.write x.2.file s).2), fun x => (((x.1.sync x.2.file).1, x.2), (x.1.sync x.2.file).2), fun x => ((x.1, { x.2 with n := x.2.n + m }), 0)]
def addL (l : List Bs) (x : DV) : DV × Int :=
  if x.2.broken = true then (x, 3) else if longL l = true then (x, 1) else if x.1.room < sizesL l then (x, 7) else if l.length = 0 then (x, 0) else keepL (runL (addOps l.length (framesL x.2.gen x.2.n l)) x)
def compOps (o m : Nat) (s : Bs) : List (DV → DV × Int) :=
  [fun x => (((x.1.vcut o 0).1, x.2), (x.1.vcut o 0).2), fun x => (((x.1.write o s).1, x.2), (x.1.write o s).2), fun x => (((x.1.sync o).1, x.2), (x.1.sync o).2),
    fun x => (((x.1.cut x.2.file 0).1, x.2), (x.1.cut x.2.file 0).2), fun x => ((x.1, { x.2 with file := o, gen := x.2.gen + 1, n := m }), 0)]
def compL (l : List Bs) (x : DV) : DV × Int :=
  if x.2.broken = true then (x, 3) else if longL l = true then (x, 1) else if 4611686018427387904 ≤ x.2.gen then (x, 6) else
  if (x.1.read ((1 - x.2.file : Nat) : Int)).2 ≠ 0 then keepL (x, (x.1.read ((1 - x.2.file : Nat) : Int)).2) else
  if x.1.room + (x.1.read ((1 - x.2.file : Nat) : Int)).1.length < 44 + sizesL l then (x, 7) else
  keepL (runL (compOps (1 - x.2.file) l.length (headL (x.2.gen + 1) l.length ++ framesL (x.2.gen + 1) 0 l)) x)

theorem longL_false {l : List Bs} (h : longL l = false) : ∀ r ∈ l, r.length ≤ 32768 := fun r hr => by
  unfold longL at h
  rw [List.any_eq_false] at h
  have := h r hr
  simpa using this

/-- No generation from g on. -/
def Lower (f g : Nat) (t : Bs) : Prop := ∀ g' l', lookL f t = some (g', l') → g' < g
theorem Lower.nil (f g : Nat) : Lower f g [] := fun g' l' h => by rw [lookL_nil] at h; cases h
theorem Lower.none {f g : Nat} {t : Bs} (h : lookL f t = none) : Lower f g t := fun g' l' h' => by rw [h] at h'; cases h'
theorem Lower.mono {f g g' : Nat} {t : Bs} (h : Lower f g t) (hg : g ≤ g') : Lower f g' t := fun _ _ h' => Nat.lt_of_lt_of_le (h _ _ h') hg
theorem look_parity {f g : Nat} {t : Bs} {l : List Bs} (h : lookL f t = some (g, l)) : 1 ≤ g ∧ g ≤ 4611686018427387904 ∧ g % 2 = f := by
  obtain ⟨_, _, _, _, _, _, _, h⟩ := lookL_some h
  exact h
theorem best_of {f g : Nat} {l : List Bs} {s t : Bs} (hf : f < 2) (h : lookL f s = some (g, l)) (ho : Lower (1 - f) g t) :
    bestL (lookL 0 (if f = 0 then s else t)) (lookL 1 (if f = 0 then t else s)) = some (f, g, l) := by
  match f, hf with
  | 0, _ =>
    simp only [if_true]
    rw [h]
    cases hb : lookL 1 t with
    | none => rfl
    | some q =>
      obtain ⟨y, m⟩ := q
      have := ho _ _ hb
      simp only [bestL]
      rw [if_neg (by omega)]
  | 1, _ =>
    rw [if_neg (by omega), if_neg (by omega), h]
    cases ha : lookL 0 t with
    | none => rfl
    | some q =>
      obtain ⟨x, m⟩ := q
      have := ho _ _ ha
      simp only [bestL]
      rw [if_pos this]
theorem best_some {a b : Bs} {f g : Nat} {l : List Bs} (h : bestL (lookL 0 a) (lookL 1 b) = some (f, g, l)) : f < 2 ∧ lookL f (if f = 0 then a else b) = some (g, l) ∧ Lower (1 - f) g (if f = 0 then b else a) := by
  cases ha : lookL 0 a with
  | none =>
    cases hb : lookL 1 b with
    | none => rw [ha, hb] at h; cases h
    | some q =>
      rw [ha, hb] at h
      simp only [bestL, Option.some.injEq, Prod.mk.injEq] at h
      obtain ⟨rfl, rfl, rfl⟩ := h
      exact ⟨by omega, hb, Lower.none ha⟩
  | some p =>
    have pa := look_parity ha
    cases hb : lookL 1 b with
    | none =>
      rw [ha, hb] at h
      simp only [bestL, Option.some.injEq, Prod.mk.injEq] at h
      obtain ⟨rfl, rfl, rfl⟩ := h
      exact ⟨by omega, ha, Lower.none hb⟩
    | some q =>
      have pb := look_parity hb
      rw [ha, hb] at h
      simp only [bestL] at h
      split at h
      · rename_i hlt
        simp only [Option.some.injEq, Prod.mk.injEq] at h
        obtain ⟨rfl, rfl, rfl⟩ := h
        refine ⟨by omega, hb, fun g' l' h' => ?_⟩
        rw [if_neg (by omega)] at h'
        rw [ha] at h'
        cases h'
        exact hlt
      · simp only [Option.some.injEq, Prod.mk.injEq] at h
        obtain ⟨rfl, rfl, rfl⟩ := h
        refine ⟨by omega, ha, fun g' l' h' => ?_⟩
        simp only [if_true] at h'
        rw [hb] at h'
        cases h'
        simp only at *
        omega

/-- Whatever stays of what is loose, the best file's records are such. -/
def Holds (p : List Bs → Prop) (D : DiskM) : Prop := ∀ s t, D.f0.res s → D.f1.res t → ∃ f g l, bestL (lookL 0 s) (lookL 1 t) = some (f, g, l) ∧ p l
theorem Holds.mk {f : Nat} (hf : f < 2) {p : List Bs → Prop} {A O : FileM} {M : Nat} {off fu : Bool} {lf : Int}
    (h : ∀ s t, A.res s → O.res t → ∃ g l, p l ∧ ((lookL f s = some (g, l) ∧ Lower (1 - f) g t) ∨ (lookL (1 - f) t = some (g, l) ∧ Lower f g s))) : Holds p (mkD f A O M off fu lf) := by
  intro s t hs ht
  match f, hf with
  | 0, _ =>
    obtain ⟨g, l, hp, h1⟩ := h s t hs ht
    rcases h1 with ⟨h1, h2⟩ | ⟨h1, h2⟩
    · exact ⟨0, g, l, best_of (f := 0) (by omega) h1 h2, hp⟩
    · exact ⟨1, g, l, best_of (f := 1) (by omega) h1 h2, hp⟩
  | 1, _ =>
    obtain ⟨g, l, hp, h1⟩ := h t s ht hs
    rcases h1 with ⟨h1, h2⟩ | ⟨h1, h2⟩
    · exact ⟨1, g, l, best_of (f := 1) (by omega) h1 h2, hp⟩
    · exact ⟨0, g, l, best_of (f := 0) (by omega) h1 h2, hp⟩
theorem Holds.imp {p q : List Bs → Prop} {D : DiskM} (h : Holds p D) (hq : ∀ l, p l → q l) : Holds q D := fun s t hs ht => by
  obtain ⟨f, g, l, h1, h2⟩ := h s t hs ht
  exact ⟨f, g, l, h1, hq l h2⟩

/-- A disk with a vault that is in order. -/
def Good (M : Nat) (fu : Bool) (x : DV) (all : List Bs) : Prop :=
  x.2.file < 2 ∧ x.2.broken = false ∧ x.2.n = all.length ∧ ∃ s O lf, x.1 = mkD x.2.file ⟨s, []⟩ O M false fu lf ∧ Snd x.2.file x.2.gen all s ∧ O.stands = [] ∧ ∀ t, O.res t → Lower (1 - x.2.file) x.2.gen t
theorem Good.holds {M : Nat} {fu : Bool} {x : DV} {all : List Bs} (h : Good M fu x all) : Holds (fun l => l = all) x.1 := by
  obtain ⟨h1, _, _, s, O, lf, h4, h5, _, h7⟩ := h
  rw [h4]
  refine Holds.mk h1 fun a b ha hb => ⟨_, _, rfl, .inl ⟨?_, h7 b hb⟩⟩
  rw [res_firm ha]
  exact h5.look
theorem stands_firm (s : Bs) : FileM.stands ⟨s, []⟩ = s := rfl
theorem Good.room {M : Nat} {fu : Bool} {x : DV} {all : List Bs} (h : Good M fu x all) : x.1.room = M - (44 + sizesL all) := by
  obtain ⟨h1, _, _, s, O, lf, h4, h5, h6, _⟩ := h
  rw [h4, mkD_room h1, stands_firm, h5.length, h6]
  simp

theorem runL_cons0 {σ : Type} {f : σ → σ × Int} {fs : List (σ → σ × Int)} {s s' : σ} (h : f s = (s', 0)) : runL (f :: fs) s = runL fs s' := by
  simp [runL, h]
theorem runL_consE {σ : Type} {f : σ → σ × Int} {fs : List (σ → σ × Int)} {s s' : σ} {e : Int} (h : f s = (s', e)) (he : e ≠ 0) : runL (f :: fs) s = (s', e) := by
  simp [runL, h, he]

/-- What an Add that the power cut off leaves. -/
def Beginning (all l x : List Bs) : Prop := ∃ n, n ≤ l.length ∧ x = all ++ l.take n

theorem add_good {M : Nat} (hM : M ≤ 4194304) {fu : Bool} {x : DV} {all l : List Bs} (h : Good M fu x all) :
    (longL l = true ∧ addL l x = (x, 1)) ∨ (longL l = false ∧ M - (44 + sizesL all) < sizesL l ∧ addL l x = (x, 7)) ∨
    (longL l = false ∧ sizesL l ≤ M - (44 + sizesL all) ∧ (addL l x).2 = 0 ∧ Good M fu (addL l x).1 (all ++ l) ∧ (addL l x).1.2.gen = x.2.gen ∧ (addL l x).1.2.file = x.2.file) ∨
    (fu = true ∧ (addL l x).2 = 8 ∧ (addL l x).1.1.off = true ∧ (addL l x).1.2.broken = true ∧ Holds (Beginning all l) (addL l x).1.1) := by
  have hroom := h.room
  obtain ⟨D, V⟩ := x
  obtain ⟨h1, h2, h3, s, O, lf, h4, h5, h6, h7⟩ := h
  simp only at h1 h2 h3 h4 h5 h7 hroom
  by_cases hl : longL l = true
  · exact .inl ⟨hl, by simp [addL, h2, hl]⟩
  have hl' : longL l = false := by simpa using hl
  have hlong := longL_false hl'
  by_cases hr : M - (44 + sizesL all) < sizesL l
  · exact .inr (.inl ⟨hl', hr, by simp [addL, h2, hl', hroom, hr]⟩)
  by_cases h0 : l.length = 0
  · obtain rfl := List.eq_nil_of_length_eq_zero h0
    have e : addL [] (D, V) = ((D, V), 0) := by simp [addL, h2, hl', hroom, sizesL]
    rw [e]
    exact .inr (.inr (.inl ⟨hl', by omega, rfl, by rw [List.append_nil]; exact ⟨h1, h2, h3, s, O, lf, h4, h5, h6, h7⟩, rfl, rfl⟩))
  have e : addL l (D, V) = keepL (runL (addOps l.length (framesL V.gen all.length l)) (D, V)) := by
    simp only [addL, h2, hl', hroom, hr, h3, h0, if_false, Bool.false_eq_true]
  rw [e]
  subst h4
  obtain ⟨F, hF⟩ : ∃ F, F = framesL V.gen all.length l := ⟨_, rfl⟩
  have hFl : F.length = sizesL l := by rw [hF, framesL_length]
  rw [← hF]
  have hsl := h5.length
  have beg : ∀ {D' : DiskM}, (∃ A fu lf off, D' = mkD V.file A O M off fu lf ∧ ∀ a, A.res a → a = s ∨ ∃ j, a = s ++ F.take j) → Holds (Beginning all l) D' := by
    rintro D' ⟨A, fu, lf, off, rfl, hA⟩
    refine Holds.mk h1 fun a b ha hb => ?_
    rcases hA a ha with rfl | ⟨j, rfl⟩
    · exact ⟨V.gen, all, ⟨0, by omega, by simp⟩, .inl ⟨h5.look, h7 b hb⟩⟩
    · refine ⟨V.gen, all ++ l.take (fitL l j), ⟨fitL l j, fitL_le _ _, rfl⟩, .inl ⟨?_, h7 b hb⟩⟩
      rw [hF]
      exact h5.part hlong j
  rcases mkD_write h1 (A := ⟨s, []⟩) (O := O) (M := M) (fu := fu) (lf := lf) F (by rw [stands_firm, h6]; simp; omega) with ⟨hw, hfu⟩ | ⟨z, hw⟩
  · have : runL (addOps l.length F) (mkD V.file ⟨s, []⟩ O M false fu lf, V) = ((mkD V.file ⟨s, []⟩ O M true fu lf, V), 8) := runL_consE (by simp [hw]) (by omega)
    rw [this]
    refine .inr (.inr (.inr ⟨hfu, rfl, mkD_off, rfl, beg ⟨_, _, _, _, rfl, fun a ha => .inl (res_firm ha)⟩⟩))
  · have hu : unitsL (FileM.put ⟨s, []⟩ (.wr F)).loose = F.length := by simp [FileM.put, unitsL, Chg.units]
    have e1 : runL (addOps l.length F) (mkD V.file ⟨s, []⟩ O M false fu lf, V) = runL ((addOps l.length F).tail) (mkD V.file (FileM.put ⟨s, []⟩ (.wr F)) O M false fu z, V) := runL_cons0 (by simp [hw])
    rw [e1]
    · rcases mkD_sync h1 (A := FileM.put ⟨s, []⟩ (.wr F)) (O := O) (M := M) (fu := fu) (lf := z) (by rw [hu]; omega) with ⟨hy, hfu⟩ | ⟨z2, hy⟩
      · have : runL ((addOps l.length F).tail) (mkD V.file (FileM.put ⟨s, []⟩ (.wr F)) O M false fu z, V) = ((mkD V.file (FileM.put ⟨s, []⟩ (.wr F)) O M true fu z, V), 8) := runL_consE (by simp [hy]) (by omega)
        rw [this]
        refine .inr (.inr (.inr ⟨hfu, rfl, mkD_off, rfl, beg ⟨_, _, _, _, rfl, fun a ha => ?_⟩⟩))
        rcases res_put_wr ha with ha | ⟨j, rfl⟩
        · exact .inl (res_firm ha)
        · exact .inr ⟨j, rfl⟩
      · have : runL ((addOps l.length F).tail) (mkD V.file (FileM.put ⟨s, []⟩ (.wr F)) O M false fu z, V) = ((mkD V.file ⟨s ++ F, []⟩ O M false fu z2, { V with n := V.n + l.length }), 0) := by
          refine (runL_cons0 (s' := (mkD V.file ⟨s ++ F, []⟩ O M false fu z2, V)) ?_).trans rfl
          rw [stands_put_wr] at hy
          simp [hy, stands_firm]
        rw [this]
        refine .inr (.inr (.inl ⟨hl', by omega, rfl, ⟨h1, rfl, by simp [keepL, h3], s ++ F, O, z2, rfl, ?_, h6, h7⟩, rfl, rfl⟩))
        rw [hF]
        exact h5.more hlong

theorem unitsL_put (F : FileM) (c : Chg) : unitsL (F.put c).loose = unitsL F.loose + c.units := by
  simp [FileM.put, unitsL_append, unitsL]
/-- Numbers of files. -/
theorem flip_lt {f : Nat} (hf : f < 2) : 1 - f < 2 := by omega
theorem flip_flip {f : Nat} (hf : f < 2) : 1 - (1 - f) = f := by omega
theorem flip_cast {f : Nat} (hf : f < 2) : ((1 : Int) - (f : Int)) = ((1 - f : Nat) : Int) := by omega
theorem lower_above {f g : Nat} {l : List Bs} {t : Bs} (h : lookL f t = some (g, l)) : Lower f (g + 1) t := fun g' l' h' => by
  rw [h] at h'
  cases h'
  omega

theorem comp_good {M : Nat} (hM : M ≤ 4194304) {fu : Bool} {x : DV} {all l : List Bs} (hlen : l.length < 4294967296) (h : Good M fu x all) (hO : ∀ O, O = x.1.file (1 - x.2.file) → unitsL O.loose ≤ 4611686018427387904) :
    (longL l = true ∧ compL l x = (x, 1)) ∨ (longL l = false ∧ 4611686018427387904 ≤ x.2.gen ∧ compL l x = (x, 6)) ∨ (longL l = false ∧ x.2.gen < 4611686018427387904 ∧ M - (44 + sizesL all) < 44 + sizesL l ∧ compL l x = (x, 7)) ∨
    (longL l = false ∧ x.2.gen < 4611686018427387904 ∧ 44 + sizesL l ≤ M - (44 + sizesL all) ∧ (compL l x).2 = 0 ∧ Good M fu (compL l x).1 l ∧ (compL l x).1.2.gen = x.2.gen + 1 ∧ (compL l x).1.2.file = 1 - x.2.file) ∨
    (fu = true ∧ (compL l x).2 = 8 ∧ (compL l x).1.1.off = true ∧ (compL l x).1.2.broken = true ∧ Holds (fun y => y = all ∨ y = l) (compL l x).1.1) := by
  have hroom := h.room
  obtain ⟨D, V⟩ := x
  obtain ⟨h1, h2, h3, s, O, lf, h4, h5, h6, h7⟩ := h
  simp only at h1 h2 h3 h4 h5 h7 hroom hO
  have h1' := flip_lt h1
  by_cases hl : longL l = true
  · exact .inl ⟨hl, by simp [compL, h2, hl]⟩
  have hl' : longL l = false := by simpa using hl
  have hlong := longL_false hl'
  by_cases hg : 4611686018427387904 ≤ V.gen
  · exact .inr (.inl ⟨hl', hg, by simp [compL, h2, hl', hg]⟩)
  have hread : D.read ((1 - V.file : Nat) : Int) = ([], 0) := by
    rw [h4, mkD_flip h1, mkD_read h1', h6]
  by_cases hr : M - (44 + sizesL all) < 44 + sizesL l
  · exact .inr (.inr (.inl ⟨hl', Nat.lt_of_not_le hg, hr, by simp [compL, h2, hl', hg, hread, hroom, hr]⟩))
  have e : compL l (D, V) = keepL (runL (compOps (1 - V.file) l.length (headL (V.gen + 1) l.length ++ framesL (V.gen + 1) 0 l)) (D, V)) := by
    simp only [compL, h2, hl', hg, hread, hroom, hr, if_false, Bool.false_eq_true, ne_eq, not_true_eq_false, List.length_nil, Nat.add_zero]
  rw [e]
  obtain ⟨F, hF⟩ : ∃ F, F = headL (V.gen + 1) l.length ++ framesL (V.gen + 1) 0 l := ⟨_, rfl⟩
  have hFl : F.length = 44 + sizesL l := by rw [hF, List.length_append, headL_length, framesL_length]
  have hpar := (look_parity h5.look)
  have hpar2 : (V.gen + 1) % 2 = 1 - V.file := by omega
  have hnew : Snd (1 - V.file) (V.gen + 1) l F := by rw [hF]; exact Snd.new hlen hlong (by omega) (by omega) hpar2
  have hpart : ∀ j, j < F.length → lookL (1 - V.file) (F.take j) = none := fun j hj => by rw [hF]; exact new_part hlen hlong (by omega) (by omega) hpar2 (by omega)
  rw [← hF]
  have hOu : unitsL O.loose ≤ 4611686018427387904 := hO O (by rw [h4, mkD_other h1])
  have hput : ∀ t, (O.put (.wr F)).res t → Lower (1 - V.file) V.gen t ∨ lookL (1 - V.file) t = some (V.gen + 1, l) := fun t ht => by
    rcases res_put_wr ht with ht | ⟨j, rfl⟩
    · exact .inl (h7 t ht)
    · rw [h6, List.nil_append]
      by_cases hj : j < F.length
      · exact .inl (Lower.none (hpart j hj))
      · rw [List.take_of_length_le (by omega)]
        exact .inr hnew.look
  have hsl := h5.length
  have hslook := h5.look
  have two : ∀ {A B : FileM} {fu : Bool} {lf : Int} {off : Bool}, (∀ a, A.res a → lookL V.file a = some (V.gen, all) ∨ (lookL V.file a = none ∧ ∀ t, B.res t → lookL (1 - V.file) t = some (V.gen + 1, l))) → (∀ t, B.res t → Lower (1 - V.file) V.gen t ∨ lookL (1 - V.file) t = some (V.gen + 1, l)) →
      Holds (fun y => y = all ∨ y = l) (mkD V.file A B M off fu lf) := fun {A B fu lf off} hA hB => by
    refine Holds.mk h1 fun a t ha ht => ?_
    rcases hA a ha with ha | ⟨ha, hb⟩
    · rcases hB t ht with ht | ht
      · exact ⟨_, _, .inl rfl, .inl ⟨ha, ht⟩⟩
      · exact ⟨_, _, .inr rfl, .inr ⟨ht, lower_above ha⟩⟩
    · exact ⟨_, _, .inr rfl, .inr ⟨hb t ht, Lower.none ha⟩⟩
  have firm : ∀ a, FileM.res ⟨s, []⟩ a → lookL V.file a = some (V.gen, all) ∨ (lookL V.file a = none ∧ False) := fun a ha => .inl (by rw [res_firm ha]; exact hslook)
  subst h4
  have hcut0 : (mkD V.file ⟨s, []⟩ O M false fu lf).vcut ((1 - V.file : Nat) : Int) 0 = (mkD V.file ⟨s, []⟩ O M false fu lf, 0) := by
    unfold DiskM.vcut
    rw [hread]
    simp
  have e0 : runL (compOps (1 - V.file) l.length F) (mkD V.file ⟨s, []⟩ O M false fu lf, V) = runL ((compOps (1 - V.file) l.length F).tail) (mkD V.file ⟨s, []⟩ O M false fu lf, V) := runL_cons0 (by simp [hcut0])
  rw [e0]
  have hflip : ∀ {A B : FileM} {off fu : Bool} {lf : Int}, mkD V.file A B M off fu lf = mkD (1 - V.file) B A M off fu lf := mkD_flip h1
  rcases mkD_write h1' (A := O) (O := ⟨s, []⟩) (M := M) (fu := fu) (lf := lf) F (by rw [stands_firm, h6]; simp; omega) with ⟨hw, hfu⟩ | ⟨z, hw⟩
  · rw [← hflip, ← hflip] at hw
    have : runL ((compOps (1 - V.file) l.length F).tail) (mkD V.file ⟨s, []⟩ O M false fu lf, V) = ((mkD V.file ⟨s, []⟩ O M true fu lf, V), 8) := runL_consE (by simp [hw]) (by omega)
    rw [this]
    refine .inr (.inr (.inr (.inr ⟨hfu, rfl, mkD_off, rfl, two (fun a ha => (firm a ha).imp id fun h => h.2.elim) fun t ht => .inl (h7 t ht)⟩)))
  rw [← hflip, ← hflip] at hw
  have e1 : runL ((compOps (1 - V.file) l.length F).tail) (mkD V.file ⟨s, []⟩ O M false fu lf, V) = runL ((compOps (1 - V.file) l.length F).tail.tail) (mkD V.file ⟨s, []⟩ (O.put (.wr F)) M false fu z, V) := runL_cons0 (by simp [hw])
  rw [e1]
  have hstO : (O.put (.wr F)).stands = F := by rw [stands_put_wr, h6, List.nil_append]
  rcases mkD_sync h1' (A := O.put (.wr F)) (O := ⟨s, []⟩) (M := M) (fu := fu) (lf := z) (by rw [unitsL_put]; simp only [Chg.units]; omega) with ⟨hy, hfu⟩ | ⟨z2, hy⟩
  · rw [← hflip, ← hflip] at hy
    have : runL ((compOps (1 - V.file) l.length F).tail.tail) (mkD V.file ⟨s, []⟩ (O.put (.wr F)) M false fu z, V) = ((mkD V.file ⟨s, []⟩ (O.put (.wr F)) M true fu z, V), 8) := runL_consE (by simp [hy]) (by omega)
    rw [this]
    refine .inr (.inr (.inr (.inr ⟨hfu, rfl, mkD_off, rfl, two (fun a ha => (firm a ha).imp id fun h => h.2.elim) hput⟩)))
  rw [← hflip, ← hflip, hstO] at hy
  have e2 : runL ((compOps (1 - V.file) l.length F).tail.tail) (mkD V.file ⟨s, []⟩ (O.put (.wr F)) M false fu z, V) = runL ((compOps (1 - V.file) l.length F).tail.tail.tail) (mkD V.file ⟨s, []⟩ ⟨F, []⟩ M false fu z2, V) := runL_cons0 (by simp [hy])
  rw [e2]
  rcases mkD_cut h1 (A := ⟨s, []⟩) (O := ⟨F, []⟩) (M := M) (fu := fu) (lf := z2) 0 (by omega) with ⟨hc, hfu⟩ | ⟨z3, hc⟩
  · have : runL ((compOps (1 - V.file) l.length F).tail.tail.tail) (mkD V.file ⟨s, []⟩ ⟨F, []⟩ M false fu z2, V) = ((mkD V.file ⟨s, []⟩ ⟨F, []⟩ M true fu z2, V), 8) := runL_consE (by rw [show ((0 : Nat) : Int) = 0 from rfl] at hc; simp [hc]) (by omega)
    rw [this]
    refine .inr (.inr (.inr (.inr ⟨hfu, rfl, mkD_off, rfl, two (fun a ha => (firm a ha).imp id fun h => h.2.elim) fun t ht => .inr (by rw [res_firm ht]; exact hnew.look)⟩)))
  have : runL ((compOps (1 - V.file) l.length F).tail.tail.tail) (mkD V.file ⟨s, []⟩ ⟨F, []⟩ M false fu z2, V) = ((mkD V.file (FileM.put ⟨s, []⟩ (.cut 0)) ⟨F, []⟩ M false fu z3, { V with file := 1 - V.file, gen := V.gen + 1, n := l.length }), 0) := by
    refine (runL_cons0 (s' := (mkD V.file (FileM.put ⟨s, []⟩ (.cut 0)) ⟨F, []⟩ M false fu z3, V)) ?_).trans rfl
    rw [show ((0 : Nat) : Int) = 0 from rfl] at hc
    simp [hc]
  rw [this]
  refine .inr (.inr (.inr (.inl ⟨hl', Nat.lt_of_not_le hg, by omega, rfl, ⟨h1', rfl, rfl, F, FileM.put ⟨s, []⟩ (.cut 0), z3, mkD_flip h1, hnew, ?_, fun t ht => ?_⟩, rfl, rfl⟩)))
  · rw [stands_put_cut]; rfl
  · show Lower (1 - (1 - V.file)) (V.gen + 1) t
    rw [flip_flip h1]
    rcases res_put_cut ht with ht | rfl
    · rw [res_firm ht]
      exact lower_above hslook
    · exact Lower.nil _ _

theorem vcut_cases {f : Nat} (hf : f < 2) {A O : FileM} {M : Nat} {fu : Bool} {lf : Int} (n : Nat) (hn : n ≤ A.stands.length) :
    ((mkD f A O M false fu lf).vcut f n = (mkD f A O M true fu lf, 8) ∧ fu = true) ∨ ∃ A' z, (mkD f A O M false fu lf).vcut f n = (mkD f A' O M false fu z, 0) ∧ A'.stands = A.stands.take n ∧ (∀ t, A'.res t → A.res t ∨ t = A.stands.take n) ∧ unitsL A'.loose ≤ unitsL A.loose + 1 := by
  unfold DiskM.vcut
  rw [mkD_read hf]
  by_cases h : A.stands.length = n
  · refine .inr ⟨A, lf, ?_, ?_, fun t ht => .inl ht, by omega⟩
    · simp [h]
    · rw [List.take_of_length_le (by omega)]
  · rw [if_neg (by simp; omega)]
    rcases mkD_cut hf (A := A) (O := O) (M := M) (fu := fu) (lf := lf) n hn with h | ⟨z, h⟩
    · exact .inl h
    · exact .inr ⟨_, z, h, stands_put_cut _ _, fun t ht => res_put_cut ht, by rw [unitsL_put]; simp [Chg.units]⟩

/-- A vault is found. -/
theorem open_found {M : Nat} {fu : Bool} {f g : Nat} (hf : f < 2) {A O : FileM} {lf : Int} {l : List Bs} (h1 : lookL f A.stands = some (g, l)) (h2 : ∀ t, O.res t → Lower (1 - f) g t) (h3 : fu = true → ∀ s, A.res s → lookL f s = some (g, l)) (hA : unitsL A.loose ≤ 4611686018427387904) :
    let r := (mkD f A O M false fu lf).openV
    (r.2.1 = 0 ∧ r.2.2 = some (⟨f, g, l.length, false⟩, l) ∧ Good M fu (r.1, ⟨f, g, l.length, false⟩) l) ∨
    (fu = true ∧ r.2.1 = 8 ∧ r.2.2 = none ∧ r.1.off = true ∧ Holds (fun y => y = l) r.1) := by
  obtain ⟨hs, hle⟩ := look_snd h1
  have hbest : bestL (lookL 0 (mkD f A O M false fu lf).f0.stands) (lookL 1 (mkD f A O M false fu lf).f1.stands) = some (f, g, l) := by
    have := best_of hf h1 (h2 _ (res_stands O))
    match f, hf with
    | 0, _ => exact this
    | 1, _ => exact this
  have e : (mkD f A O M false fu lf).openV = ((runL (openOps f (44 + sizesL l)) (mkD f A O M false fu lf)).1, (runL (openOps f (44 + sizesL l)) (mkD f A O M false fu lf)).2, if (runL (openOps f (44 + sizesL l)) (mkD f A O M false fu lf)).2 = 0 then some (⟨f, g, l.length, false⟩, l) else none) := by
    unfold DiskM.openV
    rw [mkD_off, hbest]
    simp
  rw [e]
  have holds : ∀ {A' O' : FileM} {off fu' : Bool} {lf : Int}, fu = true → (∀ t, A'.res t → A.res t ∨ t = A.stands.take (44 + sizesL l)) → (∀ t, O'.res t → O.res t ∨ t = []) → Holds (fun y => y = l) (mkD f A' O' M off fu' lf) := fun {A' O' off fu' lf} hfu ha ho => by
    refine Holds.mk hf fun a t hat htt => ⟨g, l, rfl, .inl ⟨?_, ?_⟩⟩
    · rcases ha a hat with h | rfl
      · exact h3 hfu a h
      · exact hs.look
    · rcases ho t htt with h | rfl
      · exact h2 t h
      · exact Lower.nil _ _
  rcases vcut_cases hf (A := A) (O := O) (M := M) (fu := fu) (lf := lf) (44 + sizesL l) hle with ⟨hw, hfu⟩ | ⟨A', z, hw, k1, k2, k3⟩
  · have : runL (openOps f (44 + sizesL l)) (mkD f A O M false fu lf) = (mkD f A O M true fu lf, 8) := runL_consE (by simpa using hw) (by omega)
    rw [this]
    exact .inr ⟨hfu, rfl, rfl, mkD_off, holds hfu (fun t ht => .inl ht) fun t ht => .inl ht⟩
  have e1 : runL (openOps f (44 + sizesL l)) (mkD f A O M false fu lf) = runL (openOps f (44 + sizesL l)).tail (mkD f A' O M false fu z) := runL_cons0 (by simpa using hw)
  rw [e1]
  rcases mkD_sync hf (A := A') (O := O) (M := M) (fu := fu) (lf := z) (by omega) with ⟨hy, hfu⟩ | ⟨z2, hy⟩
  · have : runL (openOps f (44 + sizesL l)).tail (mkD f A' O M false fu z) = (mkD f A' O M true fu z, 8) := runL_consE hy (by omega)
    rw [this]
    exact .inr ⟨hfu, rfl, rfl, mkD_off, holds hfu k2 fun t ht => .inl ht⟩
  have e2 : runL (openOps f (44 + sizesL l)).tail (mkD f A' O M false fu z) = runL (openOps f (44 + sizesL l)).tail.tail (mkD f ⟨A'.stands, []⟩ O M false fu z2) := runL_cons0 hy
  rw [e2]
  have hA2 : ∀ t, FileM.res ⟨A'.stands, []⟩ t → A.res t ∨ t = A.stands.take (44 + sizesL l) := fun t ht => .inr (by rw [res_firm ht, k1])
  rcases vcut_cases (flip_lt hf) (A := O) (O := ⟨A'.stands, []⟩) (M := M) (fu := fu) (lf := z2) 0 (by omega) with ⟨hc, hfu⟩ | ⟨O', z3, hc, j1, j2, j3⟩
  · rw [← mkD_flip hf, ← mkD_flip hf] at hc
    have : runL (openOps f (44 + sizesL l)).tail.tail (mkD f ⟨A'.stands, []⟩ O M false fu z2) = (mkD f ⟨A'.stands, []⟩ O M true fu z2, 8) := runL_consE (by rw [flip_cast hf]; exact hc) (by omega)
    rw [this]
    exact .inr ⟨hfu, rfl, rfl, mkD_off, holds hfu hA2 fun t ht => .inl ht⟩
  · rw [← mkD_flip hf, ← mkD_flip hf] at hc
    have : runL (openOps f (44 + sizesL l)).tail.tail (mkD f ⟨A'.stands, []⟩ O M false fu z2) = (mkD f ⟨A'.stands, []⟩ O' M false fu z3, 0) := (runL_cons0 (by rw [flip_cast hf]; exact hc)).trans rfl
    rw [this]
    refine .inl ⟨rfl, rfl, hf, rfl, rfl, A'.stands, O', z3, rfl, by rw [k1]; exact hs, by rw [j1]; rfl, fun t ht => ?_⟩
    rcases j2 t ht with h | h
    · exact h2 t h
    · rw [h]; exact Lower.nil _ _

/-- A vault is begun. -/
theorem open_begun {M : Nat} (hM : 44 ≤ M) (hM2 : M ≤ 4194304) {A O : FileM} {lf : Int} (h1 : lookL 1 A.stands = none) (h2 : ∀ t, O.res t → lookL 0 t = none) :
    let r := (mkD 1 A O M false false lf).openV
    r.2.1 = 0 ∧ r.2.2 = some (⟨1, 1, 0, false⟩, []) ∧ (unitsL A.loose ≤ 4611686018427387904 → Good M false (r.1, ⟨1, 1, 0, false⟩) []) := by
  have hbest : bestL (lookL 0 (mkD 1 A O M false false lf).f0.stands) (lookL 1 (mkD 1 A O M false false lf).f1.stands) = none := by
    have h3 := h2 _ (res_stands O)
    show bestL (lookL 0 O.stands) (lookL 1 A.stands) = none
    rw [h3, h1]
    rfl
  have e : (mkD 1 A O M false false lf).openV = ((mkD 1 A O M false false lf).begin.1, (mkD 1 A O M false false lf).begin.2, if (mkD 1 A O M false false lf).begin.2 = 0 then some (⟨1, 1, 0, false⟩, []) else none) := by
    unfold DiskM.openV
    rw [mkD_off, hbest]
    simp
  have hb : (mkD 1 A O M false false lf).begin = runL beginOps (mkD 1 A O M false false lf) := rfl
  rw [e, hb]
  have h01 : (1 : Nat) < 2 := by omega
  have h00 : (0 : Nat) < 2 := by omega
  rcases vcut_cases h01 (A := A) (O := O) (M := M) (fu := false) (lf := lf) 0 (by omega) with ⟨_, hx⟩ | ⟨A', z, hw, k1, k2, k3⟩
  · cases hx
  have e1 : runL beginOps (mkD 1 A O M false false lf) = runL beginOps.tail (mkD 1 A' O M false false z) := runL_cons0 hw
  rcases vcut_cases h00 (A := O) (O := A') (M := M) (fu := false) (lf := z) 0 (by omega) with ⟨_, hx⟩ | ⟨O', z2, hc, j1, j2, j3⟩
  · cases hx
  have f1 : ∀ {X Y : FileM} {z : Int}, mkD 0 X Y M false false z = mkD 1 Y X M false false z := fun {X Y z} => mkD_flip h00
  rw [f1, f1] at hc
  have e2 : runL beginOps.tail (mkD 1 A' O M false false z) = runL beginOps.tail.tail (mkD 1 A' O' M false false z2) := runL_cons0 hc
  have hhl := headL_length 1 0
  rw [List.take_zero] at k1 j1
  rcases mkD_write h01 (A := A') (O := O') (M := M) (fu := false) (lf := z2) (headL 1 0) (by rw [k1, j1]; simp; omega) with ⟨_, hx⟩ | ⟨z3, hy⟩
  · cases hx
  have e3 : runL beginOps.tail.tail (mkD 1 A' O' M false false z2) = runL beginOps.tail.tail.tail (mkD 1 (A'.put (.wr (headL 1 0))) O' M false false z3) := runL_cons0 hy
  have hst : (A'.put (.wr (headL 1 0))).stands = headL 1 0 := by rw [stands_put_wr, k1, List.nil_append]
  have hout : ((mkD 1 (A'.put (.wr (headL 1 0))) O' M false false z3).sync (1 : Nat)).2 = 0 := by
    unfold DiskM.sync
    rw [mkD_may h01, if_neg (by simp)]
    rcases mkD_goes h01 (A := A'.put (.wr (headL 1 0))) (O := O') (M := M) (off := false) (fu := false) (lf := z3) (fun D => D.with ((1 : Nat) : Int).toNat ((D.file ((1 : Nat) : Int).toNat).settle 9223372036854775807)) with ⟨_, hx⟩ | ⟨z, h⟩
    · cases hx
    · rw [h]
  have e4 : runL beginOps.tail.tail.tail (mkD 1 (A'.put (.wr (headL 1 0))) O' M false false z3) = (mkD 1 (A'.put (.wr (headL 1 0))) O' M false false z3).sync (1 : Nat) := runL_one _ _
  rw [e1, e2, e3, e4]
  refine ⟨hout, by simp only; rw [if_pos hout], fun hA => ?_⟩
  rcases mkD_sync h01 (A := A'.put (.wr (headL 1 0))) (O := O') (M := M) (fu := false) (lf := z3) (by rw [unitsL_put]; simp only [Chg.units, hhl]; omega) with ⟨_, hx⟩ | ⟨z4, hs⟩
  · cases hx
  rw [hst] at hs
  rw [hs]
  have hnew : Snd 1 1 [] (headL 1 0) := by
    have := Snd.new (f := 1) (g := 1) (l := []) (by simp) (fun _ h => by cases h) (by omega) (by omega) (by omega)
    simpa [framesL] using this
  refine ⟨h01, rfl, rfl, headL 1 0, O', z4, rfl, hnew, j1, fun t ht => ?_⟩
  rcases j2 t ht with h | h
  · exact Lower.none (h2 t h)
  · rw [h]; exact Lower.nil _ _
end Go.Proofs.YtiidohaibbdgeaaDoor
