/-
  A vault is opened (vault.Open).
-/
import Derived.Test.YtiidohaibbdgeaaDoorVCore
namespace Go.Proofs.YtiidohaibbdgeaaDoor
open Go Go.RowKit

def FoundAt (w : World) (bf : Nat) (f g : Nat) (v : Value) (good : Nat) : Prop := Blk w bf 70 #[.int .i64 f, .int .u64 g, v, .int .i64 good]
theorem FoundAt.lies {B : Nat} {w w' : World} {bf f g good : Nat} {v : Value} (h : FoundAt w bf f g v good) (hl : LiesV B w w') : FoundAt w' bf f g v good := hl.still _ _ _ _ h (by decide)

set_option maxRecDepth 100000 in
set_option maxHeartbeats 1000000 in
theorem open1_any (B cnt : Nat) (D : DiskM) (hok : D.ok cnt) (g bx bf f gen good : Nat) (v : Value) (hg : good ≤ 9223372036854775807) (w : World) (h : DiskAt B w g D) (hx : Box w bx 25 (.pointer (some ⟨g, 0, none⟩))) (hf : FoundAt w bf f gen v good) :
    Calls Tryd.prog 30 #[.pointer (some ⟨bx, 0, none⟩), .pointer (some ⟨bf, 0, none⟩)] w (DiskRet B g (D.vcut f good) w) := by
  have hk := vcut_any B cnt D hok g f good (by omega) w h
  have c0 := hx.cell
  have c1 : w.cell? ⟨bf, 0, none⟩ = some (.int .i64 f) := hf.cell 0
  have c2 : w.cell? ⟨bf, 3, none⟩ = some (.int .i64 good) := hf.cell 3
  replace hk := Lib.hid hk
  clear h hok hx hf
  go_enter Tryd.func30, Tryd.ntmps30
  go_wp2_with (go_at_call 31; refine hk.out.mono ?_; rintro e w1 ⟨rfl, hD1, hL1⟩)
  go_ret
  exact ⟨rfl, hD1, hL1⟩
set_option maxRecDepth 100000 in
set_option maxHeartbeats 1000000 in
theorem open2_any (B cnt : Nat) (D : DiskM) (hok : D.ok cnt) (g bx bf f gen good : Nat) (v : Value) (w : World) (h : DiskAt B w g D) (hx : Box w bx 25 (.pointer (some ⟨g, 0, none⟩))) (hf : FoundAt w bf f gen v good) :
    Calls Tryd.prog 32 #[.pointer (some ⟨bx, 0, none⟩), .pointer (some ⟨bf, 0, none⟩)] w (DiskRet B g (D.sync f) w) := by
  have hk := sync_any B cnt D hok g f w h
  have c0 := hx.cell
  have c1 : w.cell? ⟨bf, 0, none⟩ = some (.int .i64 f) := hf.cell 0
  replace hk := Lib.hid hk
  clear h hok hx hf
  go_enter Tryd.func32, Tryd.ntmps32
  go_wp2_with (go_at_call 33; refine hk.out.mono ?_; rintro e w1 ⟨rfl, hD1, hL1⟩)
  go_ret
  exact ⟨rfl, hD1, hL1⟩
set_option maxRecDepth 100000 in
set_option maxHeartbeats 1000000 in
theorem open3_any (B cnt : Nat) (D : DiskM) (hok : D.ok cnt) (g bx bf f gen good : Nat) (v : Value) (hf2 : f < 2) (w : World) (h : DiskAt B w g D) (hx : Box w bx 25 (.pointer (some ⟨g, 0, none⟩))) (hf : FoundAt w bf f gen v good) :
    Calls Tryd.prog 34 #[.pointer (some ⟨bx, 0, none⟩), .pointer (some ⟨bf, 0, none⟩)] w (DiskRet B g (D.vcut ((1 : Int) - f) 0) w) := by
  have hk := vcut_any B cnt D hok g ((1 : Int) - f) 0 (by omega) w h
  have c0 := hx.cell
  have c1 : w.cell? ⟨bf, 0, none⟩ = some (.int .i64 f) := hf.cell 0
  have hwr : IntKind.i64.wrap ((1 : Int) - (f : Int)) = (1 : Int) - (f : Int) := IntWalk.i64_in _ (by omega)
  replace hk := Lib.hid hk
  clear h hok hx hf
  go_enter Tryd.func34, Tryd.ntmps34
  go_wp2_with (go_at_call 31; refine hk.out.mono ?_; rintro e w1 ⟨rfl, hD1, hL1⟩)
  go_ret
  exact ⟨rfl, hD1, hL1⟩

/-- What Open hands back. -/
def OpenRet (B g : Nat) (r : DiskM × Int × Option (VaultM × List Bs)) (w : World) (e : Ending) (w' : World) : Prop :=
  LiesV B w w' ∧ DiskAt B w' g r.1 ∧ match r.2.2 with
    | none => e = .returned (.tuple #[.pointer none, .slice none 0 0, .int .i64 r.2.1])
    | some (V, l) => ∃ vg v, e = .returned (.tuple #[.pointer (some ⟨vg, 0, none⟩), v, .int .i64 0]) ∧ VaultAt B w' vg g V ∧ w.heap.size ≤ vg ∧ OwnRecs w' w.heap.size v l

/-- The best of the first files. -/
def bestTo (D : DiskM) : Nat → Option (Nat × Nat × List Bs)
  | 0 => none
  | 1 => bestL (lookL 0 D.f0.stands) none
  | _ => bestL (lookL 0 D.f0.stands) (lookL 1 D.f1.stands)
theorem OwnRecs.mono {w : World} {base base' : Nat} {v : Value} {l : List Bs} (h : OwnRecs w base v l) (hb : base' ≤ base) : OwnRecs w base' v l := by
  obtain ⟨xs, h1, h2, h3⟩ := h
  exact ⟨xs, h1, owns_mono h2 hb, h3⟩
theorem OwnRecs.below {w w' : World} {base : Nat} {v : Value} {l : List Bs} (h : OwnRecs w base v l) (hb : Below w.heap.size w w') : OwnRecs w' base v l :=
  h.same fun k _ _ _ hk _ => (hb.block k (heap_lt hk)).trans hk
theorem OwnRecs.form {w : World} {base : Nat} {v : Value} {l : List Bs} (h : OwnRecs w base v l) : ∃ a c, v = .slice a l.length c := by
  obtain ⟨xs, h1, h2, h3⟩ := h
  have hl : l.length = xs.length := by rw [← h1]; simp
  rw [hl]
  rcases h2.2 with ⟨hv, h0⟩ | ⟨g, cap, cur, hv, _⟩
  · exact ⟨none, 0, by rw [hv, h0]⟩
  · exact ⟨_, _, hv⟩
theorem look_gen_pos {f : Nat} {b : Bs} {g : Nat} {l : List Bs} (h : lookL f b = some (g, l)) : 0 < g := by
  unfold lookL at h
  split at h
  · cases h
  · split at h
    · cases h
    · split at h
      · cases h
      · rename_i hn
        split at h
        · cases h
        · injection h with h
          injection h with h1 _
          omega
/-- What was found: its four parts. -/
def PartsAt (w w' : World) (r : Option (Nat × Nat × List Bs)) (f g good : Nat) (a : Option Addr) (n c : Nat) : Prop := match r with
  | none => f = 0 ∧ g = 0 ∧ good = 0 ∧ a = none ∧ n = 0 ∧ c = 0
  | some (f', g', l) => f = f' ∧ g = g' ∧ good = 44 + sizesL l ∧ n = l.length ∧ 0 < g' ∧ f' < 2 ∧ OwnRecs w' w.heap.size (.slice a n c) l
/-- What Open has found. -/
def BestAt (w w' : World) (bf : Nat) (r : Option (Nat × Nat × List Bs)) : Prop := ∃ f g good a n c, FoundAt w' bf f g (.slice a n c) good ∧ PartsAt w w' r f g good a n c
theorem PartsAt.same {w w1 w2 : World} {r : Option (Nat × Nat × List Bs)} {f g good : Nat} {a : Option Addr} {n c : Nat} (h : PartsAt w w1 r f g good a n c) (hs : ∀ l, OwnRecs w1 w.heap.size (.slice a n c) l → OwnRecs w2 w.heap.size (.slice a n c) l) : PartsAt w w2 r f g good a n c := by
  cases r with
  | none => exact h
  | some q =>
    obtain ⟨h1, h2, h3, h4, h5, h6, h7⟩ := h
    exact ⟨h1, h2, h3, h4, h5, h6, hs _ h7⟩
theorem best_step {D : DiskM} {k : Nat} {X : Bs} (hk : k < 2) (hX : X = (D.file k).stands) {w W : World} {f0 g0 d0 n0 c0 f1 g1 d1 n1 c1 : Nat} {b0 b1 : Option Addr}
    (h0 : PartsAt w W (bestTo D k) f0 g0 d0 b0 n0 c0) (h1 : PartsAt w W ((lookL k X).map fun q => (k, q.1, q.2)) f1 g1 d1 b1 n1 c1) :
    (g0 < g1 → PartsAt w W (bestTo D (k + 1)) f1 g1 d1 b1 n1 c1) ∧ (¬ g0 < g1 → PartsAt w W (bestTo D (k + 1)) f0 g0 d0 b0 n0 c0) := by
  subst hX
  match k, hk with
  | 0, _ =>
    have hb : bestTo D 1 = (lookL 0 D.f0.stands).map fun q => (0, q.1, q.2) := by
      unfold bestTo
      cases lookL 0 D.f0.stands <;> rfl
    change PartsAt w W ((lookL 0 D.f0.stands).map fun q => (0, q.1, q.2)) f1 g1 d1 b1 n1 c1 at h1
    rw [hb]
    refine ⟨fun _ => h1, fun hn => ?_⟩
    obtain ⟨rfl, rfl, rfl, rfl, rfl, rfl⟩ := h0
    cases hl : lookL 0 D.f0.stands with
    | none => exact ⟨rfl, rfl, rfl, rfl, rfl, rfl⟩
    | some q =>
      rw [hl] at h1
      obtain ⟨_, h2, _, _, h5, _⟩ := h1
      omega
  | 1, _ =>
    change PartsAt w W (bestL (lookL 0 D.f0.stands) none) f0 g0 d0 b0 n0 c0 at h0
    change PartsAt w W ((lookL 1 D.f1.stands).map fun q => (1, q.1, q.2)) f1 g1 d1 b1 n1 c1 at h1
    change (_ → PartsAt w W (bestL (lookL 0 D.f0.stands) (lookL 1 D.f1.stands)) f1 g1 d1 b1 n1 c1) ∧ (_ → PartsAt w W (bestL (lookL 0 D.f0.stands) (lookL 1 D.f1.stands)) f0 g0 d0 b0 n0 c0)
    cases hl : lookL 0 D.f0.stands with
    | none =>
      rw [hl] at h0
      obtain ⟨rfl, rfl, rfl, rfl, rfl, rfl⟩ := h0
      cases hm : lookL 1 D.f1.stands with
      | none =>
        rw [hm] at h1
        obtain ⟨rfl, rfl, rfl, rfl, rfl, rfl⟩ := h1
        exact ⟨fun h => by omega, fun _ => ⟨rfl, rfl, rfl, rfl, rfl, rfl⟩⟩
      | some q =>
        rw [hm] at h1
        refine ⟨fun _ => h1, fun hn => ?_⟩
        obtain ⟨_, h2, _, _, h5, _⟩ := h1
        omega
    | some p =>
      rw [hl] at h0
      cases hm : lookL 1 D.f1.stands with
      | none =>
        rw [hm] at h1
        obtain ⟨rfl, rfl, rfl, rfl, rfl, rfl⟩ := h1
        exact ⟨fun h => by omega, fun _ => h0⟩
      | some q =>
        rw [hm] at h1
        obtain ⟨x, l⟩ := p
        obtain ⟨y, m⟩ := q
        have e0 : g0 = x := h0.2.1
        have e1 : g1 = y := h1.2.1
        simp only [bestL]
        refine ⟨fun h => ?_, fun h => ?_⟩
        · rw [if_pos (by omega)]; exact h1
        · rw [if_neg (by omega)]; exact h0
theorem LookRet.parts {f : Nat} {b : Bs} {w0 w w' : World} {e : Ending} (h : LookRet f (lookL f b) w e w') (hf : f < 2) (hw : w0.heap.size ≤ w.heap.size) :
    Below w.heap.size w w' ∧ ∃ f' g good a n c, e = .returned (.agg #[.int .i64 (f' : Nat), .int .u64 (g : Nat), .slice a n c, .int .i64 (good : Nat)]) ∧ PartsAt w0 w' ((lookL f b).map fun q => (f, q.1, q.2)) f' g good a n c := by
  obtain ⟨h1, h2⟩ := h
  refine ⟨h1, ?_⟩
  cases hr : lookL f b with
  | none =>
    rw [hr] at h2
    exact ⟨0, 0, 0, none, 0, 0, h2, rfl, rfl, rfl, rfl, rfl, rfl⟩
  | some q =>
    obtain ⟨g, l⟩ := q
    rw [hr] at h2
    obtain ⟨v, he, ho⟩ := h2
    obtain ⟨a, c, rfl⟩ := ho.form
    exact ⟨f, g, 44 + sizesL l, a, l.length, c, he, rfl, rfl, rfl, rfl, look_gen_pos hr, hf, ho.mono hw⟩


theorem OwnRecs.liesV {B : Nat} {w w' : World} {base : Nat} {v : Value} {l : List Bs} (h : OwnRecs w base v l) (hl : LiesV B w w') : OwnRecs w' base v l :=
  h.same fun k cs t fr hk ht => hl.still k cs t fr hk (by rcases ht with rfl | rfl <;> decide)
/-- What begin hands back, in one form. -/
theorem BeginRet.form {B g : Nat} {r : DiskM × Int} {w : World} {e : Ending} {w' : World} (h : BeginRet B g r w e w') :
    ∃ p : Option Addr, e = .returned (.tuple #[.pointer p, .int .i64 r.2]) ∧ LiesV B w w' ∧ DiskAt B w' g r.1 ∧ ((r.2 = 0 ∧ ∃ vg, p = some ⟨vg, 0, none⟩ ∧ VaultAt B w' vg g ⟨1, 1, 0, false⟩ ∧ w.heap.size ≤ vg) ∨ (r.2 ≠ 0 ∧ p = none)) := by
  obtain ⟨h1, h2, h3⟩ := h
  rcases h3 with ⟨h3, vg, h4, h5, h6⟩ | ⟨h3, h4⟩
  · exact ⟨_, by rw [h3]; exact h4, h1, h2, .inl ⟨h3, vg, rfl, h5, h6⟩⟩
  · exact ⟨_, h4, h1, h2, .inr ⟨h3, rfl⟩⟩
theorem sizes_len (l : List Bs) : l.length ≤ sizesL l := by
  induction l with
  | nil => simp [sizesL]
  | cons r l ih => rw [List.length_cons, sizesL]; omega
theorem OwnRecs.none (w : World) (base : Nat) : OwnRecs w base (.slice none 0 0) [] := ⟨[], rfl, ⟨rfl, .inl ⟨rfl, rfl⟩⟩, fun _ h => by cases h⟩
theorem OpenRet.begun {B g : Nat} {D : DiskM} {w w1 w' : World} {p : Option Addr} (hD : D.openV = (D.begin.1, D.begin.2, if D.begin.2 = 0 then some (⟨1, 1, 0, false⟩, []) else Option.none)) (h0 : LiesV B w w1) (hs : w.heap.size ≤ w1.heap.size)
    (h1 : LiesV B w1 w') (h2 : DiskAt B w' g D.begin.1) (h3 : (D.begin.2 = 0 ∧ ∃ vg, p = some ⟨vg, 0, none⟩ ∧ VaultAt B w' vg g ⟨1, 1, 0, false⟩ ∧ w1.heap.size ≤ vg) ∨ (D.begin.2 ≠ 0 ∧ p = Option.none)) :
    OpenRet B g D.openV w (.returned (.tuple #[.pointer p, .slice Option.none 0 0, .int .i64 D.begin.2])) w' := by
  rw [hD]
  refine ⟨h0.trans h1, h2, ?_⟩
  rcases h3 with ⟨h3, vg, rfl, h4, h5⟩ | ⟨h3, rfl⟩
  · simp only [h3, if_true]
    exact ⟨vg, _, rfl, h4, Nat.le_trans hs h5, OwnRecs.none _ _⟩
  · simp only [h3, if_false]

theorem OpenRet.found {B g : Nat} {D : DiskM} {R : DiskM × Int} {V : VaultM} {l : List Bs} {w w' : World} {vg : Nat} {v : Value} (hov : D.openV = (R.1, R.2, if R.2 = 0 then some (V, l) else Option.none)) (hz : R.2 = 0)
    (h1 : LiesV B w w') (h2 : DiskAt B w' g R.1) (h3 : VaultAt B w' vg g V) (h4 : w.heap.size ≤ vg) (h5 : OwnRecs w' w.heap.size v l) : OpenRet B g D.openV w (.returned (.tuple #[.pointer (some ⟨vg, 0, Option.none⟩), v, .int .i64 0])) w' := by
  rw [hov]
  refine ⟨h1, h2, ?_⟩
  simp only [hz, if_true]
  exact ⟨vg, v, rfl, h3, h4, h5⟩
theorem OpenRet.failed {B g : Nat} {D : DiskM} {R : DiskM × Int} {V : VaultM} {l : List Bs} {w w' : World} (hov : D.openV = (R.1, R.2, if R.2 = 0 then some (V, l) else Option.none)) (hz : R.2 ≠ 0)
    (h1 : LiesV B w w') (h2 : DiskAt B w' g R.1) : OpenRet B g D.openV w (.returned (.tuple #[.pointer Option.none, .slice Option.none 0 0, .int .i64 R.2])) w' := by
  rw [hov]
  refine ⟨h1, h2, ?_⟩
  simp only [hz, if_false]

set_option maxRecDepth 100000 in
set_option maxHeartbeats 1000000 in
theorem openall_any (B cnt : Nat) (hcnt : cnt + 10 ≤ 1099511627776) (D : DiskM) (hok : D.ok cnt) (g bx bf f gen good bl : Nat) (v : Value) (hg : good ≤ 9223372036854775807) (hf2 : f < 2) (w : World) (h : DiskAt B w g D) (hx : Box w bx 25 (.pointer (some ⟨g, 0, none⟩))) (hf : FoundAt w bf f gen v good)
    (hsl : Blk w bl 43 #[.func (.func 30) #[] #[.pointer (some ⟨bx, 0, none⟩), .pointer (some ⟨bf, 0, none⟩)], .func (.func 32) #[] #[.pointer (some ⟨bx, 0, none⟩), .pointer (some ⟨bf, 0, none⟩)], .func (.func 34) #[] #[.pointer (some ⟨bx, 0, none⟩), .pointer (some ⟨bf, 0, none⟩)]]) :
    Calls Tryd.prog 29 #[.slice (some ⟨bl, 0, none⟩) 3 3] w fun e w' => e = .returned (.int .i64 (runL (openOps f good) D).2) ∧ (DiskAt B w' g (runL (openOps f good) D).1 ∧ Box w' bx 25 (.pointer (some ⟨g, 0, none⟩)) ∧ FoundAt w' bf f gen v good) ∧ LiesV B w w' := by
  refine all_st (fun D' wy => DiskAt B wy g D' ∧ Box wy bx 25 (.pointer (some ⟨g, 0, none⟩)) ∧ FoundAt wy bf f gen v good) (fun i D' => D'.ok (cnt + i))
      [(30, #[.pointer (some ⟨bx, 0, none⟩), .pointer (some ⟨bf, 0, none⟩)]), (32, #[.pointer (some ⟨bx, 0, none⟩), .pointer (some ⟨bf, 0, none⟩)]), (34, #[.pointer (some ⟨bx, 0, none⟩), .pointer (some ⟨bf, 0, none⟩)])]
      (openOps f good) (fun D => (D, 0)) rfl (by simp) B bl 0 3 w D (fun i hi wy => by
        match i, hi with
        | 0, _ => exact enters_of Tryd.func30 (by kernel_rfl) rfl _ wy
        | 1, _ => exact enters_of Tryd.func32 (by kernel_rfl) rfl _ wy
        | 2, _ => exact enters_of Tryd.func34 (by kernel_rfl) rfl _ wy) (.inr ⟨_, _, _, hsl, by decide⟩) (fun i hi => by
        match i, hi with
        | 0, _ => exact hsl.cell 0
        | 1, _ => exact hsl.cell 1
        | 2, _ => exact hsl.cell 2) ⟨h, hx, hf⟩ hok (fun i hi wy D' hok' ⟨h1, h2, h3⟩ hl => by
        have fin : ∀ {r : DiskM × Int} {e : Ending} {w' : World}, DiskRet B g r wy e w' → e = .returned (.int .i64 r.2) ∧ (DiskAt B w' g r.1 ∧ Box w' bx 25 (.pointer (some ⟨g, 0, none⟩)) ∧ FoundAt w' bf f gen v good) ∧ LiesV B wy w' :=
          fun {r e w'} ⟨k1, k2, k3⟩ => ⟨k1, ⟨k2, h2.lies k3, h3.lies k3.toV⟩, k3.toV⟩
        match i, hi with
        | 0, _ => exact (open1_any B _ D' hok' g _ _ _ _ _ _ hg wy h1 h2 h3).mono fun _ _ => fin
        | 1, _ => exact (open2_any B _ D' hok' g _ _ _ _ _ _ wy h1 h2 h3).mono fun _ _ => fin
        | 2, _ => exact (open3_any B _ D' hok' g _ _ _ _ _ _ hf2 wy h1 h2 h3).mono fun _ _ => fin)
      (fun i hi D' hok' _ => by
        match i, hi with
        | 0, _ => exact vcut_ok hok' f good (by omega)
        | 1, _ => exact (sync_ok hok' f).more (by omega)
        | 2, _ => exact vcut_ok hok' ((1 : Int) - f) 0 (by omega))

set_option maxRecDepth 100000 in
set_option maxHeartbeats 1000000 in
theorem open_any (B cnt : Nat) (hcnt : cnt + 10 ≤ 1099511627776) (D : DiskM) (hok : D.ok cnt) (g : Nat) (w : World) (h : DiskAt B w g D) (hT : Tab w) (hTB : 0 < B) :
    Calls Tryd.prog 11 #[.pointer (some ⟨g, 0, none⟩)] w (OpenRet B g D.openV w) := by
  have hB := h.base
  obtain ⟨W, hW⟩ : ∃ W, W = (w.alloc (.cells #[.pointer (some ⟨g, 0, none⟩)] 25)).alloc (.cells #[.int .i64 0, .int .u64 0, .slice none 0 0, .int .i64 0] 70) := ⟨_, rfl⟩
  have hb2 : Below w.heap.size w W := by rw [hW]; exact ((Below.refl _ _).alloc (Nat.le_refl _) _).alloc (by simp) _
  have hbox : Box W w.heap.size 25 (.pointer (some ⟨g, 0, none⟩)) := ⟨by rw [hW]; exact (Blk.new _ _ _).alloc _, by decide⟩
  have hbest : FoundAt W (w.heap.size + 1) 0 0 (.slice none 0 0) 0 := by unfold FoundAt; rw [hW]; have := Blk.new (w.alloc (.cells #[.pointer (some ⟨g, 0, none⟩)] 25)) 70 #[.int .i64 0, .int .u64 0, .slice none 0 0, .int .i64 0]; simpa using this
  have hDW := h.grown hb2
  have hTW := hT.grown hb2
  have hbx0 : (w.alloc (.cells #[.pointer (some ⟨g, 0, none⟩)] 25)).cell? ⟨w.heap.size, 0, none⟩ = some (.pointer (some ⟨g, 0, none⟩)) := (Blk.new _ _ _).cell 0
  have h0 := Lib.hid h
  have hT0 := Lib.hid hT
  clear h hT
  replace hW := Lib.hid hW
  by_cases ho : D.off = true
  · have hrd := read_any B cnt D hok g 0 W hDW
    have hr2 : (D.read 0).2 = 8 := by simp [DiskM.read, DiskM.may, ho]
    have hr1 : (D.read 0).1 = [] := by simp [DiskM.read, DiskM.may, ho]
    rw [hr1, hr2] at hrd
    have hov : D.openV = (D, 8, none) := by simp [DiskM.openV, ho]
    rw [hov]
    replace hrd := Lib.hid hrd
    have hc0 := hbox.cell
    clear hov hr1 hr2 ho
    go_enter Tryd.func11, Tryd.ntmps11
    go_upto_region 4 with (fail)
    rw [← hW.out]
    go_wp2_with (fail)
    go_loopw [15] (fun i wr => i = .int .i64 0 ∧ wr = W) (fun i _ => 4 - (intOf i).toNat)
    case atStart => exact ⟨rfl, rfl⟩
    case round =>
      obtain ⟨rfl, rfl⟩ := hrel
      go_wp2_with (go_at_call 20; refine hrd.out.mono ?_; rintro e w1 ⟨v1, rfl, hown1, hB1⟩; obtain ⟨a1, q1, rfl, _, _, _, _⟩ := BytesAt.of_own (B := B) hown1)
      go_ret3
      exact ⟨(Lies.new (hb2.trans (hB1.mono hb2.size)) hB).toV, hDW.grown hB1, rfl⟩
  · have hoff : D.off = false := by simpa using ho
    have hrd := fun (k : Nat) (hk : k < 2) (wx : World) (hb : Below w.heap.size w wx) => read_any B cnt D hok g k wx (h0.out.grown hb)
    have hrk : ∀ k : Nat, k < 2 → (D.read k).2 = 0 ∧ (D.read k).1 = (D.file k).stands ∧ (D.read k).1.length ≤ 4194304 := fun k hk => by
      have k0 := okL_all hok.ok0
      have k1 := okL_all hok.ok1
      have k2 := hok.most2
      change D.f0.stands.length ≤ _ at k0
      change D.f1.stands.length ≤ _ at k1
      match k, hk with
      | 0, _ => exact ⟨by simp [DiskM.read, DiskM.may, hoff], by simp [DiskM.read, DiskM.may, hoff], by simp [DiskM.read, DiskM.may, hoff, DiskM.file]; omega⟩
      | 1, _ => exact ⟨by simp [DiskM.read, DiskM.may, hoff], by simp [DiskM.read, DiskM.may, hoff], by simp [DiskM.read, DiskM.may, hoff, DiskM.file]; omega⟩
    have hb0 : BestAt w W (w.heap.size + 1) (bestTo D 0) := ⟨0, 0, 0, none, 0, 0, hbest, rfl, rfl, rfl, rfl, rfl, rfl⟩
    replace hrd := Lib.hid hrd
    replace hrk := Lib.hid hrk
    replace hb0 := Lib.hid hb0
    have hok0 := Lib.hid hok
    have hi70 : (Tryd.prog.info? 70).map (·.size) = some 4 := by kernel_rfl
    clear hbest hDW hTW ho hok
    go_enter Tryd.func11, Tryd.ntmps11
    go_upto_region 4 with (fail)
    rw [← hW.out]
    go_wp2_with (fail)
    go_loopw [15] (fun i wr => ∃ k : Nat, k ≤ 2 ∧ i = .int .i64 k ∧ Below w.heap.size w wr ∧ Box wr w.heap.size 25 (.pointer (some ⟨g, 0, none⟩)) ∧ w.heap.size + 1 < wr.heap.size ∧ Hid (BestAt w wr (w.heap.size + 1) (bestTo D k))) (fun i _ => 2 - (intOf i).toNat)
    case atStart => exact ⟨0, by omega, rfl, hb2, hbox, by rw [hW.out]; simp, hb0⟩
    case round =>
      obtain ⟨k, hk, rfl, hBr, hxr, hsr, hbr⟩ := hrel
      clear hbox hb0 hb2
      have hcx := hxr.cell
      by_cases hlt : k < 2
      · have hk1 := hrd.out k hlt wr hBr
        obtain ⟨e1, e2, e3⟩ := hrk.out k hlt
        rw [e1] at hk1
        have hkl : (k : Int) < 2 := by omega
        obtain ⟨X, hX⟩ : ∃ X, X = (D.read k).1 := ⟨_, rfl⟩
        rw [← hX] at hk1 e3
        have hlk := fun (a : Option Addr) (c : Nat) hn hc (wx : World) hu hT => look_any k X e3 a c hn hc wx hu hT
        have hlp := fun (wx w' : World) (e : Ending) (h : LookRet k (lookL k X) wx e w') (hw : w.heap.size ≤ wx.heap.size) => h.parts hlt hw
        obtain ⟨f0, g0, d0, b0, n0, c0, hF, hP⟩ := hbr.out
        replace hk1 := Lib.hid hk1
        replace hlk := Lib.hid hlk
        replace hlp := Lib.hid hlp
        have hX0 := Lib.hid (hX.trans e2)
        have hP0 := Lib.hid hP
        clear hX e1 e2 hP hbr e3
        go_upto_region 11 with (first
          | (go_at_call 20; refine hk1.out.mono ?_; rintro e w1 ⟨v1, rfl, hown1, hB1⟩; obtain ⟨a1, q1, rfl, hn1, hl1, hu1⟩ := U8At.of_own hown1)
          | (go_at_call 27
             refine (hlk.out a1 q1 hn1 hl1 w1 hu1 (hT0.out.grown (hBr.trans (hB1.mono hBr.size)))).mono ?_
             rintro e w2 h2
             obtain ⟨hB2, f1, g1, d1, b1, n1, c1, rfl, hP1⟩ := hlp.out _ _ _ h2 (Nat.le_trans hBr.size hB1.size)))
        have hBx : Below w.heap.size w w2 := (hBr.trans (hB1.mono hBr.size)).trans (hB2.mono (Nat.le_trans hBr.size hB1.size))
        have hn2 : Blk (w2.alloc (.cells #[.int .i64 f1, .int .u64 g1, .slice b1 n1 c1, .int .i64 d1] 70)) w2.heap.size 70 #[.int .i64 f1, .int .u64 g1, .slice b1 n1 c1, .int .i64 d1] := Blk.new w2 _ _
        have hB3 : Below w2.heap.size w2 (w2.alloc (.cells #[.int .i64 f1, .int .u64 g1, .slice b1 n1 c1, .int .i64 d1] 70)) := (Below.refl _ _).alloc (Nat.le_refl _) _
        generalize hw3 : w2.alloc _ = W3 at *
        have hs1 := hB1.size
        have hs2 := Nat.le_trans hB1.size hB2.size
        have hF3 : FoundAt W3 (w.heap.size + 1) f0 g0 (.slice b0 n0 c0) d0 := ((hF.below hB1 hF.lt).below hB2 (by omega)).below hB3 (by omega)
        have hx3 : Box W3 w.heap.size 25 (.pointer (some ⟨g, 0, none⟩)) := ⟨((hxr.1.below hB1 hxr.1.lt).below hB2 (by omega)).below hB3 (by omega), hxr.2⟩
        have hBx3 := hBx.trans (hB3.mono hBx.size)
        have hs3 : w.heap.size + 1 < W3.heap.size := by have := hB3.size; omega
        have hP03 := hP0.out.same fun l hl => ((hl.below hB1).below hB2).below hB3
        have hP13 := hP1.same fun l hl => hl.below hB3
        replace hP03 := Lib.hid hP03
        replace hP13 := Lib.hid hP13
        have hne : w2.heap.size ≠ w.heap.size + 1 := by omega
        clear hw3 hB3 hP1 hBx hu1 hown1 hB1 hB2 hl1 hn1 hcx
        have y1 : W3.cell? ⟨w2.heap.size, 1, none⟩ = some (.int .u64 g1) := hn2.cell 1
        have y0 : W3.cell? ⟨w.heap.size + 1, 1, none⟩ = some (.int .u64 g0) := hF3.cell 1
        by_cases hgt : g0 < g1
        · have hgt' : (g0 : Int) < (g1 : Int) := by omega
          go_wp2_with (first
            | (refine wpList_load_row rfl 70 _ rfl w2.heap.size rfl 70 _ (0, 0) _ hn2 Tryd.underlying70 rfl hi70 ?_)
            | (refine wpList_store_row rfl 70 _ _ rfl (w.heap.size + 1) #[.int .i64 f1, .int .u64 g1, .slice b1 n1 c1, .int .i64 d1] rfl rfl 70 _ hF3 hi70 rfl (found_one _ _ _ _ _ _) ?_))
          go_roundw
          case rel =>
            refine ⟨k + 1, by omega, by go_num, Below.setRow hBx3 (by omega) _, ⟨hx3.1.row_far (by omega) _, hx3.2⟩, by simpa using hs3, ?_⟩
            exact ⟨_, _, _, _, _, _, hF3.row _, ((best_step hlt hX0.out hP03.out hP13.out).1 hgt).same fun l hl => hl.setRow hF3 _⟩
          case measure => simp [intOf]; omega
        · have hgt' : decide ((g0 : Int) < (g1 : Int)) = false := decide_eq_false (by omega)
          have hgt2 : decide (g0 < g1) = false := decide_eq_false (by omega)
          go_wp2_with (fail)
          go_roundw
          case rel =>
            refine ⟨k + 1, by omega, by go_num, hBx3, hx3, hs3, ?_⟩
            exact ⟨_, _, _, _, _, _, hF3, (best_step hlt hX0.out hP03.out hP13.out).2 hgt⟩
          case measure => simp [intOf]; omega
      · obtain rfl : k = 2 := by omega
        obtain ⟨f0, g0, d0, b0, n0, c0, hF, hP⟩ := hbr.out
        have y0 : wr.cell? ⟨w.heap.size + 1, 1, none⟩ = some (.int .u64 g0) := hF.cell 1
        have hDr := h0.out.grown hBr
        have hLr := (Lies.new hBr hB).toV
        have hsz := hBr.size
        have hbe : bestTo D 2 = bestL (lookL 0 D.f0.stands) (lookL 1 D.f1.stands) := rfl
        rw [hbe] at hP
        clear hbr
        cases hr : bestL (lookL 0 D.f0.stands) (lookL 1 D.f1.stands) with
        | none =>
          rw [hr] at hP
          obtain ⟨rfl, rfl, rfl, rfl, rfl, rfl⟩ := hP
          have hk := (vbegin_any B cnt hcnt D hok0.out g wr hDr (hT0.out.grown hBr) hTB).mono fun _ _ h => h.form
          have hov : D.openV = (D.begin.1, D.begin.2, if D.begin.2 = 0 then some (⟨1, 1, 0, false⟩, []) else none) := by
            unfold DiskM.openV
            rw [hr, hoff]
            simp
          have hfin := fun (p : Option Addr) (w' : World) k1 k2 k3 => OpenRet.begun (B := B) (g := g) (D := D) (w := w) (w1 := wr) (w' := w') (p := p) hov hLr hsz k1 k2 k3
          generalize D.begin = R at *
          generalize D.openV = R' at *
          replace hk := Lib.hid hk
          replace hfin := Lib.hid hfin
          clear hov hDr hLr hF hr hbe hoff
          go_wp2_with (go_at_call 28; refine hk.out.mono ?_; rintro e w1 ⟨p1, rfl, hL1, hD1, hres1⟩)
          go_ret3
          exact hfin.out p1 _ hL1 hD1 hres1
        | some q =>
          obtain ⟨f', g', l⟩ := q
          rw [hr] at hP
          obtain ⟨rfl, rfl, rfl, rfl, hpos, hf2, hown⟩ := hP
          have hpos' : ((g0 : Int) == 0) = false := by rw [beq_eq_false_iff_ne]; omega
          have hpos2 : (g0 == 0) = false := by rw [beq_eq_false_iff_ne]; omega
          have hgood4 : 44 + sizesL l ≤ 4194304 := by
            obtain ⟨_, hl, _⟩ := best_some hr
            have hle := (look_snd hl).2
            have k0 := okL_all hok0.out.ok0
            have k1 := okL_all hok0.out.ok1
            have k2 := hok0.out.most2
            change D.f0.stands.length ≤ _ at k0
            change D.f1.stands.length ≤ _ at k1
            split at hle <;> omega
          have hgood : 44 + sizesL l ≤ 9223372036854775807 := by omega
          have hov : D.openV = ((runL (openOps f0 (44 + sizesL l)) D).1, (runL (openOps f0 (44 + sizesL l)) D).2, if (runL (openOps f0 (44 + sizesL l)) D).2 = 0 then some (⟨f0, g0, l.length, false⟩, l) else none) := by
            unfold DiskM.openV
            rw [hr, hoff]
            simp
          obtain ⟨W, hW⟩ : ∃ W, W = wr.alloc (.cells #[.func (.func 30) #[] #[.pointer (some ⟨w.heap.size, 0, none⟩), .pointer (some ⟨w.heap.size + 1, 0, none⟩)], .func (.func 32) #[] #[.pointer (some ⟨w.heap.size, 0, none⟩), .pointer (some ⟨w.heap.size + 1, 0, none⟩)], .func (.func 34) #[] #[.pointer (some ⟨w.heap.size, 0, none⟩), .pointer (some ⟨w.heap.size + 1, 0, none⟩)]] 43) := ⟨_, rfl⟩
          have hbW : Below wr.heap.size wr W := by rw [hW]; exact (Below.refl _ _).alloc (Nat.le_refl _) _
          have hk := openall_any B cnt hcnt D hok0.out g w.heap.size (w.heap.size + 1) f0 g0 (44 + sizesL l) wr.heap.size (.slice b0 l.length c0) hgood hf2 W (hDr.grown hbW) ⟨hxr.1.below hbW hxr.1.lt, hxr.2⟩ (hF.below hbW hF.lt) (by rw [hW]; exact Blk.new wr _ _)
          rw [hW] at hk
          have hownW := hown.below hbW
          have hfin := fun (w' : World) (hl : LiesV B W w') => (⟨hLr.trans ((Lies.new (B := B) hbW (by omega)).toV.trans hl), Nat.le_trans hsz (Nat.le_trans hbW.size hl.size), hownW.liesV hl⟩ : LiesV B w w' ∧ w.heap.size ≤ w'.heap.size ∧ OwnRecs w' w.heap.size (.slice b0 l.length c0) l)
          rw [hW] at hfin
          generalize runL (openOps f0 (44 + sizesL l)) D = R at *
          have hov0 := Lib.hid hov
          have hgn : ((44 + sizesL l : Nat) : Int) ≤ 9223372036854775807 := by omega
          replace hk := Lib.hid hk
          replace hfin := Lib.hid hfin
          have hl0 : ((l.length : Nat) : Int) ≤ 9223372036854775807 := by have := sizes_len l; omega
          clear hov hDr hLr hF hr hbe hoff hW hownW hown hbW hgood hgood4 hpos
          by_cases hz : R.2 = 0
          · have hz0 := Lib.hid hz
            replace hk := hk.out
            rw [hz] at hk
            replace hk := Lib.hid hk
            clear hz
            go_upto_region 20 with (first | (go_at_call 29; refine hk.out.mono ?_; rintro e w1 ⟨rfl, ⟨hD1, hx1, hF1⟩, hL1⟩))
            obtain ⟨k1, k2, k3⟩ := hfin.out w1 hL1
            obtain ⟨cl, hcl⟩ : ∃ cl : List (Addr × Value), cl = [(⟨w.heap.size, 0, none⟩, .pointer (some ⟨g, 0, none⟩)), (⟨w.heap.size + 1, 0, none⟩, .int .i64 f0), (⟨w.heap.size + 1, 1, none⟩, .int .u64 g0), (⟨w.heap.size + 1, 2, none⟩, .slice b0 l.length c0)] := ⟨_, rfl⟩
            have hS : ∀ wx, Box wx w.heap.size 25 (.pointer (some ⟨g, 0, none⟩)) → FoundAt wx (w.heap.size + 1) f0 g0 (.slice b0 l.length c0) (44 + sizesL l) → ∃ x : Has cl, wx = x.1 := fun wx j1 j2 => ⟨⟨wx, fun p hp => by
              rw [hcl] at hp
              simp only [List.mem_cons, List.not_mem_nil, or_false] at hp
              rcases hp with rfl | rfl | rfl | rfl
              · exact j1.cell
              · exact j2.cell 0
              · exact j2.cell 1
              · exact j2.cell 2⟩, rfl⟩
            have q0 := fun z : Has cl => z.cell (a := ⟨w.heap.size, 0, none⟩) (v := .pointer (some ⟨g, 0, none⟩)) (by rw [hcl]; simp)
            have q1 := fun z : Has cl => z.cell (a := ⟨w.heap.size + 1, 0, none⟩) (v := .int .i64 f0) (by rw [hcl]; simp)
            have q2 := fun z : Has cl => z.cell (a := ⟨w.heap.size + 1, 1, none⟩) (v := .int .u64 g0) (by rw [hcl]; simp)
            have q3 := fun z : Has cl => z.cell (a := ⟨w.heap.size + 1, 2, none⟩) (v := .slice b0 l.length c0) (by rw [hcl]; simp)
            have : Nonempty (Has cl) := (hS w1 hx1 hF1).elim fun x _ => ⟨x⟩
            replace hS := Lib.hid hS
            clear hcl hcx y0 hxr hsr hpos' hpos2
            refine wp_region_ways (S := fun w' => ∃ x : Has cl, w' = x.1) (.one [0, 1, 2, 3, 4, 5, 6, 7, 8, 10, 11] 9 (.last [12, 13, 14])) (by kernel_rfl) (by kernel_rfl) (by intro c a d u w h; cases d <;> exact h) (hS.out w1.drew hx1 hF1) ?_
            simp only [wpWays, picks, List.getElem?_toArray, List.getElem?_cons_succ, List.getElem?_cons_zero]
            repeat (go_big_quiet_step (fail))
            refine wpQuiet_nil ?_
            refine wpOp_step (by simp only [List.getElem?_toArray, List.getElem?_cons_succ, List.getElem?_cons_zero]; rfl) (fun K hK => ?_)
            go_simp
            refine hK _ _ ⟨hS.out _ ⟨hx1.1.alloc _, hx1.2⟩ (Blk.alloc hF1 _), ?_⟩
            clear hK K
            repeat (go_big_quiet_step (fail))
            refine wpQuiet_nil ?_
            go_wp2_with (fail)
            go_ret3
            have hbn : Below w1.heap.size w1 (w1.alloc (.cells #[.pointer (some ⟨g, 0, none⟩), .int .i64 f0, .int .u64 g0, .int .i64 l.length, .bool false] 77)).drew := ((Below.refl _ _).alloc (Nat.le_refl _) _).drew
            have hln := (Lies.new (B := B) hbn (by omega)).toV
            exact OpenRet.found hov0.out hz0.out (k1.trans hln) (hD1.grown hbn) ⟨(Blk.new w1 _ _).drew, by omega⟩ k2 (k3.liesV hln)
          · have hz0 := Lib.hid hz
            have hz' : (R.2 == 0) = false := by rw [beq_eq_false_iff_ne]; exact hz
            clear hz
            go_wp2_with (first | (go_at_call 29; refine hk.out.mono ?_; rintro e w1 ⟨rfl, ⟨hD1, hx1, hF1⟩, hL1⟩))
            go_ret3
            obtain ⟨k1, k2, k3⟩ := hfin.out w1 hL1
            exact OpenRet.failed hov0.out hz0.out k1 hD1
end Go.Proofs.YtiidohaibbdgeaaDoor
