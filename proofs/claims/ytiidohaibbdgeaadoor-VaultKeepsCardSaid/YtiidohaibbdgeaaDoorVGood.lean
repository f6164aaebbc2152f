/-
  Calls of a vault that is in order, in memory.
-/
import Derived.Test.YtiidohaibbdgeaaDoorVState
import Derived.Test.YtiidohaibbdgeaaDoorVOpen
namespace Go.Proofs.YtiidohaibbdgeaaDoor
open Go Go.RowKit

/-- A vault that is in order, and its disk. -/
def GA (B : Nat) (w : World) (dg vg M : Nat) (fu : Bool) (all : List Bs) (f g cnt : Nat) : Prop := ∃ x : DV, DiskAt B w dg x.1 ∧ VaultAt B w vg dg x.2 ∧ Good M fu x all ∧ x.2.file = f ∧ x.2.gen = g ∧ x.1.ok cnt
/-- A disk whose best file is firm. -/
def CA (B : Nat) (w : World) (dg M : Nat) (all : List Bs) (f g cnt : Nat) : Prop := ∃ D : DiskM, DiskAt B w dg D ∧ Closed M all f g D ∧ D.ok cnt
theorem GA.base {B : Nat} {w : World} {dg vg M : Nat} {fu : Bool} {all : List Bs} {f g cnt : Nat} (h : GA B w dg vg M fu all f g cnt) : B ≤ w.heap.size := by
  obtain ⟨x, h1, _⟩ := h
  exact h1.base
theorem GA.grown {B : Nat} {w w' : World} {dg vg M : Nat} {fu : Bool} {all : List Bs} {f g cnt : Nat} (h : GA B w dg vg M fu all f g cnt) (hb : Below w.heap.size w w') : GA B w' dg vg M fu all f g cnt := by
  obtain ⟨x, h1, h2, h3⟩ := h
  exact ⟨x, h1.grown hb, h2.grown hb, h3⟩
theorem GA.more {B : Nat} {w : World} {dg vg M : Nat} {fu : Bool} {all : List Bs} {f g cnt c : Nat} (h : GA B w dg vg M fu all f g cnt) (hc : cnt ≤ c) (hm : c ≤ 1099511627776) : GA B w dg vg M fu all f g c := by
  obtain ⟨x, h1, h2, h3, h4, h5, h6⟩ := h
  exact ⟨x, h1, h2, h3, h4, h5, ok_mono h6 hc hm⟩
theorem GA.closed {B : Nat} {w : World} {dg vg M : Nat} {all : List Bs} {f g cnt : Nat} (h : GA B w dg vg M false all f g cnt) : CA B w dg M all f g cnt := by
  obtain ⟨x, h1, h2, h3, rfl, rfl, h6⟩ := h
  exact ⟨_, h1, h3.closed, h6⟩
theorem CA.base {B : Nat} {w : World} {dg M : Nat} {all : List Bs} {f g cnt : Nat} (h : CA B w dg M all f g cnt) : B ≤ w.heap.size := by
  obtain ⟨x, h1, _⟩ := h
  exact h1.base
theorem CA.grown {B : Nat} {w w' : World} {dg M : Nat} {all : List Bs} {f g cnt : Nat} (h : CA B w dg M all f g cnt) (hb : Below w.heap.size w w') : CA B w' dg M all f g cnt := by
  obtain ⟨x, h1, h2⟩ := h
  exact ⟨x, h1.grown hb, h2⟩

/-- What an Open that finds a vault hands back. -/
def OpenGood (B dg M : Nat) (all : List Bs) (f g cnt : Nat) (w : World) (e : Ending) (w' : World) : Prop :=
  ∃ vg a c, e = .returned (.tuple #[.pointer (some ⟨vg, 0, none⟩), .slice a all.length c, .int .i64 0]) ∧ GA B w' dg vg M false all f g cnt ∧ OwnRecs w' w.heap.size (.slice a all.length c) all ∧ LiesV B w w'
theorem open_new (B M dg : Nat) (h1 : 44 ≤ M) (h2 : M ≤ 4194304) (w : World) (h : DiskAt B w dg (DiskM.new M)) (hT : Tab w) (hTB : 0 < B) :
    Calls Tryd.prog 11 #[.pointer (some ⟨dg, 0, none⟩)] w (OpenGood B dg M [] 1 1 4 w) := by
  have hok := new_ok (most := M) (by omega) h2
  refine (open_any B 0 (by omega) _ hok dg w h hT hTB).mono fun e w' hr => ?_
  obtain ⟨k1, k2, k3⟩ := new_open h1 h2
  obtain ⟨r1, r2, r3⟩ := hr
  rw [k2] at r3
  obtain ⟨vg, v, rfl, r4, _, r6⟩ := r3
  obtain ⟨a, c, rfl⟩ := r6.form
  exact ⟨vg, a, c, rfl, ⟨(_, _), r2, r4, k3, rfl, rfl, openV_ok hok (by omega)⟩, r6, r1⟩
theorem open_closed (B M dg : Nat) (all : List Bs) (f g cnt : Nat) (hcnt : cnt + 10 ≤ 1099511627776) (w : World) (h : CA B w dg M all f g cnt) (hT : Tab w) (hTB : 0 < B) :
    Calls Tryd.prog 11 #[.pointer (some ⟨dg, 0, none⟩)] w (OpenGood B dg M all f g (cnt + 4) w) := by
  obtain ⟨D, h1, h2, h3⟩ := h
  refine (open_any B cnt hcnt D h3 dg w h1 hT hTB).mono fun e w' hr => ?_
  obtain ⟨k1, k2, k3⟩ := h2.open_
  obtain ⟨r1, r2, r3⟩ := hr
  rw [k2] at r3
  obtain ⟨vg, v, rfl, r4, _, r6⟩ := r3
  obtain ⟨a, c, rfl⟩ := r6.form
  exact ⟨vg, a, c, rfl, ⟨(_, _), r2, r4, k3, rfl, rfl, openV_ok h3 (by omega)⟩, r6, r1⟩

theorem Good.sizes {M cnt : Nat} {fu : Bool} {x : DV} {all : List Bs} (h : Good M fu x all) (hok : x.1.ok cnt) : 44 + sizesL all ≤ 4194304 ∧ M ≤ 4194304 ∧ x.2.gen ≤ 4611686018427387904 ∧ all.length ≤ 4194304 := by
  obtain ⟨h1, h2, h3, s, O, lf, h4, h5, h6, h7⟩ := h
  have hp := look_parity h5.look
  have hm := hok.most2
  rw [h4, mkD_most] at hm
  have k0 := okL_all hok.ok0
  have k1 := okL_all hok.ok1
  change x.1.f0.stands.length ≤ _ at k0
  change x.1.f1.stands.length ≤ _ at k1
  rw [h4, mkD_most] at k0 k1
  have hl := h5.length
  have hle : s.length ≤ M := by
    match x.2.file, h1, k0, k1 with
    | 0, _, k0, k1 => exact k0
    | 1, _, k0, k1 => exact k1
  have := sizes_len all
  exact ⟨by omega, hm, hp.2.1, by omega⟩

theorem ga_add (B M dg vg : Nat) (all l : List Bs) (f g cnt : Nat) (hcnt : cnt + 10 ≤ 1099511627776) (hl : longL l = false) (hsz : sizesL l ≤ M - (44 + sizesL all)) (a : Option Addr) (cap : Nat) (w : World) (h : GA B w dg vg M false all f g cnt) (hr : RecsAt B w a l) (hT : Tab w) :
    Calls Tryd.prog 12 #[.pointer (some ⟨vg, 0, none⟩), .slice a l.length cap] w fun e w' => e = .returned (.int .i64 0) ∧ GA B w' dg vg M false (all ++ l) f g (cnt + 3) ∧ LiesV B w w' := by
  obtain ⟨⟨D, V⟩, h1, h2, h3, rfl, rfl, h6⟩ := h
  have hs := h3.sizes h6
  have hn : V.n = all.length := h3.2.2.1
  have hll := sizes_len l
  refine (vadd_any B cnt hcnt D h6 V vg dg l (by omega) (by omega) (by omega) a cap w h1 h2 hr hT).mono fun e w' hret => ?_
  obtain ⟨r1, r2, r3, r4⟩ := hret
  rcases add_good hs.2.1 (l := l) h3 with ⟨k, _⟩ | ⟨_, k, _⟩ | ⟨_, _, k1, k2, k3, k4⟩ | ⟨k, _⟩
  · rw [hl] at k; cases k
  · omega
  · rw [k1] at r1
    exact ⟨r1, ⟨_, r2, r3, k2, k4, k3, addL_ok (x := (D, V)) h6 (by omega)⟩, r4⟩
  · cases k
theorem ga_comp (B M dg vg : Nat) (all l : List Bs) (f g cnt : Nat) (hcnt : cnt + 10 ≤ 1073741824) (hg : g < 4611686018427387904) (hl : longL l = false) (hsz : 44 + sizesL l ≤ M - (44 + sizesL all)) (a : Option Addr) (cap : Nat) (w : World) (h : GA B w dg vg M false all f g cnt) (hr : RecsAt B w a l) (hT : Tab w) :
    Calls Tryd.prog 13 #[.pointer (some ⟨vg, 0, none⟩), .slice a l.length cap] w fun e w' => e = .returned (.int .i64 0) ∧ GA B w' dg vg M false l (1 - f) (g + 1) (cnt + 5) ∧ LiesV B w w' := by
  obtain ⟨⟨D, V⟩, h1, h2, h3, rfl, rfl, h6⟩ := h
  have hs := h3.sizes h6
  have hll := sizes_len l
  refine (vcomp_any B cnt (by omega) D h6 V h3.1 hs.2.2.1 vg dg l (by omega) (by omega) a cap w h1 h2 hr hT).mono fun e w' hret => ?_
  obtain ⟨r1, r2, r3, r4⟩ := hret
  simp only at hg
  rcases comp_good hs.2.1 (l := l) (by omega) h3 (fun O hO => by rw [hO]; exact ok_units h6 (by omega) _) with ⟨k, _⟩ | ⟨_, k, _⟩ | ⟨_, _, k, _⟩ | ⟨_, _, _, k1, k2, k3, k4⟩ | ⟨k, _⟩
  · rw [hl] at k; cases k
  · simp only at k; omega
  · omega
  · rw [k1] at r1
    exact ⟨r1, ⟨_, r2, r3, k2, k4, k3, compL_ok (x := (D, V)) h6 (by omega)⟩, r4⟩
  · cases k
theorem ga_gen (B M dg vg : Nat) (fu : Bool) (all : List Bs) (f g cnt : Nat) (w : World) (h : GA B w dg vg M fu all f g cnt) : Calls Tryd.prog 25 #[.pointer (some ⟨vg, 0, none⟩)] w fun e w' => e = .returned (.int .u64 g) ∧ w = w' := by
  obtain ⟨x, h1, h2, h3, h4, h5, h6⟩ := h
  subst h5
  exact gen_any B x.2 vg dg w h2
theorem ga_len (B M dg vg : Nat) (fu : Bool) (all : List Bs) (f g cnt : Nat) (w : World) (h : GA B w dg vg M fu all f g cnt) : Calls Tryd.prog 26 #[.pointer (some ⟨vg, 0, none⟩)] w fun e w' => e = .returned (.int .i64 all.length) ∧ w = w' := by
  obtain ⟨x, h1, h2, h3, h4, h5, h6⟩ := h
  have := len_any B x.2 vg dg w h2
  rw [h3.2.2.1] at this
  exact this
theorem ga_room (B M dg vg : Nat) (fu : Bool) (all : List Bs) (f g cnt : Nat) (w : World) (h : GA B w dg vg M fu all f g cnt) : Calls Tryd.prog 18 #[.pointer (some ⟨dg, 0, none⟩)] w fun e w' => e = .returned (.int .i64 ((M - (44 + sizesL all) : Nat) : Int)) ∧ Below w.heap.size w w' := by
  obtain ⟨x, h1, h2, h3, h4, h5, h6⟩ := h
  have := room_any B cnt x.1 h6 dg w h1
  rw [h3.room] at this
  exact this

/-- A disk without power, and what comes back. -/
def OA (B : Nat) (w : World) (dg M : Nat) (all : List Bs) (f g cnt : Nat) : Prop := ∃ D : DiskM, DiskAt B w dg D ∧ D.ok cnt ∧ ∀ picks, (D.on picks).2 = 0 ∧ Closed M all f g (D.on picks).1
theorem ga_off (B M dg vg : Nat) (fu : Bool) (all : List Bs) (f g cnt : Nat) (w : World) (h : GA B w dg vg M fu all f g cnt) : Calls Tryd.prog 14 #[.pointer (some ⟨dg, 0, none⟩)] w fun e w' => e = .returned (.int .i64 0) ∧ OA B w' dg M all f g cnt ∧ LiesV B w w' := by
  obtain ⟨x, h1, h2, h3, h4, h5, h6⟩ := h
  subst h4 h5
  refine (off_any B x.1 dg w h1).mono fun e w' hr => ?_
  obtain ⟨r1, r2, r3⟩ := hr
  rw [(h3.offon []).1] at r1
  exact ⟨r1, ⟨_, r2, down_ok h6, fun picks => (h3.offon picks).2⟩, r3.toV⟩
theorem oa_on (B M dg : Nat) (all : List Bs) (f g cnt : Nat) (picks : List Int) (hp : ∀ z ∈ picks, z ≤ 9223372036854775807) (hpl : picks.length ≤ 140737488355328) (a : Option Addr) (cap : Nat) (w : World) (h : OA B w dg M all f g cnt) (hpk : IntsAt B w a picks) :
    Calls Tryd.prog 15 #[.pointer (some ⟨dg, 0, none⟩), .slice a picks.length cap] w fun e w' => e = .returned (.int .i64 0) ∧ CA B w' dg M all f g cnt ∧ LiesV B w w' := by
  obtain ⟨D, h1, h2, h3⟩ := h
  refine (on_any B cnt D h2 dg picks hp hpl a cap w h1 hpk).mono fun e w' hr => ?_
  obtain ⟨r1, r2, r3⟩ := hr
  rw [(h3 picks).1] at r1
  exact ⟨r1, ⟨_, r2, (h3 picks).2, on_ok h2 picks⟩, r3.toV⟩

/-- Ahead of an Add whose second call of the disk meets no power; behind it. -/
def FA (B : Nat) (w : World) (dg vg M : Nat) (all : List Bs) (g cnt : Nat) : Prop := ∃ x : DV, DiskAt B w dg (x.1.fuse 1).1 ∧ VaultAt B w vg dg x.2 ∧ Good M false x all ∧ x.2.file = 0 ∧ x.2.gen = g ∧ x.1.ok cnt
def FB (B : Nat) (w : World) (dg vg M : Nat) (all : List Bs) (n g cnt : Nat) : Prop := ∃ x : DV, DiskAt B w dg x.1 ∧ VaultAt B w vg dg x.2 ∧ x.2.broken = true ∧ x.1.off = true ∧ x.2.n ≤ 8388608 ∧ x.1.ok cnt ∧ ∀ picks, pickAt picks 0 = n → (x.1.on picks).2 = 0 ∧ Closed M all 0 g (x.1.on picks).1
theorem ga_fuse (B M dg vg : Nat) (all : List Bs) (g cnt : Nat) (w : World) (h : GA B w dg vg M false all 0 g cnt) : Calls Tryd.prog 16 #[.pointer (some ⟨dg, 0, none⟩), .int .i64 1] w fun e w' => e = .returned (.int .i64 0) ∧ FA B w' dg vg M all g cnt ∧ LiesV B w w' := by
  obtain ⟨x, h1, h2, h3, h4, h5, h6⟩ := h
  refine (fuse_any B x.1 dg 1 w h1).mono fun e w' hr => ?_
  obtain ⟨r1, r2, r3⟩ := hr
  have ho : x.1.off = false := by
    obtain ⟨_, _, _, s, O, lf, k, _⟩ := h3
    rw [k, mkD_off]
  have : (x.1.fuse 1).2 = 0 := by simp [DiskM.fuse, ho]
  rw [this] at r1
  exact ⟨r1, ⟨x, r2, h2.lies r3, h3, h4, h5, h6⟩, r3.toV⟩
theorem fa_add (B M dg vg : Nat) (all l : List Bs) (g cnt : Nat) (hcnt : cnt + 10 ≤ 1099511627776) (hl : longL l = false) (hn : l.length ≠ 0) (hsz : sizesL l ≤ M - (44 + sizesL all)) (a : Option Addr) (cap : Nat) (w : World) (h : FA B w dg vg M all g cnt) (hr : RecsAt B w a l) (hT : Tab w) :
    Calls Tryd.prog 12 #[.pointer (some ⟨vg, 0, none⟩), .slice a l.length cap] w fun e w' => e = .returned (.int .i64 8) ∧ FB B w' dg vg M (all ++ l) (sizesL l) g (cnt + 3) ∧ LiesV B w w' := by
  obtain ⟨x, h1, h2, h3, h4, rfl, h6⟩ := h
  have hs := h3.sizes h6
  have hnn : x.2.n = all.length := h3.2.2.1
  have hll := sizes_len l
  have hf := fuse_ok h6 1 (by omega) (by omega)
  refine (vadd_any B cnt hcnt (x.1.fuse 1).1 hf x.2 vg dg l (by omega) (by omega) (by omega) a cap w h1 h2 hr hT).mono fun e w' hret => ?_
  obtain ⟨r1, r2, r3, r4⟩ := hret
  obtain ⟨_, k2, k3, k4, k5⟩ := fuse_add h3 h4 hl hn hsz
  rw [k2] at r1
  refine ⟨r1, ⟨_, r2, r3, k3, k4, ?_, addL_ok (x := ((x.1.fuse 1).1, x.2)) hf (by omega), k5⟩, r4⟩
  have hkeep : ∀ (y : DV), y.2.n ≤ all.length → (addL l y).1.2.n ≤ all.length + l.length := fun y hy => by
    unfold addL
    split; · show y.2.n ≤ _; omega
    split; · show y.2.n ≤ _; omega
    split; · show y.2.n ≤ _; omega
    show (runL (addOps l.length (framesL y.2.gen y.2.n l)) y).1.2.n ≤ _
    simp only [addOps, runL]
    split
    · show y.2.n ≤ _; omega
    · split
      · show y.2.n ≤ _; omega
      · simp only [ne_eq, not_true_eq_false, if_false]
        omega
  have := hkeep ((x.1.fuse 1).1, x.2) (by show x.2.n ≤ _; omega)
  omega
theorem fb_add (B M dg vg : Nat) (all l : List Bs) (n g cnt : Nat) (hcnt : cnt + 10 ≤ 1099511627776) (hll : l.length ≤ 4194304) (hsz : sizesL l ≤ 4194304) (a : Option Addr) (cap : Nat) (w : World) (h : FB B w dg vg M all n g cnt) (hr : RecsAt B w a l) (hT : Tab w) :
    Calls Tryd.prog 12 #[.pointer (some ⟨vg, 0, none⟩), .slice a l.length cap] w fun e w' => e = .returned (.int .i64 3) ∧ FB B w' dg vg M all n g cnt ∧ LiesV B w w' := by
  obtain ⟨x, h1, h2, h3, h4, h5, h6, h7⟩ := h
  refine (vadd_any B cnt hcnt x.1 h6 x.2 vg dg l (by omega) (by omega) (by omega) a cap w h1 h2 hr hT).mono fun e w' hret => ?_
  obtain ⟨r1, r2, r3, r4⟩ := hret
  rw [add_broken h3] at r1 r2 r3
  exact ⟨r1, ⟨x, r2, r3, h3, h4, h5, h6, h7⟩, r4⟩
theorem fb_off (B M dg vg : Nat) (all : List Bs) (n g cnt : Nat) (w : World) (h : FB B w dg vg M all n g cnt) : Calls Tryd.prog 14 #[.pointer (some ⟨dg, 0, none⟩)] w fun e w' => e = .returned (.int .i64 8) ∧ FB B w' dg vg M all n g cnt ∧ LiesV B w w' := by
  obtain ⟨x, h1, h2, h3, h4, h5⟩ := h
  refine (off_any B x.1 dg w h1).mono fun e w' hr => ?_
  obtain ⟨r1, r2, r3⟩ := hr
  rw [down_off h4] at r1 r2
  exact ⟨r1, ⟨x, r2, h2.lies r3, h3, h4, h5⟩, r3.toV⟩
theorem fb_on (B M dg vg : Nat) (all : List Bs) (n g cnt : Nat) (picks : List Int) (hn : pickAt picks 0 = n) (hp : ∀ z ∈ picks, z ≤ 9223372036854775807) (hpl : picks.length ≤ 140737488355328) (a : Option Addr) (cap : Nat) (w : World) (h : FB B w dg vg M all n g cnt) (hpk : IntsAt B w a picks) :
    Calls Tryd.prog 15 #[.pointer (some ⟨dg, 0, none⟩), .slice a picks.length cap] w fun e w' => e = .returned (.int .i64 0) ∧ CA B w' dg M all 0 g cnt ∧ LiesV B w w' := by
  obtain ⟨x, h1, h2, h3, h4, h5, h6, h7⟩ := h
  refine (on_any B cnt x.1 h6 dg picks hp hpl a cap w h1 hpk).mono fun e w' hr => ?_
  obtain ⟨r1, r2, r3⟩ := hr
  obtain ⟨k1, k2⟩ := h7 picks hn
  rw [k1] at r1
  exact ⟨r1, ⟨_, r2, k2, on_ok h6 picks⟩, r3.toV⟩
end Go.Proofs.YtiidohaibbdgeaaDoor
