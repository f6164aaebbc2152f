/-
  Blocks of one type turn: what stays.
-/
import Derived.Test.YtiidohaibbdgeaaDoorVWorks
import Derived.Laws.AppendOwnNone
import Derived.Deep.Slices
namespace Go.Proofs.YtiidohaibbdgeaaDoor
open Go Go.RowKit

set_option maxRecDepth 100000 in
set_option maxHeartbeats 1000000 in
theorem open_nil (w : World) : Calls Tryd.prog 11 #[.pointer none] w fun e w' => e = .returned (.tuple #[.pointer none, .slice none 0 0, .int .i64 2]) ∧ Below w.heap.size w w' := by
  have hb : Below w.heap.size w (w.alloc (.cells #[.pointer none] 25)) := (Below.refl _ _).alloc (Nat.le_refl _) _
  go_enter Tryd.func11, Tryd.ntmps11
  go_wp2
  go_ret3
  exact ⟨rfl, hb⟩
set_option maxRecDepth 100000 in
set_option maxHeartbeats 1000000 in
theorem add_nil (a : Option Addr) (n c : Nat) (w : World) : Calls Tryd.prog 12 #[.pointer none, .slice a n c] w fun e w' => e = .returned (.int .i64 2) ∧ Below w.heap.size w w' := by
  have hb : Below w.heap.size w ((w.alloc (.cells #[.pointer none] 29)).alloc (.cells #[.slice a n c] 30)) := ((Below.refl _ _).alloc (Nat.le_refl _) _).alloc (by simp) _
  have hm := vmay_nil (.slice a n c)
  replace hm := Lib.hid hm
  go_enter Tryd.func12, Tryd.ntmps12
  go_wp2_with (go_at_call 35; refine (hm.out _).mono ?_; rintro e w1 ⟨rfl, rfl⟩)
  go_ret
  exact ⟨rfl, hb⟩
set_option maxRecDepth 100000 in
set_option maxHeartbeats 1000000 in
theorem comp_nil (a : Option Addr) (n c : Nat) (w : World) : Calls Tryd.prog 13 #[.pointer none, .slice a n c] w fun e w' => e = .returned (.int .i64 2) ∧ Below w.heap.size w w' := by
  have hb : Below w.heap.size w ((w.alloc (.cells #[.pointer none] 29)).alloc (.cells #[.slice a n c] 30)) := ((Below.refl _ _).alloc (Nat.le_refl _) _).alloc (by simp) _
  have hm := vmay_nil (.slice a n c)
  replace hm := Lib.hid hm
  go_enter Tryd.func13, Tryd.ntmps13
  go_wp2_with (go_at_call 35; refine (hm.out _).mono ?_; rintro e w1 ⟨rfl, rfl⟩)
  go_ret
  exact ⟨rfl, hb⟩
/-- works, ahead of a law's end. -/
theorem works_end (w wx : World) (hb : Below w.heap.size w wx) (hT : Tab w) : Calls Tryd.prog 9 #[] wx fun e w' => e = .returned (.bool true) ∧ Below w.heap.size w w' :=
  (works_any w.heap.size wx hb.size (hT.grown hb) hT.lt).mono fun _ _ ⟨h1, h2⟩ => ⟨h1, hb.trans h2.below⟩

set_option maxRecDepth 100000 in
set_option maxHeartbeats 1000000 in
theorem vaultnil_any (a : Option Addr) (n c : Nat) (hn : n ≤ 9223372036854775807) (w : World) (hT : Tab w) : Calls Tryd.prog 7 #[.slice a n c] w fun e w' => e = .returned (.bool true) ∧ Below w.heap.size w w' := by
  have hw := fun wx hb => works_end w wx hb hT
  have h0 := Below.refl w.heap.size w
  replace hw := Lib.hid hw
  clear hT
  by_cases h100 : 100 < n
  · have h1 : (100 : Int) < (n : Int) := by omega
    go_enter Tryd.func7, Tryd.ntmps7
    go_wp2_with (go_at_call 9; refine (hw.out _ h0).mono ?_; rintro e w1 ⟨rfl, hB1⟩)
    go_ret
    exact ⟨rfl, hB1⟩
  · have h1 : decide ((100 : Int) < (n : Int)) = false := decide_eq_false (by omega)
    have h2 : decide (100 < n) = false := decide_eq_false h100
    go_enter Tryd.func7, Tryd.ntmps7
    go_wp2_with (first
      | (go_at_call 11; refine (open_nil w).mono ?_; rintro e w1 ⟨rfl, hB1⟩)
      | (go_at_call 12; refine (add_nil a n c w1).mono ?_; rintro e w2 ⟨rfl, hB2⟩; have hB02 := hB1.trans (hB2.mono hB1.size))
      | (go_at_call 13; refine (comp_nil a n c w2).mono ?_; rintro e w3 ⟨rfl, hB3⟩; have hB03 := hB02.trans (hB3.mono hB02.size))
      | (go_at_call 25; refine (gen_nil w3).mono ?_; rintro e w4 ⟨rfl, rfl⟩)
      | (go_at_call 26; refine (len_nil w3).mono ?_; rintro e w4 ⟨rfl, rfl⟩)
      | (go_at_call 9; refine (hw.out _ hB03).mono ?_; rintro e w5 ⟨rfl, hB5⟩))
    go_ret
    exact ⟨rfl, hB5⟩
end Go.Proofs.YtiidohaibbdgeaaDoor

namespace Go.Proofs.YtiidohaibbdgeaaDoor
open Go Go.RowKit

/-- Below block B nothing has turned; above it blocks of one type alone. -/
structure Turned (B : Nat) (T : TypeId) (w w' : World) : Prop where
  below : Below B w w'
  still : ∀ (b : Nat) (cs : Array Value) (t : TypeId) (fr : Nat × Nat), w.heap[b]? = some (Obj.cells cs t fr) → t ≠ T → w'.heap[b]? = some (Obj.cells cs t fr)
theorem Turned.refl (B : Nat) (T : TypeId) (w : World) : Turned B T w w := ⟨Below.refl _ _, fun _ _ _ _ h _ => h⟩
theorem Turned.trans {B : Nat} {T : TypeId} {a b c : World} (h : Turned B T a b) (k : Turned B T b c) : Turned B T a c := ⟨h.below.trans k.below, fun g cs t fr hg ht => k.still g cs t fr (h.still g cs t fr hg ht) ht⟩
theorem Turned.size {B : Nat} {T : TypeId} {a b : World} (h : Turned B T a b) : a.heap.size ≤ b.heap.size := h.below.size
theorem Turned.new {B : Nat} {T : TypeId} {w w' : World} (h : Below w.heap.size w w') (hB : B ≤ w.heap.size) : Turned B T w w' :=
  ⟨h.mono hB, fun b _ _ _ hb _ => (h.block b (heap_lt hb)).trans hb⟩
theorem Turned.grown {B : Nat} {T : TypeId} {w w' : World} {r : Option Nat} (hg : w.grownBy w' r) (hB : B ≤ w.heap.size) (hr : ∀ g, r = some g → B ≤ g ∧ ∀ (cs : Array Value) (t : TypeId) (fr : Nat × Nat), w.heap[g]? = some (Obj.cells cs t fr) → t = T) : Turned B T w w' :=
  ⟨(Below.refl _ _).grown hg hB (fun k e => (hr k e).1), fun b cs t fr hb ht => (hg.block b (heap_lt hb) (fun e => ht ((hr b e.symm).2 cs t fr hb))).trans hb⟩
theorem Turned.set {B : Nat} {T : TypeId} {w : World} {g : Nat} {cs : Array Value} (h : Blk w g T cs) (hg : B ≤ g) (i : Nat) (u : Value) : Turned B T w (w.setCell ⟨g, i, none⟩ u) :=
  ⟨below_set (Below.refl _ _) hg i u, fun b cs' t fr hb ht => (Below.heap_setCell w ⟨g, i, none⟩ u b (fun e => by
    simp only at e
    subst e
    rw [h] at hb
    injection hb with hb
    injection hb with _ h2
    exact ht h2.symm)).trans hb⟩
theorem Turned.row {B : Nat} {T : TypeId} {w : World} {g : Nat} {cs : Array Value} (h : Blk w g T cs) (hg : B ≤ g) (x : Array Value) : Turned B T w (w.setRow g x) :=
  ⟨Below.setRow (Below.refl _ _) hg x, fun b cs' t fr hb ht => (setRow_other w g b x (fun e => by
    subst e
    rw [h] at hb
    injection hb with hb
    injection hb with _ h2
    exact ht h2.symm)).trans hb⟩
theorem StaysT.turned {B : Nat} {T : TypeId} {w w' : World} {ts : List TypeId} {b : Nat} (h : StaysT B w ts b) (hr : Turned B T w w') (ht : T ∉ ts) : StaysT B w' ts b := by
  rcases h with h | ⟨t, cs, fr, hm, h⟩
  · exact .inl h
  · exact .inr ⟨t, cs, fr, hm, hr.still b cs t fr h (fun e => ht (e ▸ hm))⟩
theorem StaysT.cellT {B : Nat} {T : TypeId} {w w' : World} {ts : List TypeId} {b o : Nat} (h : StaysT B w ts b) (hr : Turned B T w w') (ht : T ∉ ts) : w'.cell? ⟨b, o, none⟩ = w.cell? ⟨b, o, none⟩ := by
  rcases h with h | ⟨t, cs, fr, hm, h⟩
  · exact hr.below.cell (p := ⟨b, o, none⟩) h
  · have h2 := hr.still b cs t fr h (fun e => ht (e ▸ hm))
    simp only [World.cell?, h, h2]
theorem BytesAt.turned {B : Nat} {T : TypeId} {w w' : World} {a : Option Addr} {xs : Bs} (h : BytesAt B w a xs) (hr : Turned B T w w') (ht : T ∉ [5, 105] := by decide) : BytesAt B w' a xs := fun hn => by
  obtain ⟨b, o, ha, hs, hc⟩ := h hn
  exact ⟨b, o, ha, hs.turned hr ht, fun j hj => (hs.cellT hr ht).trans (hc j hj)⟩
theorem SliceIs.turned {B : Nat} {T : TypeId} {w w' : World} {v : Value} {xs : Bs} (h : SliceIs B w v xs) (hr : Turned B T w w') (ht : T ∉ [5, 105] := by decide) : SliceIs B w' v xs := by
  obtain ⟨a, cap, h1, h2, h3, h4⟩ := h
  exact ⟨a, cap, h1, h2, h3, h4.turned hr ht⟩
theorem RecsAt.turned {B : Nat} {T : TypeId} {w w' : World} {a : Option Addr} {l : List Bs} (h : RecsAt B w a l) (hr : Turned B T w w') (ht : T ∉ [5, 105] := by decide) (ht2 : T ∉ [35] := by decide) : RecsAt B w' a l := fun hn => by
  obtain ⟨b, o, ha, hs, hc⟩ := h hn
  refine ⟨b, o, ha, hs.turned hr ht2, fun j hj => ?_⟩
  obtain ⟨v, h1, h2⟩ := hc j hj
  exact ⟨v, (hs.cellT hr ht2).trans h1, h2.turned hr ht⟩
theorem Blk.turned {B : Nat} {T : TypeId} {w w' : World} {b : Nat} {t : TypeId} {cs : Array Value} (h : Blk w b t cs) (hr : Turned B T w w') (ht : t ≠ T := by decide) : Blk w' b t cs := hr.still b cs t _ h ht
theorem FileAt.turned {B : Nat} {T : TypeId} {w w' : World} {F : FileM} {vs vl : Value} (hf : FileAt B w F vs vl) (hr : Turned B T w w') (ht : T ∉ [5, 105]) (ht2 : 112 ≠ T) : FileAt B w' F vs vl := by
  have hch : ∀ c v, ChgAt B w c v → ChgAt B w' c v := fun c v h => by
    cases c with
    | wr x =>
      obtain ⟨a, cap, hv, h1, h2, h3, h4⟩ := h
      exact ⟨a, cap, hv, h1, h2, h3, h4.turned hr ht⟩
    | cut n => exact h
  have hchs : ∀ (cs : List Chg) (vs : List Value), ChgsAt B w cs vs → ChgsAt B w' cs vs := fun cs => by
    induction cs with
    | nil => intro vs h; cases vs with
      | nil => exact trivial
      | cons v vs => exact h
    | cons c cs ih => intro vs h; cases vs with
      | nil => exact h
      | cons v vs => exact ⟨hch c v h.1, ih vs h.2⟩
  obtain ⟨⟨a, cap, h1, h2, h3, h4, h5⟩, xs, h6, h7⟩ := hf
  refine ⟨⟨a, cap, h1, h2, h3, h4, h5.turned hr ht⟩, xs, owns_same h6 fun r hr' => ?_, hchs _ _ h7⟩
  obtain ⟨cur, hh, _⟩ := owns_block h6 hr'
  rw [hr.still r cur _ _ hh ht2, hh]
theorem DiskAt.turned {B : Nat} {T : TypeId} {w w' : World} {g : Nat} {D : DiskM} (hd : DiskAt B w g D) (hr : Turned B T w w') (ht : T ∉ [5, 105] := by decide) (ht2 : 112 ≠ T := by decide) (ht3 : 68 ≠ T := by decide) : DiskAt B w' g D := by
  obtain ⟨v0, l0, v1, l1, h1, h2, h3, h4, h5⟩ := hd
  exact ⟨v0, l0, v1, l1, h1.turned hr ht3, h2, h3.turned hr ht ht2, h4.turned hr ht ht2, h5⟩
theorem VaultAt.turned {B : Nat} {T : TypeId} {w w' : World} {vg dg : Nat} {V : VaultM} (h : VaultAt B w vg dg V) (hr : Turned B T w w') (ht : 77 ≠ T := by decide) : VaultAt B w' vg dg V := ⟨h.1.turned hr ht, h.2⟩
theorem Tab.turned {B : Nat} {T : TypeId} {w w' : World} (h : Tab w) (hr : Turned B T w w') (hTB : 0 < B) : Tab w' := by
  obtain ⟨t, fr, h1⟩ := h
  exact ⟨t, fr, (hr.below.block _ hTB).trans h1⟩
theorem GA.turned {B : Nat} {T : TypeId} {w w' : World} {dg vg M : Nat} {fu : Bool} {all : List Bs} {f g cnt : Nat} (h : GA B w dg vg M fu all f g cnt) (hr : Turned B T w w') (ht : T ∉ [5, 105] := by decide) (ht2 : 112 ≠ T := by decide) (ht3 : 68 ≠ T := by decide) (ht4 : 77 ≠ T := by decide) : GA B w' dg vg M fu all f g cnt := by
  obtain ⟨x, h1, h2, h3⟩ := h
  exact ⟨x, h1.turned hr ht ht2 ht3, h2.turned hr ht4, h3⟩

/-- A slice of records, as a value. -/
def RecsIs (B : Nat) (w : World) (v : Value) (l : List Bs) : Prop := ∃ a cap, v = .slice a l.length cap ∧ (a = none → cap = 0) ∧ l.length ≤ cap ∧ RecsAt B w a l

/-- Calls of a vault in order that are not carried out. -/
theorem ga_add_no (B M dg vg : Nat) (all l : List Bs) (f g cnt : Nat) (hcnt : cnt + 10 ≤ 1099511627776) (hll : l.length ≤ 1099511627776) (hz : sizesL l ≤ 1099511627776) (hno : longL l = true ∨ M - (44 + sizesL all) < sizesL l) (a : Option Addr) (cap : Nat) (w : World) (h : GA B w dg vg M false all f g cnt) (hr : RecsAt B w a l) (hT : Tab w) :
    Calls Tryd.prog 12 #[.pointer (some ⟨vg, 0, none⟩), .slice a l.length cap] w fun e w' => e = .returned (.int .i64 (if longL l = true then 1 else 7)) ∧ GA B w' dg vg M false all f g cnt ∧ LiesV B w w' := by
  obtain ⟨⟨D, V⟩, h1, h2, h3, rfl, rfl, h6⟩ := h
  have hs := h3.sizes h6
  have hn : V.n = all.length := h3.2.2.1
  refine (vadd_any B cnt hcnt D h6 V vg dg l hll hz (by omega) a cap w h1 h2 hr hT).mono fun e w' hret => ?_
  obtain ⟨r1, r2, r3, r4⟩ := hret
  rcases add_good hs.2.1 (l := l) h3 with ⟨k, k1⟩ | ⟨k, _, k1⟩ | ⟨k, k2, _⟩ | ⟨k, _⟩
  · rw [k1] at r1 r2 r3
    rw [if_pos k]
    exact ⟨r1, ⟨_, r2, r3, h3, rfl, rfl, h6⟩, r4⟩
  · rw [k1] at r1 r2 r3
    rw [if_neg (by rw [k]; simp)]
    exact ⟨r1, ⟨_, r2, r3, h3, rfl, rfl, h6⟩, r4⟩
  · rcases hno with hno | hno
    · rw [k] at hno; cases hno
    · omega
  · cases k
theorem ga_comp_no (B M dg vg : Nat) (all l : List Bs) (f g cnt : Nat) (hcnt : cnt + 10 ≤ 1073741824) (hg : g < 4611686018427387904) (hll : l.length ≤ 4294967295) (hz : sizesL l ≤ 1099511627776) (hno : longL l = true ∨ M - (44 + sizesL all) < 44 + sizesL l) (a : Option Addr) (cap : Nat) (w : World) (h : GA B w dg vg M false all f g cnt) (hr : RecsAt B w a l) (hT : Tab w) :
    Calls Tryd.prog 13 #[.pointer (some ⟨vg, 0, none⟩), .slice a l.length cap] w fun e w' => e = .returned (.int .i64 (if longL l = true then 1 else 7)) ∧ GA B w' dg vg M false all f g cnt ∧ LiesV B w w' := by
  obtain ⟨⟨D, V⟩, h1, h2, h3, rfl, rfl, h6⟩ := h
  have hs := h3.sizes h6
  refine (vcomp_any B cnt (by omega) D h6 V h3.1 hs.2.2.1 vg dg l (by omega) (by omega) a cap w h1 h2 hr hT).mono fun e w' hret => ?_
  obtain ⟨r1, r2, r3, r4⟩ := hret
  simp only at hg
  rcases comp_good hs.2.1 (l := l) (by omega) h3 (fun O hO => by rw [hO]; exact ok_units h6 (by omega) _) with ⟨k, k1⟩ | ⟨_, k, _⟩ | ⟨k, _, _, k1⟩ | ⟨k, _, k2, _⟩ | ⟨k, _⟩
  · rw [k1] at r1 r2 r3
    rw [if_pos k]
    exact ⟨r1, ⟨_, r2, r3, h3, rfl, rfl, h6⟩, r4⟩
  · simp only at k; omega
  · rw [k1] at r1 r2 r3
    rw [if_neg (by rw [k]; simp)]
    exact ⟨r1, ⟨_, r2, r3, h3, rfl, rfl, h6⟩, r4⟩
  · rcases hno with hno | hno
    · rw [k] at hno; cases hno
    · omega
  · cases k

/-- A row of records of the call's own. -/
def RowOf (B : Nat) (w : World) (v : Value) (l : List Bs) : Prop := ∃ vs : List Value, w.ownsRow B 35 1 v l.length vs ∧ vs.length = l.length ∧ ∀ j, j < l.length → SliceIs B w (vs.getD j .nilFunc) (l.getD j [])
theorem RowOf.nil (B : Nat) (w : World) : RowOf B w (.slice none 0 0) [] := ⟨[], ⟨rfl, .inl ⟨rfl, rfl⟩⟩, rfl, fun j hj => by simp at hj⟩
theorem RowOf.form {B : Nat} {w : World} {v : Value} {l : List Bs} (h : RowOf B w v l) : ∃ a c, v = .slice a l.length c ∧ (a = none → c = 0) ∧ l.length ≤ c ∧ c ≤ maxLen := by
  obtain ⟨vs, h1, h2, h3⟩ := h
  rcases h1.2 with ⟨hv, h0⟩ | ⟨g, cap, cur, hv, hg, hh, hc, hm, _⟩
  · exact ⟨none, 0, by rw [hv, h0], fun _ => rfl, by omega, by unfold maxLen; omega⟩
  · exact ⟨_, _, hv, (fun h => by cases h), hc, hm⟩
theorem RowOf.recs {B : Nat} {w : World} {a : Option Addr} {c : Nat} {l : List Bs} (h : RowOf B w (.slice a l.length c) l) : RecsAt B w a l := fun hn => by
  obtain ⟨vs, h2, hl, h3⟩ := h
  rcases h2.2 with ⟨hv, h0⟩ | ⟨g, cap, cur, hv, hg, hh, hc, hm, _⟩
  · omega
  · obtain ⟨rfl, rfl⟩ : a = some ⟨g, 0, none⟩ ∧ c = cap := by injection hv with e1 e2 e3; exact ⟨e1, e3⟩
    refine ⟨g, 0, rfl, .of hh, fun j hj => ⟨vs.getD j .nilFunc, ?_, h3 j hj⟩⟩
    rw [Nat.zero_add]
    have := World.ownsRow.cellAt h2 j (by omega)
    rw [this]
    simp [List.getD, show j < vs.length by omega]
theorem RowOf.liesV {B : Nat} {w w' : World} {v : Value} {l : List Bs} (h : RowOf B w v l) (hl : LiesV B w w') : RowOf B w' v l := by
  obtain ⟨vs, h1, h2, h3⟩ := h
  refine ⟨vs, owns_same h1 fun r hr => ?_, h2, fun j hj => (h3 j hj).restV hl⟩
  obtain ⟨cur, hh, _⟩ := owns_block h1 hr
  rw [hl.still r cur _ _ hh (by decide), hh]
theorem RowOf.grown {B : Nat} {w w' : World} {v : Value} {l : List Bs} (h : RowOf B w v l) (hb : Below w.heap.size w w') (hB : B ≤ w.heap.size) : RowOf B w' v l := h.liesV (Lies.new hb hB).toV
/-- The values of records. -/
theorem RecsAt.values {B : Nat} {w : World} {b o : Nat} {l : List Bs} (h : ∀ j, j < l.length → ∃ v, w.cell? ⟨b, o + j, none⟩ = some v ∧ SliceIs B w v (l.getD j [])) :
    ∃ vs : List Value, vs.length = l.length ∧ ∀ j, j < l.length → w.cell? ⟨b, o + j, none⟩ = some (vs.getD j .nilFunc) ∧ SliceIs B w (vs.getD j .nilFunc) (l.getD j []) := by
  haveI : Inhabited Value := ⟨.nilFunc⟩
  obtain ⟨E, hE⟩ := Go.Deep.choose_lt h
  refine ⟨(List.range l.length).map E, by simp, fun j hj => ?_⟩
  have : ((List.range l.length).map E).getD j .nilFunc = E j := by simp [List.getD, hj]
  rw [this]
  exact hE j hj
theorem Tryd.info_recs : (Tryd.prog.info? 35).map (fun i => (i.zero, i.size, i.bytes)) = some (some (.slice none 0 0), 1, 24) := by kernel_rfl

set_option maxRecDepth 100000 in
/-- Records put behind a row of the call's own. -/
theorem wpList_append_recs {w : World} {ops : Array Oper} {rest : List Oper} {o : Oper} {a : Act} {Q : Exit → Act → World → Prop} (hgd : o.guard = none) (s x : Operand)
    (ho : o.op = .call { callee := .builtin .append, args := #[s, x], argTypes := #[30, 30] })
    (B : Nat) (hB : B ≤ w.heap.size) (v : Value) (l : List Bs) (hs : a.eval s = v) (hrow : RowOf B w v l) (ad : Option Addr) (c n : Nat) (m : List Bs) (hn : n = m.length) (hx : a.eval x = .slice ad n c) (hr : RecsAt B w ad m) (hnil : ad = none → c = 0) (hlen : l.length + m.length ≤ 1099511627776)
    (h : ∀ v' w', RowOf B w' v' (l ++ m) → Turned B 35 w w' → wpList Tryd.prog ops Q rest (a.put o.dst v') w') : wpList Tryd.prog ops Q (o :: rest) a w := by
  subst hn
  obtain ⟨i5, hi5, hz5, hs5, hy5⟩ := info_parts Tryd.info_recs
  obtain ⟨vs, h1, h2, h3⟩ := hrow
  cases ad with
  | none =>
    have hm : m = [] := by
      by_cases hl : 0 < m.length
      · obtain ⟨b, o', he, _⟩ := hr hl; cases he
      · exact List.eq_nil_of_length_eq_zero (by omega)
    subst hm
    rw [hnil rfl] at hx
    refine wpList_append_own_none hgd s x 30 ho B 35 i5 1 Tryd.underlying30 hi5 v l.length vs hs h1 hx ?_
    exact h v w (by rw [List.append_nil]; exact ⟨vs, h1, h2, h3⟩) (Turned.refl _ _ _)
  | some ad =>
    have hnews : ∃ news : List Value, news.length = m.length ∧ (∀ j u, news[j]? = some u → w.cell? (ad.add j) = some u) ∧ (∀ u ∈ news, u.oneCell' = true) ∧ ∀ j, j < m.length → SliceIs B w (news.getD j .nilFunc) (m.getD j []) := by
      by_cases hm : 0 < m.length
      · obtain ⟨b, o', he, _, hc⟩ := hr hm
        injection he with he
        subst he
        obtain ⟨ws, k1, k2⟩ := RecsAt.values hc
        refine ⟨ws, k1, fun j u hj => ?_, fun u hu => ?_, fun j hj => (k2 j hj).2⟩
        · have hj' := (List.getElem?_eq_some_iff.1 hj).1
          have := (k2 j (by omega)).1
          rw [addr_add, this]
          simp [List.getD, hj]
        · obtain ⟨j, hj, rfl⟩ := List.mem_iff_getElem.1 hu
          obtain ⟨a', c', he, _⟩ := (k2 j (by omega)).2
          have hg : ws.getD j .nilFunc = ws[j] := by simp [List.getD, hj]
          rw [hg] at he
          rw [he]
          simp [Value.oneCell']
      · have hm0 : m = [] := List.eq_nil_of_length_eq_zero (by omega)
        subst hm0
        exact ⟨[], rfl, (fun j u hj => by simp at hj), (fun u hu => by cases hu), fun j hj => by simp at hj⟩
    obtain ⟨news, n1, n2, n3, n4⟩ := hnews
    refine wpList_append_own w hgd s x 30 ho B 35 i5 _ 1 24 Tryd.underlying30 hi5 hz5 hs5 hy5 rfl (by decide) v l.length vs hs h1 ad m.length c news hx (by omega) n2 n3 (by unfold maxLen; omega) (by omega) hB fun v' w' k1 k2 _ => ?_
    have htu : Turned B 35 w w' := Turned.grown k2 hB fun g hg => by
      obtain ⟨cur, hh, hb⟩ := owns_block h1 hg
      refine ⟨hb, fun cs t fr h' => ?_⟩
      rw [hh] at h'
      injection h' with h'
      injection h' with _ h2
      exact h2.symm
    refine h v' w' ⟨vs ++ news, by rw [List.length_append]; exact k1, by simp; omega, fun j hj => ?_⟩ htu
    rw [List.length_append] at hj
    by_cases hjl : j < l.length
    · have e1 : (vs ++ news).getD j .nilFunc = vs.getD j .nilFunc := by simp [List.getD, List.getElem?_append_left (show j < vs.length by omega)]
      have e2 : (l ++ m).getD j [] = l.getD j [] := by simp [List.getD, List.getElem?_append_left hjl]
      rw [e1, e2]
      exact (h3 j hjl).turned htu
    · have e1 : (vs ++ news).getD j .nilFunc = news.getD (j - l.length) .nilFunc := by simp [List.getD, List.getElem?_append_right (show vs.length ≤ j by omega), h2]
      have e2 : (l ++ m).getD j [] = m.getD (j - l.length) [] := by simp [List.getD, List.getElem?_append_right (show l.length ≤ j by omega)]
      rw [e1, e2]
      exact (n4 _ (by omega)).turned htu
theorem RecsAt.take {B : Nat} {w : World} {a : Option Addr} {l : List Bs} (h : RecsAt B w a l) (k : Nat) : RecsAt B w a (l.take k) := fun hn => by
  rw [List.length_take] at hn
  obtain ⟨b, o, ha, hb, hc⟩ := h (by omega)
  refine ⟨b, o, ha, hb, fun j hj => ?_⟩
  rw [List.length_take] at hj
  obtain ⟨v, h1, h2⟩ := hc j (by omega)
  have : (l.take k).getD j [] = l.getD j [] := by simp [List.getD, show j < k by omega]
  rw [this]
  exact ⟨v, h1, h2⟩
theorem RecsAt.drop {B : Nat} {w : World} {a : Option Addr} {l : List Bs} {cap : Nat} (h : RecsAt B w a l) (k : Nat) (hc : l.length ≤ cap) : RecsAt B w (cutAddr cap k a) (l.drop k) := fun hn => by
  rw [List.length_drop] at hn
  obtain ⟨b, o, rfl, hb, hcell⟩ := h (by omega)
  refine ⟨b, o + k, ?_, hb, fun j hj => ?_⟩
  · unfold cutAddr
    rw [if_neg (by omega)]
    simp [addr_add]
  · rw [List.length_drop] at hj
    obtain ⟨v, h1, h2⟩ := hcell (k + j) (by omega)
    have : (l.drop k).getD j [] = l.getD (k + j) [] := by simp [List.getD, List.getElem?_drop]
    rw [this]
    exact ⟨v, by rw [Nat.add_assoc]; exact h1, h2⟩

/-- Records that lie below block B. -/
def RecsLow (B : Nat) (w : World) (a : Option Addr) (l : List Bs) : Prop :=
  0 < l.length → ∃ b o, a = some ⟨b, o, none⟩ ∧ b < B ∧ ∀ j, j < l.length → ∃ a' c', w.cell? ⟨b, o + j, none⟩ = some (.slice a' (l.getD j []).length c') ∧ (a' = none → c' = 0) ∧ (l.getD j []).length ≤ c' ∧ Reads w B a' (l.getD j [])
theorem RecsLow.below {B : Nat} {w w' : World} {a : Option Addr} {l : List Bs} (h : RecsLow B w a l) (hb : Below B w w') : RecsLow B w' a l := fun hn => by
  obtain ⟨b, o, ha, hlt, hc⟩ := h hn
  refine ⟨b, o, ha, hlt, fun j hj => ?_⟩
  obtain ⟨a', c', h1, h2, h3, h4⟩ := hc j hj
  exact ⟨a', c', (hb.cell (p := ⟨b, o + j, none⟩) hlt).trans h1, h2, h3, Reads.below h4 hb⟩
theorem RecsLow.recs {B : Nat} {w : World} {a : Option Addr} {l : List Bs} (h : RecsLow B w a l) : RecsAt B w a l := fun hn => by
  obtain ⟨b, o, ha, hlt, hc⟩ := h hn
  refine ⟨b, o, ha, .inl hlt, fun j hj => ?_⟩
  obtain ⟨a', c', h1, h2, h3, h4⟩ := hc j hj
  exact ⟨_, h1, a', c', rfl, h2, h3, BytesAt.of_reads h4⟩
end Go.Proofs.YtiidohaibbdgeaaDoor
