/-
  A vault in memory; things done one after the other.
-/
import Derived.Test.YtiidohaibbdgeaaDoorVLook
namespace Go.Proofs.YtiidohaibbdgeaaDoor
open Go Go.RowKit

/-- As Lies, but a vault's block may turn too. -/
structure LiesV (B : Nat) (w w' : World) : Prop where
  below : Below B w w'
  still : ∀ (b : Nat) (cs : Array Value) (t : TypeId) (fr : Nat × Nat), w.heap[b]? = some (Obj.cells cs t fr) → mayTurn t = false → w'.heap[b]? = some (Obj.cells cs t fr)
theorem Lies.toV {B : Nat} {w w' : World} (h : Lies B w w') : LiesV B w w' := ⟨h.below, fun b cs t fr hb ht => h.still b cs t fr hb ht⟩
theorem LiesV.refl (B : Nat) (w : World) : LiesV B w w := (Lies.refl B w).toV
theorem LiesV.trans {B : Nat} {a b c : World} (h : LiesV B a b) (k : LiesV B b c) : LiesV B a c := ⟨h.below.trans k.below, fun g cs t fr hg ht => k.still g cs t fr (h.still g cs t fr hg ht) ht⟩
theorem LiesV.size {B : Nat} {a b : World} (h : LiesV B a b) : a.heap.size ≤ b.heap.size := h.below.size
theorem Stays.restV {B : Nat} {w w' : World} {b : Nat} (h : Stays B w b) (hr : LiesV B w w') : Stays B w' b := by
  rcases h with h | ⟨cs, t, fr, h, ht⟩
  · exact .inl h
  · exact .inr ⟨cs, t, fr, hr.still b cs t fr h ht, ht⟩
theorem Stays.cellV {B : Nat} {w w' : World} {b o : Nat} (h : Stays B w b) (hr : LiesV B w w') : w'.cell? ⟨b, o, none⟩ = w.cell? ⟨b, o, none⟩ := by
  rcases h with h | ⟨cs, t, fr, h, ht⟩
  · exact hr.below.cell (p := ⟨b, o, none⟩) h
  · have h2 := hr.still b cs t fr h ht
    simp only [World.cell?, h, h2]
theorem StaysT.restV {B : Nat} {w w' : World} {ts : List TypeId} {b : Nat} (h : StaysT B w ts b) (hr : LiesV B w w') (ht : ∀ t ∈ ts, mayTurn t = false := by decide) : StaysT B w' ts b := by
  rcases h with h | ⟨t, cs, fr, hm, h⟩
  · exact .inl h
  · exact .inr ⟨t, cs, fr, hm, hr.still b cs t fr h (ht t hm)⟩
theorem StaysT.cellV {B : Nat} {w w' : World} {ts : List TypeId} {b o : Nat} (h : StaysT B w ts b) (hr : LiesV B w w') (ht : ∀ t ∈ ts, mayTurn t = false := by decide) : w'.cell? ⟨b, o, none⟩ = w.cell? ⟨b, o, none⟩ := by
  rcases h with h | ⟨t, cs, fr, hm, h⟩
  · exact hr.below.cell (p := ⟨b, o, none⟩) h
  · have h2 := hr.still b cs t fr h (ht t hm)
    simp only [World.cell?, h, h2]
theorem BytesAt.restV {B : Nat} {w w' : World} {a : Option Addr} {xs : Bs} (h : BytesAt B w a xs) (hr : LiesV B w w') : BytesAt B w' a xs := fun hn => by
  obtain ⟨b, o, ha, hs, hc⟩ := h hn
  exact ⟨b, o, ha, hs.restV hr, fun j hj => (hs.cellV hr).trans (hc j hj)⟩
theorem SliceIs.restV {B : Nat} {w w' : World} {v : Value} {xs : Bs} (h : SliceIs B w v xs) (hl : LiesV B w w') : SliceIs B w' v xs := by
  obtain ⟨a, cap, h1, h2, h3, h4⟩ := h
  exact ⟨a, cap, h1, h2, h3, h4.restV hl⟩
theorem RecsAt.restV {B : Nat} {w w' : World} {a : Option Addr} {l : List Bs} (h : RecsAt B w a l) (hl : LiesV B w w') : RecsAt B w' a l := fun hn => by
  obtain ⟨b, o, ha, hs, hc⟩ := h hn
  refine ⟨b, o, ha, hs.restV hl, fun j hj => ?_⟩
  obtain ⟨v, h1, h2⟩ := hc j hj
  exact ⟨v, (hs.cellV hl).trans h1, h2.restV hl⟩
theorem Box.restV {B : Nat} {w w' : World} {b : Nat} {t : TypeId} {v : Value} (h : Box w b t v) (hl : LiesV B w w') : Box w' b t v := ⟨hl.still b _ t _ h.1 h.2, h.2⟩
/-- A vault's block has turned. -/
theorem LiesV.turn {B : Nat} {w : World} {g : Nat} {cs : Array Value} (h : Blk w g 77 cs) (hg : B ≤ g) (i : Nat) (u : Value) : LiesV B w (w.setCell ⟨g, i, none⟩ u) :=
  ⟨below_set (Below.refl _ _) hg i u, fun b cs' t fr hb ht => (Below.heap_setCell w ⟨g, i, none⟩ u b (fun e => by
    simp only at e
    subst e
    rw [h] at hb
    injection hb with hb
    injection hb with _ h2
    subst h2
    revert ht
    decide)).trans hb⟩

/-- A vault: its file, its generation, its records; has the disk told an error? -/
structure VaultM where
  file : Nat
  gen : Nat
  n : Nat
  broken : Bool
def VaultM.cells (V : VaultM) (dg : Nat) : Array Value := #[.pointer (some ⟨dg, 0, none⟩), .int .i64 V.file, .int .u64 V.gen, .int .i64 V.n, .bool V.broken]
def VaultAt (B : Nat) (w : World) (vg dg : Nat) (V : VaultM) : Prop := Blk w vg 77 (V.cells dg) ∧ B ≤ vg
theorem VaultAt.lies {B : Nat} {w w' : World} {vg dg : Nat} {V : VaultM} (h : VaultAt B w vg dg V) (hl : Lies B w w') : VaultAt B w' vg dg V := ⟨hl.stillD _ _ _ _ h.1 (by decide), h.2⟩

/-- Things done one after the other, up to the first error. -/
def runL {σ : Type} : List (σ → σ × Int) → σ → σ × Int
  | [], s => (s, 0)
  | f :: fs, s => if (f s).2 ≠ 0 then f s else runL fs (f s).1
theorem runL_append {σ : Type} (fs gs : List (σ → σ × Int)) (s : σ) : runL (fs ++ gs) s = if (runL fs s).2 ≠ 0 then runL fs s else runL gs (runL fs s).1 := by
  induction fs generalizing s with
  | nil => simp [runL]
  | cons g fs ih =>
    simp only [List.cons_append, runL]
    by_cases h : (g s).2 = 0
    · simp only [h, ne_eq, not_true_eq_false, if_false, ih]
    · simp only [h, ne_eq, not_false_eq_true, if_true]
theorem runL_one {σ : Type} (f : σ → σ × Int) (s : σ) : runL [f] s = f s := by
  simp only [runL]
  split
  · rfl
  · rename_i h
    exact Prod.ext rfl (by simpa using (Classical.not_not.mp h).symm)
theorem runL_step {σ : Type} {ms : List (σ → σ × Int)} {s : σ} {i : Nat} (hi : i < ms.length) (h0 : (runL (ms.take i) s).2 = 0) (d : σ → σ × Int) : runL (ms.take (i + 1)) s = ms.getD i d (runL (ms.take i) s).1 := by
  rw [take_one hi d, runL_append, if_neg (by simpa using h0), runL_one]
theorem runL_stop {σ : Type} {ms : List (σ → σ × Int)} {s : σ} {i : Nat} (h : (runL (ms.take i) s).2 ≠ 0) : runL ms s = runL (ms.take i) s := by
  conv => lhs; rw [← List.take_append_drop i ms]
  rw [runL_append, if_pos h]

theorem all_st {σ : Type} (At : σ → World → Prop) (Ok : Nat → σ → Prop) (fs : List (Nat × Array Value)) (ms : List (σ → σ × Int)) (d : σ → σ × Int) (hl : fs.length = ms.length) (hlen : fs.length ≤ 1000) (B b o cap : Nat) (w : World) (s : σ)
    (hfn : ∀ i, i < fs.length → ∀ wx, (callFunc (fs.getD i (0, #[])).1 (fs.getD i (0, #[])).2).run Tryd.prog wx = .ok (.enter (fs.getD i (0, #[])).1 (fs.getD i (0, #[])).2) wx)
    (hst : Stays B w b) (hcell : ∀ i, i < fs.length → w.cell? ⟨b, o + i, none⟩ = some (.func (.func (fs.getD i (0, #[])).1) #[] (fs.getD i (0, #[])).2))
    (h0 : At s w) (hok : Ok 0 s)
    (hstep : ∀ i, i < fs.length → ∀ wx s', Ok i s' → At s' wx → LiesV B w wx → Calls Tryd.prog (fs.getD i (0, #[])).1 (fs.getD i (0, #[])).2 wx fun e w' => e = .returned (.int .i64 (ms.getD i d s').2) ∧ At (ms.getD i d s').1 w' ∧ LiesV B wx w')
    (hoks : ∀ i, i < fs.length → ∀ s', Ok i s' → (ms.getD i d s').2 = 0 → Ok (i + 1) (ms.getD i d s').1) :
    Calls Tryd.prog 29 #[.slice (some ⟨b, o, none⟩) fs.length cap] w fun e w' => e = .returned (.int .i64 (runL ms s).2) ∧ At (runL ms s).1 w' ∧ LiesV B w w' := by
  refine (all_any fs hlen (fun i wx => (runL (ms.take i) s).2 = 0 ∧ At (runL (ms.take i) s).1 wx ∧ Ok i (runL (ms.take i) s).1 ∧ LiesV B w wx)
    (fun x wx => x = (runL ms s).2 ∧ At (runL ms s).1 wx ∧ LiesV B w wx) b o cap w hfn (fun i hi wx hI => ?_) ?_ (fun i hi wx hI => ?_)).mono ?_
  · rw [hst.cellV hI.2.2.2]
    exact hcell i hi
  · exact ⟨rfl, h0, hok, LiesV.refl _ _⟩
  · obtain ⟨k1, k2, k3, k4⟩ := hI
    have hi' : i < ms.length := by omega
    have hs := runL_step hi' k1 d
    refine (hstep i hi wx _ k3 k2 k4).mono ?_
    rintro e w' ⟨rfl, h2, h3⟩
    have h4 := hoks i hi _ k3
    rw [← hs] at h2 h4 ⊢
    by_cases hz : (runL (ms.take (i + 1)) s).2 = 0
    · exact .inl ⟨by rw [hz], hz, h2, h4 hz, k4.trans h3⟩
    · refine .inr ⟨_, hz, rfl, ?_⟩
      rw [runL_stop hz]
      exact ⟨rfl, h2, k4.trans h3⟩
  · rintro e w' h
    rcases h with ⟨rfl, h1, h2, _, h3⟩ | ⟨x, hx, rfl, h1, h2, h3⟩
    · rw [show fs.length = ms.length from hl, List.take_length] at h1 h2
      exact ⟨by rw [h1], h2, h3⟩
    · exact ⟨by rw [h1], h2, h3⟩
end Go.Proofs.YtiidohaibbdgeaaDoor
