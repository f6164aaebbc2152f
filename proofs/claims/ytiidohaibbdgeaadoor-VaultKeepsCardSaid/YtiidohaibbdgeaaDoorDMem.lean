/-
  What lies in memory: bytes that stay, and what may turn: blocks of a disk, of its changes, of a vault.
-/
import Derived.Test.YtiidohaibbdgeaaDoorDModel
import Derived.Test.YtiidohaibbdgeaaDoorRefText
namespace Go.Proofs.YtiidohaibbdgeaaDoor
open Go Go.RowKit

/-- Blocks of these types may turn in a call. -/
def mayTurn (t : TypeId) : Bool := t == 68 || t == 112 || t == 77

/-- .. in a disk's call. -/
def diskTurn (t : TypeId) : Bool := t == 68 || t == 112
theorem not_turn {t : TypeId} (h : mayTurn t = false) : diskTurn t = false := by
  unfold mayTurn at h
  unfold diskTurn
  simp only [Bool.or_eq_false_iff] at h ⊢
  exact h.1
/-- Below block B nothing has turned; above it blocks of a disk's types alone. -/
structure Lies (B : Nat) (w w' : World) : Prop where
  below : Below B w w'
  stillD : ∀ (b : Nat) (cs : Array Value) (t : TypeId) (fr : Nat × Nat), w.heap[b]? = some (Obj.cells cs t fr) → diskTurn t = false → w'.heap[b]? = some (Obj.cells cs t fr)
theorem Lies.still {B : Nat} {w w' : World} (h : Lies B w w') (b : Nat) (cs : Array Value) (t : TypeId) (fr : Nat × Nat) (hb : w.heap[b]? = some (Obj.cells cs t fr)) (ht : mayTurn t = false) : w'.heap[b]? = some (Obj.cells cs t fr) := h.stillD b cs t fr hb (not_turn ht)
theorem Lies.refl (B : Nat) (w : World) : Lies B w w := ⟨Below.refl _ _, fun _ _ _ _ h _ => h⟩
theorem Lies.trans {B : Nat} {a b c : World} (h : Lies B a b) (k : Lies B b c) : Lies B a c := ⟨h.below.trans k.below, fun g cs t fr hg ht => k.stillD g cs t fr (h.stillD g cs t fr hg ht) ht⟩
theorem Lies.size {B : Nat} {a b : World} (h : Lies B a b) : a.heap.size ≤ b.heap.size := h.below.size
theorem heap_lt {w : World} {b : Nat} {o : Obj} (h : w.heap[b]? = some o) : b < w.heap.size := (Array.getElem?_eq_some_iff.1 h).1
/-- All that was there is as it was. -/
theorem Lies.of_below {B n : Nat} {w w' : World} (h : Below n w w') (hn : w.heap.size ≤ n) (hB : B ≤ n) : Lies B w w' :=
  ⟨h.mono hB, fun b _ _ _ hb _ => (h.block b (Nat.lt_of_lt_of_le (heap_lt hb) hn)).trans hb⟩
theorem Lies.new {B : Nat} {w w' : World} (h : Below w.heap.size w w') (hB : B ≤ w.heap.size) : Lies B w w' := Lies.of_below h (Nat.le_refl _) hB
theorem Lies.alloc {B : Nat} {a w : World} (h : Lies B a w) (hB : B ≤ a.heap.size) (o : Obj) : Lies B a (w.alloc o) :=
  h.trans (Lies.new ((Below.refl _ _).alloc (Nat.le_refl _) _) (Nat.le_trans hB h.size))
theorem Lies.drew {B : Nat} {a w : World} (h : Lies B a w) : Lies B a w.drew := ⟨h.below.drew, h.stillD⟩
theorem Lies.drewN {B : Nat} {a w : World} (h : Lies B a w) (n : Nat) : Lies B a (w.drewN n) := ⟨Below.drewN h.below n, h.stillD⟩
/-- A block that may turn has turned. -/
theorem Lies.turn {B : Nat} {w w' : World} {g : Nat} (hg : w.grownBy w' (some g)) (hB : B ≤ g) (hBw : B ≤ w.heap.size) (ht : ∀ (cs : Array Value) (t : TypeId) (fr : Nat × Nat), w.heap[g]? = some (Obj.cells cs t fr) → diskTurn t = true) : Lies B w w' :=
  ⟨(Below.refl _ _).grown hg hBw (fun k e => by cases e; exact hB), fun b cs t fr hb hf => by
    refine (hg.block b (heap_lt hb) (fun e => ?_)).trans hb
    cases e
    rw [ht cs t fr hb] at hf
    cases hf⟩
theorem Lies.grown_none {B : Nat} {w w' : World} (hg : w.grownBy w' none) (hB : B ≤ w.heap.size) : Lies B w w' :=
  Lies.new ((Below.refl _ _).grown hg (Nat.le_refl _) (fun k e => by cases e)) hB

/-- A block that stays as it is. -/
def Stays (B : Nat) (w : World) (b : Nat) : Prop := b < B ∨ ∃ (cs : Array Value) (t : TypeId) (fr : Nat × Nat), w.heap[b]? = some (Obj.cells cs t fr) ∧ mayTurn t = false
theorem Stays.rest {B : Nat} {w w' : World} {b : Nat} (h : Stays B w b) (hr : Lies B w w') : Stays B w' b := by
  rcases h with h | ⟨cs, t, fr, h, ht⟩
  · exact .inl h
  · exact .inr ⟨cs, t, fr, hr.still b cs t fr h ht, ht⟩
theorem Stays.cell {B : Nat} {w w' : World} {b o : Nat} (h : Stays B w b) (hr : Lies B w w') : w'.cell? ⟨b, o, none⟩ = w.cell? ⟨b, o, none⟩ := by
  rcases h with h | ⟨cs, t, fr, h, ht⟩
  · exact hr.below.cell (p := ⟨b, o, none⟩) h
  · have h2 := hr.still b cs t fr h ht
    simp only [World.cell?, h, h2]

/-- A block of one type that stays. -/
def StaysT (B : Nat) (w : World) (ts : List TypeId) (b : Nat) : Prop := b < B ∨ ∃ (t : TypeId) (cs : Array Value) (fr : Nat × Nat), t ∈ ts ∧ w.heap[b]? = some (Obj.cells cs t fr)
theorem StaysT.of {B : Nat} {w : World} {ts : List TypeId} {b : Nat} {t : TypeId} {cs : Array Value} {fr : Nat × Nat} (h : w.heap[b]? = some (Obj.cells cs t fr)) (ht : t ∈ ts := by decide) : StaysT B w ts b := .inr ⟨t, cs, fr, ht, h⟩
theorem StaysT.rest {B : Nat} {w w' : World} {ts : List TypeId} {b : Nat} (h : StaysT B w ts b) (hr : Lies B w w') (ht : ∀ t ∈ ts, mayTurn t = false := by decide) : StaysT B w' ts b := by
  rcases h with h | ⟨t, cs, fr, hm, h⟩
  · exact .inl h
  · exact .inr ⟨t, cs, fr, hm, hr.still b cs t fr h (ht t hm)⟩
theorem StaysT.cell {B : Nat} {w w' : World} {ts : List TypeId} {b o : Nat} (h : StaysT B w ts b) (hr : Lies B w w') (ht : ∀ t ∈ ts, mayTurn t = false := by decide) : w'.cell? ⟨b, o, none⟩ = w.cell? ⟨b, o, none⟩ := by
  rcases h with h | ⟨t, cs, fr, hm, h⟩
  · exact hr.below.cell (p := ⟨b, o, none⟩) h
  · have h2 := hr.still b cs t fr h (ht t hm)
    simp only [World.cell?, h, h2]

/-- The bytes of a slice, in a block that stays. -/
def BytesAt (B : Nat) (w : World) (a : Option Addr) (xs : Bs) : Prop :=
  0 < xs.length → ∃ b o, a = some ⟨b, o, none⟩ ∧ StaysT B w [5, 105] b ∧ ∀ j, j < xs.length → w.cell? ⟨b, o + j, none⟩ = some (B8 (xs.getD j 0))
theorem BytesAt.rest {B : Nat} {w w' : World} {a : Option Addr} {xs : Bs} (h : BytesAt B w a xs) (hr : Lies B w w') : BytesAt B w' a xs := fun hn => by
  obtain ⟨b, o, ha, hs, hc⟩ := h hn
  exact ⟨b, o, ha, hs.rest hr, fun j hj => (hs.cell hr).trans (hc j hj)⟩
theorem cell_block {w : World} {b o : Nat} {v : Value} (h : w.cell? ⟨b, o, none⟩ = some v) : b < w.heap.size := by
  rcases Nat.lt_or_ge b w.heap.size with hl | hl
  · exact hl
  · simp [World.cell?, Array.getElem?_eq_none hl] at h
theorem BytesAt.reads {B : Nat} {w : World} {a : Option Addr} {xs : Bs} (h : BytesAt B w a xs) : Reads w w.heap.size a xs := fun hn => by
  obtain ⟨b, o, ha, _, hc⟩ := h hn
  exact ⟨b, o, ha, cell_block (hc 0 hn), hc⟩
theorem BytesAt.nil (B : Nat) (w : World) (a : Option Addr) : BytesAt B w a [] := fun h => by simp at h
theorem BytesAt.of_reads {B : Nat} {w : World} {a : Option Addr} {xs : Bs} (h : Reads w B a xs) : BytesAt B w a xs := fun hn => by
  obtain ⟨b, o, ha, hb, hc⟩ := h hn
  exact ⟨b, o, ha, .inl hb, hc⟩
theorem mayTurn_u8 : mayTurn 5 = false := by decide
/-- .. of a row of one's own. -/
theorem BytesAt.of_own {B base : Nat} {w : World} {v : Value} {xs : Bs} (h : OwnBytes w base v xs) : ∃ a cap, v = .slice a xs.length cap ∧ (a = none → cap = 0) ∧ xs.length ≤ cap ∧ cap ≤ maxLen ∧ BytesAt B w a xs := by
  rcases h.2 with ⟨rfl, h0⟩ | ⟨g, cap, cur, rfl, hg, hh, hc, hm, _⟩
  · exact ⟨none, 0, by rw [h0], fun _ => rfl, by omega, by unfold maxLen; omega, fun hn => by omega⟩
  · refine ⟨some ⟨g, 0, none⟩, cap, rfl, (fun h => by cases h), hc, hm, fun hn => ⟨g, 0, rfl, .of hh, fun j hj => ?_⟩⟩
    rw [Nat.zero_add, World.ownsRow.cellAt h j (by omega)]
    simp [List.getD, hj]
theorem BytesAt.take {B : Nat} {w : World} {a : Option Addr} {xs : Bs} (h : BytesAt B w a xs) (n : Nat) : BytesAt B w a (xs.take n) := fun hn => by
  rw [List.length_take] at hn
  obtain ⟨b, o, ha, hb, hc⟩ := h (by omega)
  refine ⟨b, o, ha, hb, fun j hj => ?_⟩
  rw [List.length_take] at hj
  rw [hc j (by omega)]
  simp [List.getD, show j < n by omega]
theorem BytesAt.drop {B : Nat} {w : World} {a : Option Addr} {xs : Bs} {cap : Nat} (h : BytesAt B w a xs) (n : Nat) (hc : xs.length ≤ cap) : BytesAt B w (cutAddr cap n a) (xs.drop n) := fun hn => by
  rw [List.length_drop] at hn
  obtain ⟨b, o, rfl, hb, hcell⟩ := h (by omega)
  refine ⟨b, o + n, ?_, hb, fun j hj => ?_⟩
  · unfold cutAddr
    rw [if_neg (by omega)]
    simp [addr_add]
  · rw [List.length_drop] at hj
    rw [Nat.add_assoc, hcell (n + j) (by omega)]
    simp [List.getD, List.getElem?_drop]

/-- A change, as a value. -/
def ChgAt (B : Nat) (w : World) (c : Chg) (v : Value) : Prop := match c with
  | .wr x => ∃ a cap, v = .iface 88 (.agg #[.slice a x.length cap]) ∧ (a = none → cap = 0) ∧ x.length ≤ cap ∧ cap ≤ maxLen ∧ BytesAt B w a x
  | .cut n => v = .iface 85 (.agg #[.int .i64 n]) ∧ n ≤ 9223372036854775807
theorem ChgAt.rest {B : Nat} {w w' : World} {c : Chg} {v : Value} (h : ChgAt B w c v) (hr : Lies B w w') : ChgAt B w' c v := by
  cases c with
  | wr x =>
    obtain ⟨a, cap, hv, h1, h2, h3, h4⟩ := h
    exact ⟨a, cap, hv, h1, h2, h3, h4.rest hr⟩
  | cut n => exact h
def ChgsAt (B : Nat) (w : World) : List Chg → List Value → Prop
  | [], [] => True
  | c :: cs, v :: vs => ChgAt B w c v ∧ ChgsAt B w cs vs
  | _, _ => False
theorem ChgsAt.rest {B : Nat} {w w' : World} : ∀ {cs : List Chg} {vs : List Value}, ChgsAt B w cs vs → Lies B w w' → ChgsAt B w' cs vs
  | [], [], _, _ => trivial
  | _ :: _, _ :: _, ⟨h, hs⟩, hr => ⟨h.rest hr, ChgsAt.rest hs hr⟩
theorem ChgsAt.length {B : Nat} {w : World} : ∀ {cs : List Chg} {vs : List Value}, ChgsAt B w cs vs → vs.length = cs.length
  | [], [], _ => rfl
  | _ :: _, _ :: _, ⟨_, hs⟩ => by simp [ChgsAt.length hs]
theorem ChgsAt.snoc {B : Nat} {w : World} {c : Chg} {v : Value} (hc : ChgAt B w c v) : ∀ {cs : List Chg} {vs : List Value}, ChgsAt B w cs vs → ChgsAt B w (cs ++ [c]) (vs ++ [v])
  | [], [], _ => ⟨hc, trivial⟩
  | _ :: _, _ :: _, ⟨h, hs⟩ => ⟨h, ChgsAt.snoc hc hs⟩
theorem ChgsAt.get {B : Nat} {w : World} : ∀ {cs : List Chg} {vs : List Value} {k : Nat}, ChgsAt B w cs vs → k < cs.length → ∃ c v, cs[k]? = some c ∧ vs[k]? = some v ∧ ChgAt B w c v
  | c :: cs, v :: vs, 0, ⟨h, _⟩, _ => ⟨c, v, rfl, rfl, h⟩
  | _ :: cs, _ :: vs, k + 1, ⟨_, hs⟩, hk => by
    obtain ⟨c, v, h1, h2, h3⟩ := hs.get (k := k) (by simpa using hk)
    exact ⟨c, v, by simpa using h1, by simpa using h2, h3⟩

/-- A file: its two values. -/
def FileAt (B : Nat) (w : World) (F : FileM) (vs vl : Value) : Prop :=
  (∃ a cap, vs = .slice a F.sure.length cap ∧ (a = none → cap = 0) ∧ F.sure.length ≤ cap ∧ cap ≤ maxLen ∧ BytesAt B w a F.sure) ∧
  ∃ xs, w.ownsRow B 112 1 vl F.loose.length xs ∧ ChgsAt B w F.loose xs

/-- A disk: block g. -/
def DiskAt (B : Nat) (w : World) (g : Nat) (D : DiskM) : Prop :=
  ∃ v0 l0 v1 l1, Blk w g 68 #[v0, l0, v1, l1, .int .i64 D.most, .bool D.off, .bool D.fused, .int .i64 D.left] ∧ B ≤ g ∧ FileAt B w D.f0 v0 l0 ∧ FileAt B w D.f1 v1 l1 ∧
    (l0.ownBlock = none ∨ l0.ownBlock ≠ l1.ownBlock)
end Go.Proofs.YtiidohaibbdgeaaDoor
