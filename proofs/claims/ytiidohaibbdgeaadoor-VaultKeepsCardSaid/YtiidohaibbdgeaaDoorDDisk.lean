/-
  A disk in memory: what keeps it, what turns it.
-/
import Derived.Test.YtiidohaibbdgeaaDoorDSettle
import Derived.Maps.AppendAt
namespace Go.Proofs.YtiidohaibbdgeaaDoor
open Go Go.RowKit

theorem Blk.grown {w w' : World} {g : Nat} {t : TypeId} {cs : Array Value} {row : Option Nat} (h : Blk w g t cs) (hg : w.grownBy w' row) (hne : some g ≠ row) : Blk w' g t cs := (hg.block g h.lt hne).trans h
theorem owns_block {w : World} {base : Nat} {e : TypeId} {size : Nat} {v : Value} {n : Nat} {xs : List Value} (h : w.ownsRow base e size v n xs) {r : Nat} (hr : v.ownBlock = some r) : ∃ cur, w.heap[r]? = some (.cells cur e (0, 0)) ∧ base ≤ r := by
  rcases h.2 with ⟨rfl, _⟩ | ⟨g, cap, cur, rfl, hb, hh, _⟩
  · simp [Value.ownBlock] at hr
  · simp only [Value.ownBlock, Option.some.injEq] at hr
    subst hr
    exact ⟨cur, hh, hb⟩
theorem owns_same {w w' : World} {base : Nat} {e : TypeId} {size : Nat} {v : Value} {n : Nat} {xs : List Value} (h : w.ownsRow base e size v n xs) (hs : ∀ r, v.ownBlock = some r → w'.heap[r]? = w.heap[r]?) : w'.ownsRow base e size v n xs := by
  refine ⟨h.1, ?_⟩
  rcases h.2 with h0 | ⟨g, cap, cur, rfl, hb, hh, hr⟩
  · exact .inl h0
  · exact .inr ⟨g, cap, cur, rfl, hb, by rw [hs g rfl]; exact hh, hr⟩
theorem FileAt.lies {B : Nat} {w w' : World} {F : FileM} {vs vl : Value} (h : FileAt B w F vs vl) (hl : Lies B w w') (hs : ∀ r, vl.ownBlock = some r → w'.heap[r]? = w.heap[r]?) : FileAt B w' F vs vl := by
  obtain ⟨⟨a, cap, h1, h2, h3, h4, h5⟩, xs, h6, h7⟩ := h
  exact ⟨⟨a, cap, h1, h2, h3, h4, h5.rest hl⟩, xs, owns_same h6 hs, h7.rest hl⟩
theorem FileAt.row {B : Nat} {w : World} {F : FileM} {vs vl : Value} (h : FileAt B w F vs vl) {r : Nat} (hr : vl.ownBlock = some r) : ∃ cur, w.heap[r]? = some (.cells cur 112 (0, 0)) ∧ B ≤ r := by
  obtain ⟨_, xs, h6, _⟩ := h
  exact owns_block h6 hr
theorem FileAt.grown {B : Nat} {w w' : World} {F : FileM} {vs vl : Value} (h : FileAt B w F vs vl) (hB : B ≤ w.heap.size) (hb : Below w.heap.size w w') : FileAt B w' F vs vl :=
  h.lies (Lies.new hb hB) fun r hr => by
    obtain ⟨cur, hh, _⟩ := h.row hr
    exact hb.block r (heap_lt hh)
theorem DiskAt.base {B : Nat} {w : World} {g : Nat} {D : DiskM} (h : DiskAt B w g D) : B ≤ w.heap.size := by
  obtain ⟨_, _, _, _, hb, hg, _⟩ := h
  exact Nat.le_trans hg (Nat.le_of_lt hb.lt)
/-- New memory alone. -/
theorem DiskAt.grown {B : Nat} {w w' : World} {g : Nat} {D : DiskM} (h : DiskAt B w g D) (hb : Below w.heap.size w w') : DiskAt B w' g D := by
  have hB := h.base
  obtain ⟨v0, l0, v1, l1, h1, h2, h3, h4, h5⟩ := h
  exact ⟨v0, l0, v1, l1, h1.below hb h1.lt, h2, h3.grown hB hb, h4.grown hB hb, h5⟩
/-- A block of another type has turned. -/
theorem DiskAt.other {B : Nat} {w w' : World} {g k : Nat} {D : DiskM} (h : DiskAt B w g D) {cs : Array Value} {t : TypeId} (hk : w.heap[k]? = some (.cells cs t (0, 0))) (hB : B ≤ k) (ht : t ≠ 68 ∧ t ≠ 112 ∧ t ≠ 5) (hg : w.grownBy w' (some k)) (hl : Lies B w w') : DiskAt B w' g D := by
  obtain ⟨v0, l0, v1, l1, h1, h2, h3, h4, h5⟩ := h
  have hrow : ∀ (F : FileM) (vs vl : Value), FileAt B w F vs vl → ∀ r, vl.ownBlock = some r → w'.heap[r]? = w.heap[r]? := fun F vs vl hf r hr => by
    obtain ⟨cur, hh, _⟩ := hf.row hr
    refine hg.block r (heap_lt hh) (fun e => ?_)
    cases e
    rw [hk] at hh
    injection hh with hh
    injection hh with _ h2
    exact ht.2.1 h2
  refine ⟨v0, l0, v1, l1, ?_, h2, h3.lies hl (hrow _ _ _ h3), h4.lies hl (hrow _ _ _ h4), h5⟩
  refine (hg.block g h1.lt (fun e => ?_)).trans h1
  cases e
  have h1' := h1
  unfold Blk at h1'
  rw [hk] at h1'
  injection h1' with h1'
  injection h1' with _ h2
  exact ht.1 h2

theorem type_ne {w : World} {g r : Nat} {cs cur : Array Value} {t e : TypeId} (h : w.heap[g]? = some (.cells cs t (0, 0))) (k : w.heap[r]? = some (.cells cur e (0, 0))) (ht : t ≠ e) : g ≠ r := fun e' => by
  subst e'
  rw [h] at k
  injection k with k
  injection k with _ h2
  exact ht h2

/-- A row of changes that has one more. -/
theorem lies_row {B : Nat} {w w1 : World} {F : FileM} {vs vl : Value} (hf : FileAt B w F vs vl) (hB : B ≤ w.heap.size) (hgr : w.grownBy w1 vl.ownBlock) : Lies B w w1 := by
  cases hr : vl.ownBlock with
  | none => rw [hr] at hgr; exact Lies.grown_none hgr hB
  | some r =>
    rw [hr] at hgr
    obtain ⟨cur, hh, hb⟩ := hf.row hr
    exact Lies.turn hgr hb hB (fun cs t fr h => by
      rw [hh] at h
      injection h with h
      injection h with _ h2
      subst h2
      decide)
theorem lies_disk {B : Nat} {w : World} {g : Nat} {cs : Array Value} (h : Blk w g 68 cs) (hg : B ≤ g) (i : Nat) (u : Value) : Lies B w (w.setCell ⟨g, i, none⟩ u) :=
  Lies.turn (grownBy_setCell w g i u) hg (Nat.le_trans hg (Nat.le_of_lt h.lt)) (fun cs' t fr h' => by
    unfold Blk at h
    rw [h] at h'
    injection h' with h'
    injection h' with _ h2
    subst h2
    decide)
/-- The disk's own cells turn: no row does. -/
theorem FileAt.cell {B : Nat} {w : World} {g : Nat} {cs : Array Value} {F : FileM} {vs vl : Value} (hf : FileAt B w F vs vl) (h : Blk w g 68 cs) (hg : B ≤ g) (i : Nat) (u : Value) : FileAt B (w.setCell ⟨g, i, none⟩ u) F vs vl :=
  hf.lies (lies_disk h hg i u) fun r hr => by
    obtain ⟨cur, hh, _⟩ := hf.row hr
    exact Below.heap_setCell w ⟨g, i, none⟩ u r (fun e => type_ne h hh (by decide) e.symm)

theorem DiskAt.push0 {B : Nat} {w w1 : World} {g : Nat} {D : DiskM} {v0 l0 v1 l1 l' x : Value} {xs : List Value} {c : Chg}
    (h1 : Blk w g 68 #[v0, l0, v1, l1, .int .i64 D.most, .bool D.off, .bool D.fused, .int .i64 D.left]) (h2 : B ≤ g) (h3 : FileAt B w D.f0 v0 l0) (h4 : FileAt B w D.f1 v1 l1) (h5 : l0.ownBlock = none ∨ l0.ownBlock ≠ l1.ownBlock)
    (hxs : ChgsAt B w D.f0.loose xs) (hx : ChgAt B w c x) (hgr : w.grownBy w1 l0.ownBlock) (hown : w1.ownsRow B 112 1 l' (D.f0.loose.length + 1) (xs ++ [x])) (hat : l'.ownBlock = l0.ownBlock ∨ l'.ownBlock = some w.heap.size) :
    DiskAt B (w1.setCell ⟨g, 1, none⟩ l') g { D with f0 := D.f0.put c } ∧ Lies B w (w1.setCell ⟨g, 1, none⟩ l') := by
  have hB := Nat.le_trans h2 (Nat.le_of_lt h1.lt)
  have hl1 := lies_row h3 hB hgr
  have hb1 : Blk w1 g 68 #[v0, l0, v1, l1, .int .i64 D.most, .bool D.off, .bool D.fused, .int .i64 D.left] := by
    refine h1.grown hgr fun e => ?_
    obtain ⟨cur, hh, _⟩ := h3.row e.symm
    exact type_ne h1 hh (by decide) rfl
  have hl2 := lies_disk hb1 h2 1 l'
  have hl := hl1.trans hl2
  have hf1 : FileAt B w1 D.f1 v1 l1 := h4.lies hl1 fun r hr => by
    obtain ⟨cur, hh, _⟩ := h4.row hr
    refine hgr.block r (heap_lt hh) fun e => ?_
    rcases h5 with h5 | h5
    · rw [h5] at e; cases e
    · exact h5 (by rw [hr, e])
  refine ⟨⟨v0, l', v1, l1, hb1.set 1 l', h2, ?_, hf1.cell hb1 h2 1 l', ?_⟩, hl⟩
  · obtain ⟨⟨a, cap, e1, e2, e3, e4, e5⟩, _⟩ := h3
    refine ⟨⟨a, cap, e1, e2, e3, e4, e5.rest hl⟩, xs ++ [x], ?_, (hxs.snoc hx).rest hl⟩
    rw [show (D.f0.put c).loose.length = D.f0.loose.length + 1 by simp [FileM.put]]
    refine owns_same hown fun r hr => ?_
    obtain ⟨cur, hh, _⟩ := owns_block hown hr
    exact Below.heap_setCell w1 ⟨g, 1, none⟩ l' r (fun e => type_ne hb1 hh (by decide) e.symm)
  · rcases hat with hat | hat
    · rw [hat]; exact h5
    · right
      rw [hat]
      intro e
      obtain ⟨cur, hh, _⟩ := h4.row e.symm
      have := heap_lt hh
      omega
theorem DiskAt.push1 {B : Nat} {w w1 : World} {g : Nat} {D : DiskM} {v0 l0 v1 l1 l' x : Value} {xs : List Value} {c : Chg}
    (h1 : Blk w g 68 #[v0, l0, v1, l1, .int .i64 D.most, .bool D.off, .bool D.fused, .int .i64 D.left]) (h2 : B ≤ g) (h3 : FileAt B w D.f0 v0 l0) (h4 : FileAt B w D.f1 v1 l1) (h5 : l0.ownBlock = none ∨ l0.ownBlock ≠ l1.ownBlock)
    (hxs : ChgsAt B w D.f1.loose xs) (hx : ChgAt B w c x) (hgr : w.grownBy w1 l1.ownBlock) (hown : w1.ownsRow B 112 1 l' (D.f1.loose.length + 1) (xs ++ [x])) (hat : l'.ownBlock = l1.ownBlock ∨ l'.ownBlock = some w.heap.size) :
    DiskAt B (w1.setCell ⟨g, 3, none⟩ l') g { D with f1 := D.f1.put c } ∧ Lies B w (w1.setCell ⟨g, 3, none⟩ l') := by
  have hB := Nat.le_trans h2 (Nat.le_of_lt h1.lt)
  have hl1 := lies_row h4 hB hgr
  have hb1 : Blk w1 g 68 #[v0, l0, v1, l1, .int .i64 D.most, .bool D.off, .bool D.fused, .int .i64 D.left] := by
    refine h1.grown hgr fun e => ?_
    obtain ⟨cur, hh, _⟩ := h4.row e.symm
    exact type_ne h1 hh (by decide) rfl
  have hl2 := lies_disk hb1 h2 3 l'
  have hl := hl1.trans hl2
  have hf0 : FileAt B w1 D.f0 v0 l0 := h3.lies hl1 fun r hr => by
    obtain ⟨cur, hh, _⟩ := h3.row hr
    refine hgr.block r (heap_lt hh) fun e => ?_
    rcases h5 with h5 | h5
    · rw [h5] at hr; cases hr
    · exact h5 (by rw [hr, e])
  refine ⟨⟨v0, l0, v1, l', hb1.set 3 l', h2, hf0.cell hb1 h2 3 l', ?_, ?_⟩, hl⟩
  · obtain ⟨⟨a, cap, e1, e2, e3, e4, e5⟩, _⟩ := h4
    refine ⟨⟨a, cap, e1, e2, e3, e4, e5.rest hl⟩, xs ++ [x], ?_, (hxs.snoc hx).rest hl⟩
    rw [show (D.f1.put c).loose.length = D.f1.loose.length + 1 by simp [FileM.put]]
    refine owns_same hown fun r hr => ?_
    obtain ⟨cur, hh, _⟩ := owns_block hown hr
    exact Below.heap_setCell w1 ⟨g, 3, none⟩ l' r (fun e => type_ne hb1 hh (by decide) e.symm)
  · rcases hat with hat | hat
    · rw [hat]; exact h5
    · right
      rw [hat]
      intro e
      obtain ⟨cur, hh, _⟩ := h3.row e
      have := heap_lt hh
      omega
/-- A plain cell of the disk turns. -/
theorem DiskAt.plain {B : Nat} {w : World} {g : Nat} {D D' : DiskM} {v0 l0 v1 l1 u : Value} {i : Nat}
    (h1 : Blk w g 68 #[v0, l0, v1, l1, .int .i64 D.most, .bool D.off, .bool D.fused, .int .i64 D.left]) (h2 : B ≤ g) (h3 : FileAt B w D.f0 v0 l0) (h4 : FileAt B w D.f1 v1 l1) (h5 : l0.ownBlock = none ∨ l0.ownBlock ≠ l1.ownBlock)
    (e0 : D'.f0 = D.f0) (e1 : D'.f1 = D.f1) (ec : #[v0, l0, v1, l1, .int .i64 D.most, .bool D.off, .bool D.fused, .int .i64 D.left].setIfInBounds i u = #[v0, l0, v1, l1, .int .i64 D'.most, .bool D'.off, .bool D'.fused, .int .i64 D'.left]) :
    DiskAt B (w.setCell ⟨g, i, none⟩ u) g D' ∧ Lies B w (w.setCell ⟨g, i, none⟩ u) :=
  ⟨⟨v0, l0, v1, l1, by rw [← ec]; exact h1.set i u, h2, by rw [e0]; exact h3.cell h1 h2 i u, by rw [e1]; exact h4.cell h1 h2 i u, h5⟩, lies_disk h1 h2 i u⟩
end Go.Proofs.YtiidohaibbdgeaaDoor
