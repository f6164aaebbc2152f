/-
  A row of entries of the call's own; 'append' of entries that can be read.
-/
import Derived.Test.YtbmndibhalbioaaDoorWorks
namespace Go.Proofs.YtbmndibhalbioaaDoor
open Go Go.RowKit

/-- The cells of entries. -/
def cellsOf : List Ent → List Value
  | [] => []
  | e :: l => (entCells e).toList ++ cellsOf l
theorem cellsOf_length (l : List Ent) : (cellsOf l).length = l.length * 33 := by
  induction l with
  | nil => rfl
  | cons e l ih => simp only [cellsOf, List.length_append, ih, Array.length_toList, entCells_size, List.length_cons]; omega
theorem cellsOf_append (a b : List Ent) : cellsOf (a ++ b) = cellsOf a ++ cellsOf b := by
  induction a with
  | nil => rfl
  | cons e a ih => simp [cellsOf, ih]
theorem cellsOf_get : ∀ (l : List Ent) (j q : Nat), j < l.length → q < 33 → (cellsOf l)[j * 33 + q]? = (entCells (entAt l j))[q]?
  | [], _, _, h, _ => by simp at h
  | e :: l, 0, q, _, hq => by
    rw [cellsOf, List.getElem?_append_left (by rw [Array.length_toList, entCells_size]; omega)]
    simp [entAt]
  | e :: l, j + 1, q, h, hq => by
    have hj : j < l.length := by simpa using h
    rw [cellsOf, List.getElem?_append_right (by rw [Array.length_toList, entCells_size]; omega), Array.length_toList, entCells_size, show (j + 1) * 33 + q - 33 = j * 33 + q by omega, cellsOf_get l j q hj hq]
    simp [entAt]
theorem cellsOf_one (l : List Ent) : ∀ u ∈ cellsOf l, u.oneCell' = true := by
  induction l with
  | nil => intro u h; cases h
  | cons e l ih =>
    intro u h
    rw [cellsOf, List.mem_append] at h
    rcases h with h | h
    · exact (Array.all_eq_true_iff_forall_mem.1 (entCells_one e)) u (by simpa using h)
    · exact ih u h

def OwnEnts (w : World) (base : Nat) (v : Value) (l : List Ent) : Prop := w.ownsRow base 29 33 v l.length (cellsOf l)
theorem OwnEnts.empty (w : World) : OwnEnts (w.alloc (.cells #[] 29)) w.heap.size (.slice (some ⟨w.heap.size, 0, none⟩) 0 0) [] :=
  World.ownsRow_lit (base := w.heap.size) (e := 29) (size := 33) w #[] 0 (Nat.le_refl _) (by unfold maxLen; omega) rfl
theorem OwnEnts.form {w : World} {base : Nat} {v : Value} {l : List Ent} (h : OwnEnts w base v l) : ∃ a cap, v = .slice a l.length cap ∧ (a = none → cap = 0) ∧ l.length ≤ cap ∧ EntsAt w w.heap.size a l := by
  rcases h.2 with ⟨rfl, h0⟩ | ⟨g, cap, cur, rfl, hg, hh, hc, _⟩
  · exact ⟨none, 0, by rw [h0], fun _ => rfl, by omega, fun hn => by omega⟩
  · refine ⟨some ⟨g, 0, none⟩, cap, rfl, (fun h => by cases h), hc, fun hn => ⟨g, 0, rfl, ?_, fun j hj => ?_⟩⟩
    · rcases Nat.lt_or_ge g w.heap.size with hl | hl
      · exact hl
      · rw [Array.getElem?_eq_none hl] at hh; cases hh
    · have hcell : ∀ q, q < 33 → w.cell? ⟨g, j * 33 + q, none⟩ = (entCells (entAt l j))[q]? := fun q hq => by
        rw [World.ownsRow.cellAt h (j * 33 + q) (by omega), cellsOf_get l j q hj hq]
      refine ⟨by rw [Nat.zero_add]; have := hcell 0 (by omega); rw [Nat.add_zero] at this; rw [this]; rfl, fun q v hq => ?_⟩
      have hq32 : q < 32 := by
        have := (List.getElem?_eq_some_iff.1 hq).1
        rwa [hashCells_length] at this
      rw [show 0 + j * 33 + 1 + q = j * 33 + (q + 1) by omega, hcell (q + 1) (by omega)]
      simpa [entCells] using hq

/-- 'append' of entries that can be read. -/
theorem wpList_append_ents {w : World} {ops : Array Oper} {rest : List Oper} {o : Oper} {a : Act} {Q : Exit → Act → World → Prop} (hgd : o.guard = none) (s x : Operand)
    (ho : o.op = .call { callee := .builtin .append, args := #[s, x], argTypes := #[22, 22] })
    (base : Nat) (v : Value) (L : List Ent) (hs : a.eval s = v) (hown : OwnEnts w base v L)
    (ad : Option Addr) (c B : Nat) (l : List Ent) (hx : a.eval x = .slice ad l.length c) (hr : EntsAt w B ad l) (hc : ad = none → c = 0)
    (hlen : L.length + l.length ≤ 1000000) (hbase : base ≤ w.heap.size) (B0 : Nat) (w0 : World) (hB : Below B0 w0 w) (hB0 : B0 ≤ base)
    (h : ∀ v' w', OwnEnts w' base v' (L ++ l) → w.grownBy w' v.ownBlock → Below B0 w0 w' → wpList Tryd.prog ops Q rest (a.put o.dst v') w') : wpList Tryd.prog ops Q (o :: rest) a w := by
  obtain ⟨i29, hi29, hz29, hs29, hy29⟩ := info_parts info_ent
  cases ad with
  | none =>
    have h0 : l = [] := by
      by_cases hl : 0 < l.length
      · obtain ⟨b, o, he, _⟩ := hr hl; cases he
      · exact List.eq_nil_of_length_eq_zero (by omega)
    subst h0
    have hc' := hc rfl
    subst hc'
    exact wpList_append_own_none hgd s x 22 ho base 29 i29 33 Tryd.underlying22 hi29 v L.length (cellsOf L) hs hown hx (h v w (by simpa using hown) ⟨rfl, rfl, rfl, Nat.le_refl _, fun _ _ _ => rfl⟩ hB)
  | some ad =>
    refine wpList_append_own w hgd s x 22 ho base 29 i29 _ 33 40 Tryd.underlying22 hi29 hz29 hs29 hy29 (entCells_size _) (by decide) v L.length (cellsOf L) hs hown ad l.length c (cellsOf l) hx (cellsOf_length l) ?_ (cellsOf_one l) (by unfold maxLen; omega) (by omega) hbase ?_
    · intro j u hu
      have hj : j < l.length * 33 := by
        have := (List.getElem?_eq_some_iff.1 hu).1
        rwa [cellsOf_length] at this
      obtain ⟨b, o, he, _, hcell⟩ := hr (by omega)
      injection he with he
      subst he
      have hd : j = j / 33 * 33 + j % 33 := by omega
      have hjl : j / 33 < l.length := by omega
      obtain ⟨h1, h2⟩ := hcell (j / 33) hjl
      have hrg := ent_range h1 h2
      rw [hd, cellsOf_get l _ _ hjl (by omega)] at hu
      rw [addr_add, show o + j = o + j / 33 * 33 + j % 33 by omega]
      exact hrg (j % 33) u (by simpa using hu)
    · intro v' w' h1 h2 _
      refine h v' w' ?_ h2 (hB.grown h2 (Nat.le_trans hB0 hbase) fun k hk => Nat.le_trans hB0 (own_ge hown k hk))
      unfold OwnEnts
      rw [List.length_append, cellsOf_append]
      exact h1
end Go.Proofs.YtbmndibhalbioaaDoor
