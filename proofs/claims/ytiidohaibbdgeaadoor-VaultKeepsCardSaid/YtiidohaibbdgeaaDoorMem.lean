/-
  Small words for memory: a block that is known whole, and what keeps it.
-/
import Derived.WalkKit
import Derived.WalkSpells
import Derived.WalkLawsBesides
import Derived.Deep.Draws
import Derived.Laws.CopyOwn
import Derived.Deep.MidRow
import Derived.Lib.Hide
namespace Go.Proofs.YtiidohaibbdgeaaDoor
open Go.RowKit

/-- Block g holds just these cells of this type; none is frozen. -/
def Blk (w : World) (g : Nat) (t : TypeId) (cs : Array Value) : Prop := w.heap[g]? = some (.cells cs t (0, 0))

section
variable {w w' : World} {g : Nat} {t : TypeId} {cs : Array Value}
theorem Blk.lt (h : Blk w g t cs) : g < w.heap.size := by
  unfold Blk at h
  by_cases hl : g < w.heap.size
  · exact hl
  · rw [Array.getElem?_eq_none (by omega)] at h; cases h
theorem Blk.cell (h : Blk w g t cs) (i : Nat) : w.cell? ⟨g, i, none⟩ = cs[i]? := by
  unfold Blk at h; simp [World.cell?, h]
theorem Blk.free (h : Blk w g t cs) (i : Nat) : w.frozen? ⟨g, i, none⟩ = false := by
  unfold Blk at h; simp [World.frozen?, h]
theorem Blk.new (w : World) (t : TypeId) (cs : Array Value) : Blk (w.alloc (.cells cs t)) w.heap.size t cs := heap_alloc_new w _
theorem Blk.alloc (h : Blk w g t cs) (o : Obj) : Blk (w.alloc o) g t cs := (Below.heap_alloc w o g h.lt).trans h
theorem Blk.drew (h : Blk w g t cs) : Blk w.drew g t cs := h
theorem Blk.drewN (h : Blk w g t cs) (n : Nat) : Blk (w.drewN n) g t cs := h
theorem Blk.set (h : Blk w g t cs) (i : Nat) (u : Value) : Blk (w.setCell ⟨g, i, none⟩ u) g t (cs.setIfInBounds i u) := by
  unfold Blk at h ⊢; simp [World.setCell, Array.getElem?_modify, h]
theorem Blk.far (h : Blk w g t cs) {p : Addr} (hp : g ≠ p.block) (u : Value) : Blk (w.setCell p u) g t cs := (Below.heap_setCell w p u g hp).trans h
theorem Blk.below {B : Nat} (h : Blk w g t cs) (hb : Below B w w') (hg : g < B) : Blk w' g t cs := (hb.block g hg).trans h
end

theorem Blk.row {w : World} {g : Nat} {t : TypeId} {old : Array Value} (h : Blk w g t old) (cs : Array Value) : Blk (w.setRow g cs) g t cs := setRow_heap w g old cs t _ h
theorem Blk.row_far {w : World} {g g' : Nat} {t : TypeId} {cs : Array Value} (h : Blk w g t cs) (hne : g ≠ g') (x : Array Value) : Blk (w.setRow g' x) g t cs := (setRow_other w g' g x hne).trans h
theorem Below.setRow {B : Nat} {a w : World} (h : Below B a w) {g : Nat} (hg : B ≤ g) (cs : Array Value) : Below B a (w.setRow g cs) := below_setRow h hg cs

theorem Below.drewN {B : Nat} {a w : World} (h : Below B a w) (n : Nat) : Below B a (w.drewN n) := ⟨h.os, h.tape, h.output, h.size, h.block⟩

/-- All cells of a function on numbers. -/
def tabulate (n : Nat) (f : Nat → Value) : Array Value := ((List.range n).map f).toArray
theorem tabulate_get {n : Nat} {f : Nat → Value} {i : Nat} (h : i < n) : (tabulate n f)[i]? = some (f i) := by
  simp [tabulate, h]
theorem tabulate_size (n : Nat) (f : Nat → Value) : (tabulate n f).size = n := by simp [tabulate]
theorem tabulate_ext {n : Nat} {f g : Nat → Value} (h : ∀ i, i < n → f i = g i) : tabulate n f = tabulate n g := by
  unfold tabulate
  congr 1
  apply List.map_congr_left
  intro i hi
  exact h i (by simpa using hi)
theorem tabulate_one {n : Nat} {f : Nat → Value} (h : ∀ i, i < n → (f i).oneCell' = true) : (tabulate n f).all (·.oneCell') = true := by
  rw [Array.all_eq_true_iff_forall_mem]
  intro v hv
  simp only [tabulate, List.mem_toArray, List.mem_map, List.mem_range] at hv
  obtain ⟨i, hi, rfl⟩ := hv
  exact h i hi
theorem tabulate_set {n : Nat} {f : Nat → Value} {i : Nat} (v : Value) : (tabulate n f).setIfInBounds i v = tabulate n (fun j => if j = i then v else f j) := by
  apply Array.ext
  · simp [tabulate]
  · intro j h1 h2
    simp [tabulate] at h1 h2
    simp only [tabulate, List.setIfInBounds_toArray, List.getElem_toArray, List.getElem_set, List.getElem_map, List.getElem_range]
    by_cases e : i = j
    · simp [e]
    · rw [if_neg e, if_neg (by omega)]

section
variable {P : Program}
theorem addr_add (b off n : Nat) : (⟨b, off, none⟩ : Addr).add n = ⟨b, off + n, none⟩ := by
  unfold Addr.add; split
  · next h => subst h; rfl
  · rfl

/-- A piece of an array of one-cell elements, by its place. -/
theorem sliceAt_arr {t e : TypeId} {n : Nat} {i : TypeInfo} (ht : P.underlying t = some (.array n e)) (hi : P.info? e = some i) (hs : i.size = 1)
    (b off : Nat) (kl kh : IntKind) (li hx : Int) (l h o m c : Nat) (el : li = l) (eh : hx = h) (h1 : l ≤ h) (h2 : h ≤ n) (h3 : l < n) (eo : o = off + l) (em : m = h - l) (ec : c = n - l) (w : World) :
    (Instr.sliceAt t (.pointer (some ⟨b, off, none⟩)) (some (.int kl li)) (some (.int kh hx)) none).run P w = .ok (.slice (some ⟨b, o, none⟩) m c) w := by
  subst el eh eo em ec
  have ha : P.arrayLen t = n := by simp [Program.arrayLen, ht]
  have he : P.elem t = e := by simp [Program.elem, ht]
  rw [run_sliceAt_array_lh w t _ (by rw [ha, he]; exact ht) kl kh l h (by omega) (by omega) (by rw [ha]; omega)]
  rw [ha, he]
  have hne : ¬ n = l := by omega
  simp [sizeOf, typeInfo, hi, hs, slicedAt, hne, addr_add]

/-- An array of one-cell elements from a place on. -/
theorem sliceAt_from {t e : TypeId} {n : Nat} {i : TypeInfo} (ht : P.underlying t = some (.array n e)) (hi : P.info? e = some i) (hs : i.size = 1)
    (b off : Nat) (kl : IntKind) (li : Int) (l o c : Nat) (el : li = l) (h3 : l < n) (eo : o = off + l) (ec : c = n - l) (w : World) :
    (Instr.sliceAt t (.pointer (some ⟨b, off, none⟩)) (some (.int kl li)) none none).run P w = .ok (.slice (some ⟨b, o, none⟩) c c) w := by
  subst el eo ec
  have ha : P.arrayLen t = n := by simp [Program.arrayLen, ht]
  have he : P.elem t = e := by simp [Program.elem, ht]
  rw [run_sliceAt_array_l w t _ (by rw [ha, he]; exact ht) kl l (by omega) (by rw [ha]; omega)]
  rw [ha, he]
  have hne : ¬ n = l := by omega
  simp [sizeOf, typeInfo, hi, hs, slicedAt, hne, addr_add]

/-- A whole array as a slice. -/
theorem sliceAt_whole {t e : TypeId} {n : Nat} {i : TypeInfo} (ht : P.underlying t = some (.array n e)) (hi : P.info? e = some i) (hs : i.size = 1)
    (b off : Nat) (w : World) :
    (Instr.sliceAt t (.pointer (some ⟨b, off, none⟩)) none none none).run P w = .ok (.slice (some ⟨b, off, none⟩) n n) w := by
  have ha : P.arrayLen t = n := by simp [Program.arrayLen, ht]
  have he : P.elem t = e := by simp [Program.elem, ht]
  rw [run_sliceAt_array_all w t _ (by rw [ha, he]; exact ht)]
  rw [ha, he]
  simp [sizeOf, typeInfo, hi, hs, slicedAt, addr_add]

/-- An array's element by its index. -/
theorem index_agg {t e : TypeId} {n : Nat} {i : TypeInfo} {d : TypeDesc} (ht : P.underlying t = some (.array n e)) (hi : P.info? e = some i) (hs : i.size = 1)
    (he : P.underlying e = some d) (hd : (match d with | .struct _ | .array _ _ => true | _ => false) = false)
    (cs : Array Value) (k : IntKind) (ix : Int) (j : Nat) (v : Value) (ej : ix = j) (hj : j < n) (hv : cs[j]? = some v) (w : World) :
    (Instr.index t (.agg cs) (.int k ix)).run P w = .ok v w := by
  subst ej
  have hagg : (isAgg e).run P w = .ok false w := by
    unfold isAgg
    rw [Sem.run_bind, run_underlying he w]
    cases d <;> simp_all
  simp [Instr.index, asIntOf, run_underlying ht, hj, Sem.run_bind, sizeOf, typeInfo, hi, hs, part, hagg, hv]
end
end Go.Proofs.YtiidohaibbdgeaaDoor
