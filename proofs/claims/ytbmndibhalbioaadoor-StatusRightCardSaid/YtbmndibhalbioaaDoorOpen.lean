/-
  A history that comes in, opened: its entries.
-/
import Derived.Test.YtbmndibhalbioaaDoorPlays
import Derived.Deep.Slices
import Derived.OpenShut
import Derived.ReadAgain
namespace Go.Proofs.YtbmndibhalbioaaDoor
open Go Go.RowKit

theorem cells_hash : Tryd.prog.cellsOf 27 = 32 := by kernel_rfl
theorem cells_ent : Tryd.prog.cellsOf 29 = 33 := by kernel_rfl
theorem cells_int : Tryd.prog.cellsOf 3 = 1 := by kernel_rfl
theorem fields_two : ∃ f0 f1, Tryd.prog.underlying 29 = some (.struct #[f0, f1]) ∧ f0.type = 3 ∧ f0.offset = 0 ∧ f1.type = 27 ∧ f1.offset = 1 :=
  ⟨(Tryd.prog.fieldsOf 29)[0]!, (Tryd.prog.fieldsOf 29)[1]!, by kernel_rfl, by kernel_rfl, by kernel_rfl, by kernel_rfl, by kernel_rfl⟩

section
variable {H : Type} {enc : TypeId × Value → H} {w : World} {base : Nat} {spare : Nat → Bool} {held : Bool}

theorem hash_of_cells {fuel : Nat} {cs : List Value} {x : DataW H × List MemPlace} (h : DataW.trod enc Tryd.prog w base spare held fuel 27 cs = some x) : ∃ t : List (BitVec 8), t.length = 32 ∧ cs = hashCells t := by
  obtain ⟨xs, m, rfl, rfl, hl, hxs, hel⟩ := DataW.trod_array Tryd.underlying27 h
  rw [cells_hash] at hl
  have each : ∀ i, i < 32 → ∃ b : BitVec 8, cs[i]? = some (B8 b) := fun i hi => by
    have h1 := hel i hi
    rw [cells_u8, Nat.mul_one, List.getElem?_eq_getElem (by omega)] at h1
    obtain ⟨n, hn, _, hw⟩ := DataW.trod_int Tryd.underlying5 h1
    have hb : 0 ≤ n ∧ n ≤ 255 := by
      simp [Lit.wf, IntKind.min, IntKind.max, IntKind.signed, IntKind.bits] at hw
      omega
    refine ⟨BitVec.ofNat 8 n.toNat, ?_⟩
    have h2 : ((cs.drop i).take 1)[0]? = some (.int .u8 n) := by rw [hn]; rfl
    have h3 : cs[i]? = some (.int .u8 n) := by simpa [List.getElem?_take] using h2
    rw [h3, B8]
    congr 2
    rw [BitVec.toNat_ofNat]
    omega
  obtain ⟨f, hf⟩ := Go.Deep.choose_lt (p := fun i (b : BitVec 8) => cs[i]? = some (B8 b)) each
  refine ⟨(List.range 32).map f, by simp, ?_⟩
  apply List.ext_getElem?
  intro i
  by_cases hi : i < 32
  · rw [hf i hi]
    simp [hashCells, tabulate, hi]
  · rw [List.getElem?_eq_none (by omega), List.getElem?_eq_none (by rw [hashCells_length]; omega)]

theorem ent_of_cells {fuel : Nat} {cs : List Value} {x : DataW H × List MemPlace} (h : DataW.trod enc Tryd.prog w base spare held fuel 29 cs = some x) : ∃ e : Ent, e.ok ∧ cs = (entCells e).toList := by
  obtain ⟨f0, f1, hu, t0, o0, t1, o1⟩ := fields_two
  obtain ⟨y0, y1, n, _, hl, h0, h1⟩ := Go.ChangeShapes.trod_struct2 hu h
  rw [t0, o0, cells_int] at h0
  rw [t1, o1, cells_hash] at h1
  rw [cells_ent] at hl
  obtain ⟨k, hk, _, hw⟩ := DataW.trod_int Tryd.underlying3 h0
  obtain ⟨t, ht, hc⟩ := hash_of_cells h1
  have hb : -9223372036854775808 ≤ k ∧ k ≤ 9223372036854775807 := by
    simp [Lit.wf, IntKind.min, IntKind.max, IntKind.signed, IntKind.bits] at hw
    omega
  refine ⟨⟨k, t⟩, ⟨ht, hb.1, hb.2⟩, ?_⟩
  match cs, hl with
  | c :: cs, hl =>
    have hl' : cs.length = 32 := by simpa using hl
    simp only [List.drop_zero, List.take_succ_cons, List.take_zero, List.cons.injEq, and_true] at hk
    simp only [List.drop_succ_cons, List.drop_zero, List.take_of_length_le (Nat.le_of_eq hl')] at hc
    simp [entCells, hk, hc]

theorem open_ents {fuel : Nat} {cs : List Value} {x : DataW H × List MemPlace} (h : DataW.trod enc Tryd.prog w base spare held fuel 22 cs = some x) :
    ∃ (a : Option Addr) (l : List Ent) (cap : Nat), cs = [.slice a l.length cap] ∧ (a = none → cap = 0) ∧ Oks l ∧ EntsAt w w.heap.size a l ∧ l.length ≤ cap ∧ cap ≤ maxLen := by
  rcases Go.Deep.open_slice Tryd.underlying22 h with ⟨rfl, _⟩ | ⟨a, len, cap, m, n, D, Pl, rfl, _, hl, hm, hmm, _, hx⟩
  · exact ⟨none, [], 0, rfl, fun _ => rfl, fun e he => by simp at he, fun hn => by simp at hn, by simp, by unfold maxLen; omega⟩
  rw [cells_ent] at hx
  have hle : len ≤ m := by rw [hmm]; split <;> omega
  have each : ∀ i, i < len → ∃ e : Ent, e.ok ∧ w.cells? base (a.add (i * 33)) 33 = some (entCells e).toList := fun i hi => by
    obtain ⟨cs', h1, h2⟩ := hx i (by omega)
    obtain ⟨e, he, rfl⟩ := ent_of_cells h2
    exact ⟨e, he, h1⟩
  haveI : Inhabited Ent := ⟨⟨0, []⟩⟩
  obtain ⟨E, hE⟩ := Go.Deep.choose_lt each
  refine ⟨some a, (List.range len).map E, cap, by simp, (fun h => by cases h), fun e he => ?_, fun hn => ?_, by simpa using hl, hm⟩
  · obtain ⟨i, hi, rfl⟩ := List.mem_map.1 he
    exact (hE i (List.mem_range.1 hi)).1
  · have hn' : 0 < len := by simpa using hn
    obtain ⟨_, _, hc0⟩ := World.cells?_some (hE 0 hn').2
    have g0 : w.cell? (a.add 0) = some (.int .i64 (E 0).h) := by
      have := hc0 0 (by omega)
      rw [Nat.zero_mul] at this
      have h00 : (a.add 0).add 0 = a.add 0 := by simp [Addr.add]
      rw [h00] at this
      rw [this]; simp [entCells]
    obtain ⟨b, o, sp⟩ := a
    have hsp : sp = none := by simpa [Addr.add] using World.cell?_spot g0
    subst hsp
    have hcell : ∀ j, j < len → ∀ q, q < 33 → w.cell? ⟨b, o + j * 33 + q, none⟩ = (entCells (E j))[q]? := fun j hj q hq => by
      obtain ⟨_, _, hc⟩ := World.cells?_some (hE j hj).2
      have := hc q hq
      rw [addr_add, addr_add] at this
      rw [this]; simp
    refine ⟨b, o, rfl, block_lt_of_cell (a := ⟨b, o, none⟩) (by simpa [Addr.add] using g0), fun j hj => ?_⟩
    have hj' : j < len := by simpa using hj
    have he : entAt ((List.range len).map E) j = E j := by simp [entAt, hj']
    rw [he]
    refine ⟨by have := hcell j hj' 0 (by omega); rw [Nat.add_zero] at this; rw [this]; simp [entCells], fun q v hq => ?_⟩
    have hq32 : q < 32 := by
      have := (List.getElem?_eq_some_iff.1 hq).1
      rwa [hashCells_length] at this
    rw [show o + j * 33 + 1 + q = o + j * 33 + (q + 1) by omega, hcell j hj' (q + 1) (by omega)]
    simpa [entCells] using hq
end
end Go.Proofs.YtbmndibhalbioaaDoor
