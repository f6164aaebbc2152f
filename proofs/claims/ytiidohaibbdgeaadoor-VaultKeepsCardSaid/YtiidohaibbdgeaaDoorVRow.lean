/-
  What a row of layer 12 wants beside its walk: the table out of the condition, the arguments read again.
-/
import Derived.Test.YtiidohaibbdgeaaDoorVTurn
import Derived.Test.YtiidohaibbdgeaaDoorRows
import Derived.Deep.Slices
import Derived.OpenShut
import Derived.ReadAgain
import Derived.ProofKit
import Derived.LaidMore
import Derived.Stop.Joined
import Derived.Stop.LaidErr
import Derived.Lib.LaidTab
import Derived.SizedLaws
namespace Go.Proofs.YtiidohaibbdgeaaDoor
open Go Go.RowKit Go.ChangeShapes Go.WideShapes Go.ChangeAt

theorem own_knob : ownKnob Tryd.prog.godebug = none := by kernel_rfl
theorem kids : Kids Tryd.prog (· < Tryd.prog.types.size) := kids_rows (by kernel_rfl) (by kernel_rfl)
theorem slices_full : ∀ t e, t < Tryd.prog.types.size → Tryd.prog.underlying t = some (.slice e) → 0 < Tryd.prog.cellsOf e := slices_full_of Tryd.prog (by kernel_rfl)

/-- What the rows list. -/
def laidL : List (String × DataW Unit) := Rows.vaultNilRow.laid
theorem door_met (os : Os) (args : Array Value) : laidMetH Tryd.prog laidL ((World.doorLaid Tryd.prog 400 os).forCall (fun _ _ => 0) ⟨#[], args, []⟩).memory :=
  laidMetH_of_parts3 (fuel := 8) (laidMet_of_run' 8 (by kernel_rfl) (by kernel_rfl)) (by kernel_rfl) (by kernel_rfl)
theorem laid_tab : Rows.laid_scantling_sha_table (H := Unit) = Lib.tabData .u32 (tab.map fun x => (x.toNat : Int)) := by kernel_rfl
theorem cells_tab' : ((tab.map fun x => (x.toNat : Int)).map fun z => Value.int .u32 z).toArray = tabCells := by kernel_rfl

theorem of_laid {W : World} (h : laidMetH Tryd.prog laidL W) : Tab W := by
  rw [MakeChecks.laidMetH_plain _ _ _ (by kernel_rfl)] at h
  have h4 : laidMet Tryd.prog [("scantling/sha.table", Rows.laid_scantling_sha_table)] W := h
  rw [laid_tab] at h4
  have ht := Lib.tabIs_of_head (g := 0) (t := 132) (e := 115) (n := 64) (by kernel_rfl) (by kernel_rfl) Tryd.underlying132 Tryd.underlying115 (by kernel_rfl) (by kernel_rfl) h4
  have hg : Tryd.prog.globalNamed "scantling/sha.table" = some 0 := by kernel_rfl
  unfold Lib.TabIs World.var? at ht
  rw [hg, cells_tab'] at ht
  simp only [Option.bind_some] at ht
  unfold Tab
  cases hh : W.heap[0]? with
  | none => rw [hh] at ht; cases ht
  | some o =>
    rw [hh] at ht
    cases o with
    | cells cs t fr => exact ⟨t, fr, by simp only [Option.some.injEq] at ht; rw [ht]⟩
    | _ => cases ht

theorem Trod_carry {H : Type} {enc : TypeId × Value → H} {P : Program} {w w' : World} {base : Nat} {spare : Nat → Bool} {held : Bool} {t : TypeId} {v : Value} {d : DataW H} {ps : List MemPlace} (h : DataW.Trod enc P w base spare held t v d ps) (hs : ∀ p ∈ ps, w.sameAt w' p) : DataW.Trod enc P w' base spare held t v d ps := by
  obtain ⟨n, hn⟩ := h
  exact ⟨n, DataW.trod_carry n _ _ _ hn hs⟩
theorem TrodAll_carry {H : Type} {enc : TypeId × Value → H} {P : Program} {w w' : World} {base : Nat} {spare : Nat → Bool} {held : Bool} : ∀ {ts : List TypeId} {vs : List Value} {ds : List (DataW H)} {ps : List MemPlace}, DataW.TrodAll enc P w base spare held ts vs ds ps → (∀ p ∈ ps, w.sameAt w' p) → DataW.TrodAll enc P w' base spare held ts vs ds ps
  | [], [], [], _, h, _ => h
  | _ :: _, _ :: _, _ :: _, _, ⟨p, q, h1, h2, e⟩, hs => ⟨p, q, Trod_carry h1 (fun x hx => hs x (by rw [e]; exact List.mem_append_left _ hx)), TrodAll_carry h2 (fun x hx => hs x (by rw [e]; exact List.mem_append_right _ hx)), e⟩

section
variable {H : Type} {enc : TypeId × Value → H} {w : World} {base : Nat} {spare : Nat → Bool} {held : Bool}
theorem open_len {fuel : Nat} {cs : List Value} {x : DataW H × List MemPlace} (h : DataW.trod enc Tryd.prog w base spare held fuel 30 cs = some x) :
    ∃ (a : Option Addr) (n cap : Nat), cs = [.slice a n cap] ∧ n ≤ 9223372036854775807 := by
  rcases Go.Deep.open_slice Tryd.underlying30 h with ⟨rfl, _⟩ | ⟨a, len, cap, m, n, D, Pl, rfl, _, hl, hm, hmm, _, hx⟩
  · exact ⟨none, 0, 0, rfl, by omega⟩
  · unfold maxLen at hm
    exact ⟨some a, len, cap, rfl, by omega⟩

/-- What a datum weighs, is within the form's reach. -/
def Fits {H : Type} (t : TypeId) (d : DataW H) : Prop := ∀ n ∈ DataW.weights Tryd.prog t d, n ≤ reachBytes
theorem cells_u8 : Tryd.prog.cellsOf 5 = 1 := by kernel_rfl
theorem fits_each {H : Type} {ts : List TypeId} {ds : List (DataW H)} (h : (DataW.weightsEach Tryd.prog ts ds).all (· ≤ reachBytes) = true) {j : Nat} {t : TypeId} {d : DataW H} (ht : ts[j]? = some t) (hd : ds[j]? = some d) : Fits t d := fun n hn => by
  have := List.all_eq_true.1 h _ (DataW.weights_mem_each ht hd n hn)
  simpa using this
theorem bytes_u8 : Tryd.prog.bytesOf 5 = 1 := by kernel_rfl
theorem bytes_u8s : Tryd.prog.bytesOf 35 = 24 := by kernel_rfl
theorem weights_all {H : Type} {P : Program} {e : TypeId} : ∀ {l : List (DataW H)} {d : DataW H} {n : Nat}, d ∈ l → n ∈ DataW.weights P e d → n ∈ DataW.weightsAll P e l
  | x :: l, d, n, hd, hn => by
    rw [DataW.weightsAll, List.mem_append]
    rcases List.mem_cons.1 hd with rfl | hd
    · exact .inl hn
    · exact .inr (weights_all hd hn)
/-- Bytes that come in. -/
theorem bytes_of_cells {fuel : Nat} {cs : List Value} {x : DataW H × List MemPlace} (h : DataW.trod enc Tryd.prog w base spare held fuel 35 cs = some x) :
    ∃ (a : Option Addr) (l : Bs) (cap : Nat), cs = [.slice a l.length cap] ∧ (a = none → cap = 0) ∧ l.length ≤ cap ∧ cap ≤ maxLen ∧ Reads w w.heap.size a l ∧ (Fits 35 x.1 → l.length ≤ reachBytes) := by
  rcases Go.Deep.open_slice Tryd.underlying35 h with ⟨rfl, _⟩ | ⟨a, len, cap, m, n, D, Pl, rfl, _, hl, hm, hmm, hxd, hx⟩
  · exact ⟨none, [], 0, rfl, fun _ => rfl, by simp, by unfold maxLen; omega, (fun h => by simp at h), fun _ => by simp⟩
  rw [cells_u8] at hx
  have hle : len ≤ m := by rw [hmm]; split <;> omega
  have each : ∀ i, i < len → ∃ b : BitVec 8, w.cells? base (a.add (i * 1)) 1 = some [B8 b] := fun i hi => by
    obtain ⟨cs', h1, h2⟩ := hx i (by omega)
    obtain ⟨n, hn, _, hw⟩ := DataW.trod_int Tryd.underlying5 h2
    have hb : 0 ≤ n ∧ n ≤ 255 := by
      simp [Lit.wf, IntKind.min, IntKind.max, IntKind.signed, IntKind.bits] at hw
      omega
    refine ⟨BitVec.ofNat 8 n.toNat, ?_⟩
    rw [h1, hn, B8]
    congr 3
    rw [BitVec.toNat_ofNat]
    omega
  obtain ⟨E, hE⟩ := Go.Deep.choose_lt each
  refine ⟨some a, (List.range len).map E, cap, by simp, (fun h => by cases h), by simpa using hl, hm, (fun hn => ?h1), fun hf => ?h2⟩
  case h2 =>
    have := hf ((((List.range len).map D).length + ((List.range (m - len)).map fun j => D (len + j)).length) * Tryd.prog.bytesOf 5) (by rw [hxd]; simp [DataW.weights, Tryd.underlying35])
    rw [bytes_u8] at this
    simp at this ⊢
    omega
  have hn' : 0 < len := by simpa using hn
  have hcell : ∀ j, j < len → w.cell? (a.add j) = some (B8 (E j)) := fun j hj => by
    obtain ⟨_, _, hc⟩ := World.cells?_some (hE j hj)
    have := hc 0 (by omega)
    rw [Nat.mul_one] at this
    have h00 : (a.add j).add 0 = a.add j := by simp [Addr.add]
    rw [h00] at this
    rw [this]; simp
  have g0 := hcell 0 hn'
  obtain ⟨b, o, sp⟩ := a
  have hsp : sp = none := by simpa [Addr.add] using World.cell?_spot g0
  subst hsp
  refine ⟨b, o, rfl, block_lt_of_cell (a := ⟨b, o, none⟩) (by simpa [Addr.add] using g0), fun j hj => ?_⟩
  have hj' : j < len := by simpa using hj
  have := hcell j hj'
  rw [addr_add] at this
  rw [this]
  simp [List.getD, hj']
theorem cells_u8s : Tryd.prog.cellsOf 35 = 1 := by kernel_rfl
/-- Records that come in. -/
theorem recs_of_cells {fuel : Nat} {cs : List Value} {x : DataW H × List MemPlace} (h : DataW.trod enc Tryd.prog w base spare held fuel 30 cs = some x) :
    ∃ (a : Option Addr) (l : List Bs) (cap : Nat), cs = [.slice a l.length cap] ∧ (a = none → cap = 0) ∧ l.length ≤ cap ∧ cap ≤ maxLen ∧ RecsLow w.heap.size w a l ∧ (Fits 30 x.1 → l.length * 24 ≤ reachBytes ∧ ∀ j, j < l.length → (l.getD j []).length ≤ reachBytes) := by
  rcases Go.Deep.open_slice Tryd.underlying30 h with ⟨rfl, _⟩ | ⟨a, len, cap, m, n, D, Pl, rfl, _, hl, hm, hmm, hxd, hx⟩
  · exact ⟨none, [], 0, rfl, fun _ => rfl, by simp, by unfold maxLen; omega, (fun hn => by simp at hn), fun _ => ⟨by simp, fun j hj => by simp at hj⟩⟩
  rw [cells_u8s] at hx
  have hle : len ≤ m := by rw [hmm]; split <;> omega
  have each : ∀ i, i < len → ∃ r : Bs, ∃ a' c', w.cells? base (a.add (i * 1)) 1 = some [.slice a' r.length c'] ∧ ((a' = none → c' = 0) ∧ r.length ≤ c' ∧ Reads w w.heap.size a' r) ∧ (Fits 35 (D i) → r.length ≤ reachBytes) := fun i hi => by
    obtain ⟨cs', h1, h2⟩ := hx i (by omega)
    obtain ⟨a', r, c', rfl, k1, k2, k3, k4, k5⟩ := bytes_of_cells h2
    exact ⟨r, a', c', h1, ⟨k1, k2, k4⟩, k5⟩
  obtain ⟨E, hE⟩ := Go.Deep.choose_lt each
  refine ⟨some a, (List.range len).map E, cap, by simp, (fun h => by cases h), by simpa using hl, hm, (fun hn => ?h1), fun hf => ⟨?h2, fun j hj => ?h3⟩⟩
  case h2 =>
    have := hf ((((List.range len).map D).length + ((List.range (m - len)).map fun j => D (len + j)).length) * Tryd.prog.bytesOf 35) (by rw [hxd]; simp [DataW.weights, Tryd.underlying30])
    rw [bytes_u8s] at this
    simp at this ⊢
    omega
  case h3 =>
    have hj' : j < len := by simpa using hj
    obtain ⟨_, _, _, _, h3⟩ := hE j hj'
    have := h3 fun n hn => hf n (by
      rw [hxd]
      simp only [DataW.weights, Tryd.underlying30]
      exact List.mem_cons_of_mem _ (List.mem_append_left _ (weights_all (List.mem_map.2 ⟨j, List.mem_range.2 hj', rfl⟩) hn)))
    simpa [List.getD, hj'] using this
  have hn' : 0 < len := by simpa using hn
  have hcell : ∀ j, j < len → ∃ a' c', w.cell? (a.add j) = some (.slice a' (E j).length c') ∧ (a' = none → c' = 0) ∧ (E j).length ≤ c' ∧ Reads w w.heap.size a' (E j) := fun j hj => by
    obtain ⟨a', c', h1, h2, _⟩ := hE j hj
    obtain ⟨_, _, hc⟩ := World.cells?_some h1
    have := hc 0 (by omega)
    rw [Nat.mul_one] at this
    have h00 : (a.add j).add 0 = a.add j := by simp [Addr.add]
    rw [h00] at this
    exact ⟨a', c', by rw [this]; simp, h2⟩
  obtain ⟨_, _, g0, _⟩ := hcell 0 hn'
  obtain ⟨b, o, sp⟩ := a
  have hsp : sp = none := by simpa [Addr.add] using World.cell?_spot g0
  subst hsp
  refine ⟨b, o, rfl, (block_lt_of_cell (a := ⟨b, o, none⟩) (by simpa [Addr.add] using g0)), fun j hj => ?_⟩
  have hj' : j < len := by simpa using hj
  obtain ⟨a', c', h1, h2⟩ := hcell j hj'
  rw [addr_add] at h1
  have e : ((List.range len).map E).getD j [] = E j := by simp [List.getD, hj']
  rw [e]
  exact ⟨a', c', h1, h2⟩
end
end Go.Proofs.YtiidohaibbdgeaaDoor
