/-
  What a row of layer 17 wants beside its walk: the tables out of the condition, the arguments read again.
-/
import Derived.Test.YtbmndibhalbioaaDoorOpen
import Derived.Test.YtbmndibhalbioaaDoorRows
import Derived.ProofKit
import Derived.LaidMore
import Derived.Stop.Joined
import Derived.Stop.LaidErr
import Derived.Lib.LaidTab
namespace Go.Proofs.YtbmndibhalbioaaDoor
open Go Go.RowKit Go.ChangeShapes Go.WideShapes Go.ChangeAt

theorem own_knob : ownKnob Tryd.prog.godebug = none := by kernel_rfl
theorem kids : Kids Tryd.prog (· < Tryd.prog.types.size) := kids_rows (by kernel_rfl) (by kernel_rfl)
theorem slices_full : ∀ t e, t < Tryd.prog.types.size → Tryd.prog.underlying t = some (.slice e) → 0 < Tryd.prog.cellsOf e := slices_full_of Tryd.prog (by kernel_rfl)

/-- What the rows list. -/
def laidL : List (String × DataW Unit) := Rows.statusPlaysRow.laid
theorem door_met (os : Os) (args : Array Value) : laidMetH Tryd.prog laidL ((World.doorLaid Tryd.prog 400 os).forCall (fun _ _ => 0) ⟨#[], args, []⟩).memory :=
  laidMetH_of_parts3 (fuel := 8) (laidMet_of_run' 8 (by kernel_rfl) (by kernel_rfl)) (by kernel_rfl) (by kernel_rfl)
theorem laid_pow : Rows.laid_internal_strconv_uint64pow10 (H := Unit) = Lib.tabData .u64 Lib.pow10Tab := by kernel_rfl
theorem laid_tab : Rows.laid_scantling_sha_table (H := Unit) = Lib.tabData .u32 (tab.map fun x => (x.toNat : Int)) := by kernel_rfl
theorem cells_tab' : ((tab.map fun x => (x.toNat : Int)).map fun z => Value.int .u32 z).toArray = tabCells := by kernel_rfl

theorem of_laid {W : World} (h : laidMetH Tryd.prog laidL W) : Tab W ∧ Pow W := by
  rw [MakeChecks.laidMetH_plain _ _ _ (by kernel_rfl)] at h
  have h' : laidMet Tryd.prog [("math/bits.deBruijn32tab", Rows.laid_math_bits_deBruijn32tab), ("math/bits.deBruijn64tab", Rows.laid_math_bits_deBruijn64tab), ("internal/strconv.uint64pow10", Rows.laid_internal_strconv_uint64pow10), ("scantling/sha.table", Rows.laid_scantling_sha_table)] W := h
  have h3 := h'.tail.tail
  have h4 := h3.tail
  rw [laid_pow] at h3
  rw [laid_tab] at h4
  refine ⟨?_, Lib.tabIs_of_head (g := 1) (t := 90) (e := 65) (n := 20) (by kernel_rfl) (by kernel_rfl) Tryd.underlying90 Tryd.underlying65 (by kernel_rfl) (by kernel_rfl) h3⟩
  have ht := Lib.tabIs_of_head (g := 0) (t := 80) (e := 46) (n := 64) (by kernel_rfl) (by kernel_rfl) Tryd.underlying80 Tryd.underlying46 (by kernel_rfl) (by kernel_rfl) h4
  have hg : Tryd.prog.globalNamed "scantling/sha.table" = some 0 := by kernel_rfl
  unfold Lib.TabIs World.var? at ht
  rw [hg, cells_tab'] at ht
  simp only [Option.bind_some] at ht
  unfold Tab
  cases hh : W.heap[0]? with
  | none => rw [hh] at ht; cases ht
  | some o =>
    rw [hh] at ht
    cases o with
    | cells cs t fr => exact ⟨t, fr, by simp only [Option.some.injEq] at ht; rw [ht]⟩
    | _ => cases ht

theorem Trod_carry {H : Type} {enc : TypeId × Value → H} {P : Program} {w w' : World} {base : Nat} {spare : Nat → Bool} {held : Bool} {t : TypeId} {v : Value} {d : DataW H} {ps : List MemPlace} (h : DataW.Trod enc P w base spare held t v d ps) (hs : ∀ p ∈ ps, w.sameAt w' p) : DataW.Trod enc P w' base spare held t v d ps := by
  obtain ⟨n, hn⟩ := h
  exact ⟨n, DataW.trod_carry n _ _ _ hn hs⟩
theorem TrodAll_carry {H : Type} {enc : TypeId × Value → H} {P : Program} {w w' : World} {base : Nat} {spare : Nat → Bool} {held : Bool} : ∀ {ts : List TypeId} {vs : List Value} {ds : List (DataW H)} {ps : List MemPlace}, DataW.TrodAll enc P w base spare held ts vs ds ps → (∀ p ∈ ps, w.sameAt w' p) → DataW.TrodAll enc P w' base spare held ts vs ds ps
  | [], [], [], _, h, _ => h
  | _ :: _, _ :: _, _ :: _, _, ⟨p, q, h1, h2, e⟩, hs => ⟨p, q, Trod_carry h1 (fun x hx => hs x (by rw [e]; exact List.mem_append_left _ hx)), TrodAll_carry h2 (fun x hx => hs x (by rw [e]; exact List.mem_append_right _ hx)), e⟩
end Go.Proofs.YtbmndibhalbioaaDoor
