/-
  A history's entries, their text, and the document's text of them (scantlingref17.Text).
-/
import Derived.Test.YtbmndibhalbioaaDoorDigits
import Derived.Deep.MidRow
namespace Go.Proofs.YtbmndibhalbioaaDoor
open Go Go.RowKit

/-- An entry: its height, its hash. -/
structure Ent where
  h : Int
  tx : List (BitVec 8)

def Ent.ok (e : Ent) : Prop := e.tx.length = 32 ∧ -9223372036854775808 ≤ e.h ∧ e.h ≤ 9223372036854775807
def Oks (l : List Ent) : Prop := ∀ e ∈ l, e.ok
def entAt (l : List Ent) (j : Nat) : Ent := l.getD j ⟨0, List.replicate 32 0⟩
theorem entAt_mem {l : List Ent} {j : Nat} (h : j < l.length) : entAt l j ∈ l := by
  unfold entAt; rw [List.getD, List.getElem?_eq_getElem h]; exact List.getElem_mem h

/-- Its text. -/
def entText (e : Ent) : List UInt8 := hexL (backL e.tx) ++ ([58] ++ (Lib.itoa e.h ++ [58]))
def textOf : List Ent → List UInt8
  | [] => []
  | e :: l => entText e ++ textOf l
theorem textOf_append (a b : List Ent) : textOf (a ++ b) = textOf a ++ textOf b := by
  induction a with
  | nil => rfl
  | cons x a ih => simp [textOf, ih]
theorem backText_length (t : List (BitVec 8)) : (hexL (backL t)).length = 64 := by rw [hexL_length, backL_length]
theorem entText_length {e : Ent} (h : e.ok) : (entText e).length ≤ 87 := by
  have := Lib.itoa_length_le e.h h.2.1 h.2.2
  simp [entText, backText_length]; omega
theorem textOf_length {l : List Ent} (h : Oks l) : (textOf l).length ≤ 87 * l.length := by
  induction l with
  | nil => simp [textOf]
  | cons e l ih =>
    have h1 := entText_length (h e (by simp))
    have h2 := ih fun x hx => h x (by simp [hx])
    simp [textOf]; omega
theorem Oks.take {l : List Ent} (h : Oks l) (k : Nat) : Oks (l.take k) := fun e he => h e (List.mem_of_mem_take he)

/-- A hash's cells. -/
def hashCells (t : List (BitVec 8)) : List Value := (tabulate 32 fun i => B8 (t.getD i 0)).toList
theorem hashCells_length (t : List (BitVec 8)) : (hashCells t).length = 32 := by simp [hashCells, tabulate]
theorem HV_eq (t : List (BitVec 8)) : Value.agg (hashCells t).toArray = HV t := by simp [hashCells, HV]

/-- The entries of a slice. -/
def EntsAt (w : World) (B : Nat) (a : Option Addr) (l : List Ent) : Prop :=
  0 < l.length → ∃ b o, a = some ⟨b, o, none⟩ ∧ b < B ∧ ∀ j, j < l.length → w.cell? ⟨b, o + j * 33, none⟩ = some (.int .i64 (entAt l j).h) ∧ w.rangeAt b (o + j * 33 + 1) (hashCells (entAt l j).tx)
theorem rangeAt_below {w w' : World} {B b o : Nat} {cs : List Value} (h : w.rangeAt b o cs) (hb : Below B w w') (hlt : b < B) : w'.rangeAt b o cs := fun j v hj => (hb.cell hlt).trans (h j v hj)
theorem EntsAt.below {w w' : World} {B : Nat} {a : Option Addr} {l : List Ent} (h : EntsAt w B a l) (hb : Below B w w') : EntsAt w' B a l := fun hn => by
  obtain ⟨b, o, ha, hlt, hc⟩ := h hn
  exact ⟨b, o, ha, hlt, fun j hj => ⟨(hb.cell hlt).trans (hc j hj).1, rangeAt_below (hc j hj).2 hb hlt⟩⟩

/-- A load of some cells in a region that draws: the same in every world of the class. -/
theorem wpQuiet_load_mid {P : Program} {ops : Array Oper} {C : World → Prop} {Q : Act → Prop} {a : Act} {o : Oper} {rest : List Oper} (hgd : o.guard = none) (ty : TypeId) (x : Operand) (ho : o.op = .load ty x)
    (b off : Nat) (hx : a.eval x = .pointer (some ⟨b, off, none⟩)) (cs : List Value) (d : TypeDesc) (hC : ∀ w, C w → w.rangeAt b off cs)
    (hu : P.underlying ty = some d) (hd : d.isRow = true) (hi : (P.info? ty).map (·.size) = some cs.length)
    (h : wpQuiet P ops C Q rest (a.put o.dst (.agg cs.toArray))) : wpQuiet P ops C Q (o :: rest) a := by
  have hw : Region.wanted o (yielded ops a.tmps) = true := by simp [Region.wanted, hgd]
  refine wpQuiet_step fun K hK => ?_
  rw [if_pos hw]
  refine ⟨.agg cs.toArray, fun w hw' => ?_, hK _ h⟩
  unfold Oper.quietAt execOp
  simp only [ho, hx, Instr.loadAt, Instr.sureAddr, Sem.run_bind, Sem.run_pure, Result.andThen_ok, run_loadVar_mid w b off ty cs d (hC w hw') hu hd hi]
  exact ⟨rfl, rfl⟩

set_option maxRecDepth 100000 in
set_option maxHeartbeats 1000000 in
theorem text_any (l : List Ent) (hok : Oks l) (a : Option Addr) (cap : Nat) (w : World) (hr : EntsAt w w.heap.size a l) (hlen : l.length ≤ 1000000) :
    Calls Tryd.prog 11 #[.slice a l.length cap] w fun e w' => e = .returned (.string ⟨(textOf l).toArray⟩) ∧ Below w.heap.size w w' := by
  have hr0 := Lib.hid hr
  clear hr
  go_enter Tryd.func11, Tryd.ntmps11
  go_wp2_with (fail)
  go_loopw [3, 4] (fun s i wr => ∃ k : Nat, k ≤ l.length ∧ i = .int .i64 k ∧ s = .string ⟨(textOf (l.take k)).toArray⟩ ∧ Below w.heap.size w wr) (fun _ i _ => l.length - (intOf i).toNat)
  case atStart => exact ⟨0, by omega, rfl, rfl, Below.refl _ _⟩
  case round =>
    obtain ⟨k, hk, rfl, rfl, hB⟩ := hrel
    by_cases hlt : k < l.length
    · obtain ⟨b, off, rfl, hbl, hcl⟩ := hr0.out (by omega)
      have hc1 := (hB.cell (p := ⟨b, off + k * 33, none⟩) hbl).trans (hcl k hlt).1
      have hc2 := rangeAt_below (hcl k hlt).2 hB hbl
      have hbw : b < wr.heap.size := Nat.lt_of_lt_of_le hbl hB.size
      have ht := take_one (l := l) (k := k) hlt (⟨0, List.replicate 32 0⟩ : Ent)
      change l.take (k + 1) = l.take k ++ [entAt l k] at ht
      have hx := hok _ (entAt_mem hlt)
      have hlS := textOf_length (hok.take k)
      rw [List.length_take_of_le hk] at hlS
      generalize entAt l k = x at *
      have hT : textOf (l.take (k + 1)) = textOf (l.take k) ++ (hexL (backL x.tx) ++ ([58] ++ (Lib.itoa x.h ++ [58]))) := by
        rw [ht, textOf_append]; simp [textOf, entText]
      have hl1 := backText_length x.tx
      have hl2 := Lib.itoa_length_le x.h hx.2.1 hx.2.2
      have hcA := fun z => rturned_any x.tx z
      have hcB := fun z => digits_any _ x.h (Nat.lt_succ_self _) hx.2.1 hx.2.2 z
      obtain ⟨S, hS⟩ : ∃ S, S = textOf (l.take k) := ⟨_, rfl⟩
      obtain ⟨T1, hT1⟩ : ∃ S, S = hexL (backL x.tx) := ⟨_, rfl⟩
      obtain ⟨T2, hT2⟩ : ∃ S, S = Lib.itoa x.h := ⟨_, rfl⟩
      rw [← hS] at hlS hT ⊢
      rw [← hT1] at hl1 hT hcA
      rw [← hT2] at hl2 hT hcB
      replace hT := Lib.hid hT
      replace hcA := Lib.hid hcA
      replace hcB := Lib.hid hcB
      replace ht := Lib.hid ht
      clear hS hT1 hT2 hcl
      have hc1' := fun z => Grew.cell (B := wr.heap.size) hc1 hbw z
      go_wp2_with (fail)
      refine wp_grow wr.heap.size (by kernel_rfl) (by kernel_rfl) ?_
      repeat (go_big_quiet_step (fail))
      refine wpQuiet_load_mid rfl 27 _ rfl b (off + k * 33 + 1) rfl (hashCells x.tx) _ (by rintro _ ⟨z, rfl⟩; exact rangeAt_below hc2 z.2 hbw) Tryd.underlying27 rfl (by rw [hashCells_length]; kernel_rfl) ?_
      rw [HV_eq]
      go_frame
      repeat (go_big_quiet_step (first
        | (go_at_call 13; exact Grew.of_calls (hcA.out _) (Nat.le_refl _))
        | (go_at_call 19; exact Grew.of_calls (hcB.out _) (Nat.le_refl _))))
      refine wpQuiet_nil ?_
      rintro _ ⟨z, rfl⟩
      go_wp2
      go_roundw
      case rel =>
        refine ⟨k + 1, by omega, by go_num, ?_, hB.trans (z.2.mono hB.size)⟩
        rw [hT.out]
        refine congrArg Value.string ?_
        apply ByteArray.ext
        simp
      case measure => simp [intOf]; omega
    · obtain rfl : k = l.length := by omega
      rw [List.take_length]
      go_wp2
      go_ret
      exact ⟨rfl, hB⟩
end Go.Proofs.YtbmndibhalbioaaDoor
