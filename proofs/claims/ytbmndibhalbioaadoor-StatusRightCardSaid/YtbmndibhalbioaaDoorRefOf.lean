/-
  What a history comes to: the document's (scantlingref17.Of).
-/
import Derived.Test.YtbmndibhalbioaaDoorEnts
import Derived.Test.YtbmndibhalbioaaDoorRefSum
import Derived.Lib.ConvBytes
namespace Go.Proofs.YtbmndibhalbioaaDoor
open Go Go.RowKit

theorem bytes_below (w : World) (e : TypeId) (s : ByteArray) : Below w.heap.size w (Lib.bytesWorld w e s) := by
  refine ⟨?_, ?_, ?_, by rw [Lib.bytesWorld_size]; omega, fun k hk => Lib.bytesWorld_at_old w e s k hk⟩ <;>
  · unfold Lib.bytesWorld World.freeze
    split <;> rfl
theorem bytes_reads (w : World) (e : TypeId) (l : List UInt8) : Reads (Lib.bytesWorld w e ⟨l.toArray⟩) (w.heap.size + 1) (some ⟨w.heap.size, 0, none⟩) (l.map UB) := fun _ =>
  ⟨w.heap.size, 0, rfl, by omega, fun j hj => by
    rw [List.length_map] at hj
    rw [Nat.zero_add, Lib.bytesWorld_cell w e _ j (by exact hj)]
    simp [List.getD, hj, UB]⟩

/-- '[]byte(s)'. -/
theorem wpList_str_bytes {w : World} {ops : Array Oper} {rest : List Oper} {o : Oper} {a : Act} {Q : Exit → Act → World → Prop} (hgd : o.guard = none) (x : Operand)
    (ho : o.op = .convert 9 31 x) (l : List UInt8) (hx : a.eval x = .string ⟨l.toArray⟩)
    (h : ∀ c w', Below w.heap.size w w' → w'.heap.size = w.heap.size + 1 → Reads w' w'.heap.size (some ⟨w.heap.size, 0, none⟩) (l.map UB) → l.length ≤ c → wpList Tryd.prog ops Q rest (a.put o.dst (.slice (some ⟨w.heap.size, 0, none⟩) l.length c)) w') : wpList Tryd.prog ops Q (o :: rest) a w :=
  wpList_plain hgd fun _ hK => by
    unfold Oper.wp execOp
    simp only [ho, hx, Sem.run_bind, Lib.run_convert_string_bytes (P := Tryd.prog) w 9 31 5 ⟨l.toArray⟩ Tryd.underlying9 Tryd.underlying31 Tryd.underlying5, Result.andThen_ok, Sem.run_pure]
    refine hK _ _ (h _ _ (bytes_below _ _ _) (Lib.bytesWorld_size _ _ _) ?_ (grownCap_ge _ _ _ _))
    rw [Lib.bytesWorld_size]
    exact bytes_reads w _ l

/-- The sum as a list of bytes. -/
def sumL (m : List (BitVec 8)) : List (BitVec 8) := (List.range 32).map (sumByte m)
theorem sumL_length (m : List (BitVec 8)) : (sumL m).length = 32 := by simp [sumL]
theorem sumL_get (m : List (BitVec 8)) (q : Nat) (h : q < 32) : (sumL m).getD q 0 = sumByte m q := by simp [sumL, h]
theorem sumL_val (m : List (BitVec 8)) : Value.agg (tabulate 32 fun i => B8 (sumByte m i)) = HV (sumL m) := by
  unfold HV
  exact congrArg Value.agg (tabulate_ext fun q hq => by rw [sumL_get m q hq])

/-- What a history comes to. -/
def ofL (l : List Ent) : List UInt8 := if l.length = 0 then [] else hexL (sumL ((textOf l).map UB))

set_option maxRecDepth 100000 in
set_option maxHeartbeats 1000000 in
theorem rof_any (l : List Ent) (hok : Oks l) (a : Option Addr) (cap : Nat) (w : World) (hr : EntsAt w w.heap.size a l) (hlen : l.length ≤ 1000000) :
    Calls Tryd.prog 8 #[.slice a l.length cap] w fun e w' => e = .returned (.string ⟨(ofL l).toArray⟩) ∧ Below w.heap.size w w' := by
  obtain ⟨i5, hi5, _, hs5, _⟩ := info_parts Tryd.info_u8
  go_enter Tryd.func8, Tryd.ntmps8
  by_cases h0 : l.length = 0
  · have e : ofL l = [] := by rw [ofL, if_pos h0]
    go_wp2
    go_ret
    exact ⟨by rw [e]; rfl, Below.refl _ _⟩
  · have e : ofL l = hexL (sumL ((textOf l).map UB)) := by rw [ofL, if_neg h0]
    rw [e]
    clear e
    have ht := text_any l hok a cap w hr hlen
    have hlt := textOf_length hok
    have hz : (0 : Int) < (l.length : Int) := by omega
    have hz' : ¬ ((l.length : Int) = 0) := by omega
    have hm : ((textOf l).map UB).length = (textOf l).length := List.length_map _
    generalize hT : textOf l = T at *
    replace ht := Lib.hid ht
    have hi27 : (Tryd.prog.info? 27).map (·.size) = some (tabulate 32 fun q => B8 ((sumL (T.map UB)).getD q 0)).size := by rw [tabulate_size]; kernel_rfl
    replace hi27 := Lib.hid hi27
    clear hT
    go_upto_region 4 with (first
      | (go_at_call 11
         refine ht.out.mono ?_
         rintro e w1 ⟨rfl, hB1⟩)
      | (refine wpList_str_bytes rfl _ rfl T rfl ?_
         intro c2 w2 hB2 hz2 hr2 _
         have hsum := rsum_any (T.map UB) (some ⟨w1.heap.size, 0, none⟩) c2 w2 hr2 (by simp) (by rw [hm]; omega)
         rw [hm, sumL_val] at hsum
         replace hsum := Lib.hid hsum)
      | (go_at_call 12
         refine hsum.out.mono ?_
         rintro e w3 ⟨rfl, hB3⟩
         have h3 : Blk (w3.alloc (.cells (tabulate 32 fun _ => B8 0) 27)) w3.heap.size 27 (tabulate 32 fun _ => B8 0) := Blk.new w3 _ _)
      | (refine wpList_store_row rfl 27 _ _ rfl w3.heap.size (tabulate 32 fun q => B8 ((sumL (T.map UB)).getD q 0)) rfl rfl 27 _ h3 hi27.out (by rw [tabulate_size, tabulate_size]) (tabulate_one fun _ _ => rfl) ?_))
    generalize hw3 : World.setRow _ _ _ = w4
    have h4 : Blk w4 w3.heap.size 27 (tabulate 32 fun q => B8 ((sumL (T.map UB)).getD q 0)) := by rw [← hw3]; exact h3.row _
    have hBa : Below w.heap.size w w3 := (hB1.trans (hB2.mono hB1.size)).trans (hB3.mono (Nat.le_trans hB1.size hB2.size))
    have hB4 : Below w.heap.size w w4 := by rw [← hw3]; exact Below.setRow (hBa.alloc hBa.size _) hBa.size _
    clear hw3 h3
    have hsl := fun wx => sliceAt_whole (P := Tryd.prog) Tryd.underlying27 hi5 hs5 w3.heap.size 0 wx
    have hrd : Reads w4 w4.heap.size (some ⟨w3.heap.size, 0, none⟩) (sumL (T.map UB)) := fun _ => ⟨w3.heap.size, 0, rfl, h4.lt, fun j hj => by
      rw [sumL_length] at hj
      rw [Nat.zero_add, h4.cell, tabulate_get hj]⟩
    have hhx := rhex_any (sumL (T.map UB)) (some ⟨w3.heap.size, 0, none⟩) 32 w4 hrd (fun h => by have := sumL_length (T.map UB); rw [h] at this; simp at this) (by rw [sumL_length]; omega)
    rw [sumL_length] at hhx
    replace hhx := Lib.hid hhx
    go_wp2_with (go_at_call 14; refine hhx.out.mono ?_; rintro e w5 ⟨rfl, hB5⟩)
    go_ret
    exact ⟨rfl, hB4.trans (hB5.mono hB4.size)⟩
end Go.Proofs.YtbmndibhalbioaaDoor
