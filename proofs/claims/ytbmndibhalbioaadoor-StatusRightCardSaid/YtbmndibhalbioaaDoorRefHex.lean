/-
  A text of hexadecimal letters: the document's (scantlingref04.Hex, scantlingref04.Turned).
-/
import Derived.Test.YtbmndibhalbioaaDoorTurned
import Derived.Test.YtbmndibhalbioaaDoorHeldQ
namespace Go.Proofs.YtbmndibhalbioaaDoor
open Go Go.RowKit

def UB (x : UInt8) : BitVec 8 := x.toBitVec
theorem UB_int (x : UInt8) : ((UB x).toNat : Int) = (x.toNat : Int) := rfl
theorem map_UB (l : List UInt8) : (l.map UB).map B8 = Lib.byteCells l := by
  simp [Lib.byteCells, UB, B8]

set_option maxRecDepth 100000 in
set_option maxHeartbeats 1000000 in
theorem letter_any (n : Nat) (hn : n < 16) (v : Int) (hv : v = n) (w : World) : Calls Tryd.prog 25 #[.int .u8 v] w fun e w' => e = .returned (.int .u8 ((digitOf n).toNat : Int)) ∧ w = w' := by
  subst hv
  rw [digitOf_int n hn]
  go_enter Tryd.func25, Tryd.ntmps25
  by_cases h : n < 10
  · rw [if_pos h]
    go_wp2
    go_ret
    exact ⟨rfl, rfl⟩
  · rw [if_neg h]
    go_wp2
    go_ret
    exact ⟨by go_num, rfl⟩

/-- What lies in a row of the call's own stands as long as the world only grows. -/
theorem OwnBytes.grown {w w' : World} {base : Nat} {v : Value} {L : List (BitVec 8)} (h : OwnBytes w base v L) (hb : Below w.heap.size w w') : OwnBytes w' base v L := by
  refine ⟨h.1, ?_⟩
  rcases h.2 with h0 | ⟨g, cap, cur, hv, hg, hh, r⟩
  · exact .inl h0
  · refine .inr ⟨g, cap, cur, hv, hg, ?_, r⟩
    rw [hb.block g (by
      rcases Nat.lt_or_ge g w.heap.size with hl | hl
      · exact hl
      · rw [Array.getElem?_eq_none hl] at hh; cases hh)]
    exact hh

set_option maxRecDepth 100000 in
set_option maxHeartbeats 1000000 in
theorem rhex_any (xs : List (BitVec 8)) (a : Option Addr) (cap : Nat) (w : World) (hr : Reads w w.heap.size a xs) (hx : xs ≠ []) (hlen : xs.length ≤ 1099511627776) :
    Calls Tryd.prog 14 #[.slice a xs.length cap] w fun e w' => e = .returned (.string ⟨(hexL xs).toArray⟩) ∧ Below w.heap.size w w' := by
  obtain ⟨i5, hi5, hz5, hs5, hy5⟩ := info_parts Tryd.info_u8
  have hr0 := Lib.hid hr
  clear hr
  go_enter Tryd.func14, Tryd.ntmps14
  go_wp2_with (fail)
  go_loopw [3, 4] (fun v i wr => ∃ k : Nat, k ≤ xs.length ∧ i = .int .i64 k ∧ OwnBytes wr w.heap.size v ((hexL (xs.take k)).map UB) ∧ Below w.heap.size w wr) (fun _ i _ => xs.length - (intOf i).toNat)
  case atStart => exact ⟨0, by omega, rfl, World.ownsRow_nil _ _ _ _, Below.refl _ _⟩
  case round =>
    rename_i v0 i0
    obtain ⟨k, hk, rfl, hown, hB⟩ := hrel
    by_cases hlt : k < xs.length
    · obtain ⟨b, off, rfl, hbl, hcl⟩ := hr0.out (by omega)
      have hc := (hB.cell (p := ⟨b, off + k, none⟩) hbl).trans (hcl k hlt)
      have ht := take_one hlt (0 : BitVec 8)
      generalize xs.getD k 0 = x at *
      have hx8 := x.isLt
      have hL : (hexL (xs.take (k + 1))).map UB = (hexL (xs.take k)).map UB ++ [UB (digitOf (x.toNat / 16)), UB (digitOf (x.toNat % 16))] := by
        rw [ht, hexL_append, List.map_append]; rfl
      have hLl : ((hexL (xs.take k)).map UB).length = 2 * k := by rw [List.length_map, hexL_length, List.length_take_of_le hk]
      generalize (hexL (xs.take k)).map UB = L at *
      replace ht := Lib.hid ht
      replace hL := Lib.hid hL
      replace hLl := Lib.hid hLl
      have hbw : b < wr.heap.size := Nat.lt_of_lt_of_le hbl hB.size
      have e1 : IntKind.u8.wrap ((x.toNat : Int) / 16) = ((x.toNat / 16 : Nat) : Int) := by rw [IntKind.wrap_u8]; omega
      have e2 : (x.toNat : Int).tmod 16 = ((x.toNat % 16 : Nat) : Int) := by rw [Int.tmod_eq_emod_of_nonneg (by omega)]; omega
      have b1 : x.toNat / 16 < 16 := by omega
      have b2 : x.toNat % 16 < 16 := by omega
      generalize x.toNat / 16 = q1 at *
      generalize x.toNat % 16 = q2 at *
      replace hown := Lib.hid hown
      have hc' := fun z => Grew.cell (B := wr.heap.size) hc hbw z
      go_wp2_with (fail)
      refine wp_region_held_calls (C := fun w' => ∃ x : Grew wr.heap.size wr, w' = x.1) 13 (by kernel_rfl) (by kernel_rfl) (by kernel_rfl) (by intro c a d u w h; cases d <;> exact h) ⟨⟨wr.drew, (Below.refl _ _).drew⟩, rfl⟩ ?_
      simp only [List.take_succ_cons, List.take_zero, List.drop_succ_cons, List.drop_zero]
      repeat (go_big_quiet_step ((go_at_call 25; exact Grew.of_same (letter_any _ (by assumption) _ rfl _))))
      refine wpQuiet_nil ?_
      rintro _ ⟨z, rfl⟩
      have hown2 : OwnBytes z.1 w.heap.size u3 L := hown.out.grown z.2
      refine ⟨_, _, _, rfl, rfl, exec_buildSlice_flat 31 5 2 _ rfl Tryd.underlying31 i5 _ hi5 hs5 hz5 [.int .u8 ((digitOf q1).toNat : Int), .int .u8 ((digitOf q2).toNat : Int)] rfl (by omega) (by omega) (by kernel_rfl) (by simp [Value.cells]) _, ⟨⟨_, z.2.alloc (by exact z.2.size) _⟩, rfl⟩, ?_⟩
      have hBz : Below w.heap.size w (z.1.alloc (.cells #[.int .u8 ((digitOf q1).toNat : Int), .int .u8 ((digitOf q2).toNat : Int)] 5)) := (hB.trans (z.2.mono hB.size)).alloc (Nat.le_trans hB.size z.2.size) _
      go_frame
      refine wpList_grow_bytes rfl (.tmp 11) (.tmp 24) rfl w.heap.size u3 L rfl (hown2.alloc _) (some ⟨z.1.heap.size, 0, none⟩) 2 (z.1.heap.size + 1) [UB (digitOf q1), UB (digitOf q2)] rfl (fun _ => ⟨z.1.heap.size, 0, rfl, by omega, fun j hj => ?_⟩) (by simp) (by have := hLl.out; simp; omega) (by have := Nat.le_trans hB.size z.2.size; simp; omega) w.heap.size w hBz (Nat.le_refl _) ?_
      · rw [(Blk.new z.1 _ _).cell, Nat.zero_add]
        match j, hj with
        | 0, _ => rfl
        | 1, _ => rfl
      intro v1 w1 hown3 _ hB3
      go_frame
      go_wp2
      go_roundw
      case rel => exact ⟨k + 1, by omega, by go_num, by rw [hL.out]; exact hown3, hB3⟩
      case measure => simp [intOf]; omega
    · obtain rfl : k = xs.length := by omega
      rw [List.take_length] at hown
      have hne : 0 < (hexL xs).length := by rw [hexL_length]; have := List.length_pos_iff.2 hx; omega
      obtain ⟨T, hT⟩ : ∃ T, T = hexL xs := ⟨_, rfl⟩
      rw [← hT] at hown hne
      replace hT := Lib.hid hT
      obtain ⟨g, cp, rfl, _, _⟩ := own_form hown (by rw [List.length_map]; exact hne)
      rw [List.length_map] at hown ⊢
      have hown' : wr.ownsRow w.heap.size 5 1 (.slice (some ⟨g, 0, none⟩) T.length cp) T.length ((T.map UB).map B8) := by
        have := hown
        unfold OwnBytes at this
        rwa [List.length_map] at this
      have hcv := run_convert_bytes_back (P := Tryd.prog) wr 31 9 5 ⟨g, 0, none⟩ cp T Tryd.underlying31 Tryd.underlying5 Tryd.underlying9 (fun j hj => by
        rw [addr_add, Nat.zero_add, hown'.cellAt j (by omega)]
        simp [hj, UB])
      clear hown hown'
      go_wp2
      go_ret
      exact ⟨congrArg (fun T => Ending.returned (.string ⟨List.toArray T⟩)) hT.out, hB⟩

/-- Thirty-two bytes, so many of them turned about. -/
def backCells (t : List (BitVec 8)) (i : Nat) : Array Value := tabulate 32 fun q => if q < i then B8 (t.getD (31 - q) 0) else B8 0
theorem backCells_set (t : List (BitVec 8)) (i : Nat) : (backCells t i).setIfInBounds i (B8 (t.getD (31 - i) 0)) = backCells t (i + 1) := by
  unfold backCells
  rw [tabulate_set]
  refine tabulate_ext fun q _ => ?_
  by_cases h1 : q = i
  · subst h1; simp
  · by_cases h2 : q < i
    · simp only [h1, h2, if_false, if_true, (by omega : q < i + 1)]
    · have h3 : ¬ q < i + 1 := by omega
      simp only [h1, h2, h3, if_false]
theorem backCells_end (t : List (BitVec 8)) : Value.agg (backCells t 32) = HV (backL t) := by
  unfold backCells HV
  refine congrArg Value.agg (tabulate_ext fun q hq => ?_)
  rw [if_pos hq, backL_get t q hq]

set_option maxRecDepth 100000 in
set_option maxHeartbeats 1000000 in
theorem back_any (t : List (BitVec 8)) (w : World) : Calls Tryd.prog 24 #[HV t] w fun e w' => e = .returned (HV (backL t)) ∧ Below w.heap.size w w' := by
  go_enter Tryd.func24, Tryd.ntmps24
  go_upto_region 2 with (fail)
  generalize hw1 : World.alloc _ _ = w1
  have e1 : ((w.alloc (.cells (HV t).cells 27)).alloc (.cells (tabulate 32 fun _ => B8 0) 27)).alloc (.cells (tabulate 32 fun _ => B8 0) 27) = w1 := hw1
  have h1 : Blk w1 w.heap.size 27 (tabulate 32 fun q => B8 (t.getD q 0)) := by rw [← e1]; exact ((Blk.new w _ _).alloc _).alloc _
  have h2 : Blk w1 (w.heap.size + 1) 27 (tabulate 32 fun _ => B8 0) := by
    rw [← e1]
    have := (Blk.new (w.alloc (.cells (HV t).cells 27)) 27 (tabulate 32 fun _ => B8 0)).alloc (.cells (tabulate 32 fun _ => B8 0) 27)
    rw [World.size_alloc] at this
    exact this
  have h3 : Blk w1 (w.heap.size + 2) 27 (backCells t 0) := by
    rw [← e1]
    have := Blk.new ((w.alloc (.cells (HV t).cells 27)).alloc (.cells (tabulate 32 fun _ => B8 0) 27)) 27 (tabulate 32 fun _ => B8 0)
    rw [World.size_alloc, World.size_alloc] at this
    exact this
  have hB1 : Below w.heap.size w w1 := by rw [← e1]; exact (((Below.refl _ _).alloc (Nat.le_refl _) _).alloc (by simp <;> omega) _).alloc (by simp <;> omega) _
  clear hw1 e1
  go_wp2_with (fail)
  go_loopw [4] (fun v wr => ∃ k : Nat, k ≤ 32 ∧ v = .int .i64 k ∧ Blk wr w.heap.size 27 (tabulate 32 fun q => B8 (t.getD q 0)) ∧ Blk wr (w.heap.size + 1) 27 (tabulate 32 fun _ => B8 0) ∧
    Blk wr (w.heap.size + 2) 27 (backCells t k) ∧ Below w.heap.size w wr) (fun v _ => 32 - (intOf v).toNat)
  case atStart => exact ⟨0, by omega, rfl, h1, h2, h3, hB1⟩
  case round =>
    obtain ⟨k, hk, rfl, hA, hR, hO, hB⟩ := hrel
    clear h1 h2 h3 hB1
    by_cases hlt : k < 32
    · have ca := hA.cell (31 - k)
      rw [tabulate_get (by omega)] at ca
      have hki : (31 : Int) - (k : Int) = ((31 - k : Nat) : Int) := by omega
      have hco : wr.cell? ⟨w.heap.size + 2, k, none⟩ = some (B8 0) := by rw [hO.cell, backCells, tabulate_get hlt, if_neg (by omega)]
      have hfo := hO.free k
      go_wp2
      go_roundw
      case rel =>
        refine ⟨k + 1, by omega, by go_num, hA.far (by simp <;> omega) _, hR.far (by simp <;> omega) _, ?_, hB.setCell (by simp <;> omega) _⟩
        rw [← backCells_set]
        exact hO.set _ _
      case measure => simp [intOf]; omega
    · obtain rfl : k = 32 := by omega
      have hi27 : (Tryd.prog.info? 27).map (·.size) = some (backCells t 32).size := by rw [backCells, tabulate_size]; kernel_rfl
      replace hi27 := Lib.hid hi27
      have h1 : (backCells t 32).all (·.oneCell') = true := tabulate_one fun j _ => by split <;> rfl
      go_wp2_with (first
        | (refine wpList_load_row rfl 27 _ rfl (w.heap.size + 2) rfl 27 _ (0, 0) _ hO Tryd.underlying27 rfl hi27.out ?_)
        | (refine wpList_store_row rfl 27 _ _ rfl (w.heap.size + 1) _ rfl rfl 27 _ hR hi27.out (by rw [backCells, tabulate_size, tabulate_size]) h1 ?_))
      refine bodyPost_ret (v := .agg (backCells t 32)) (results_cell_row rfl _ _ (w.heap.size + 1) 27 _ (0, 0) _ rfl (hR.row _) Tryd.underlying27 rfl hi27.out) rfl ⟨?_, Below.setRow hB (by omega) _⟩
      rw [backCells_end]

set_option maxRecDepth 100000 in
set_option maxHeartbeats 1000000 in
theorem rturned_any (t : List (BitVec 8)) (w : World) :
    Calls Tryd.prog 13 #[HV t] w fun e w' => e = .returned (.string ⟨(hexL (backL t)).toArray⟩) ∧ Below w.heap.size w w' := by
  obtain ⟨i5, hi5, _, hs5, _⟩ := info_parts Tryd.info_u8
  go_enter Tryd.func13, Tryd.ntmps13
  have hi27 : (Tryd.prog.info? 27).map (·.size) = some (tabulate 32 fun q => B8 ((backL t).getD q 0)).size := by rw [tabulate_size]; kernel_rfl
  replace hi27 := Lib.hid hi27
  go_upto_region 1 with (fail)
  generalize hw1 : World.alloc _ _ = w1
  have e1 : w.alloc (.cells (HV t).cells 27) = w1 := hw1
  have h1 : Blk w1 w.heap.size 27 (tabulate 32 fun q => B8 (t.getD q 0)) := by rw [← e1]; exact Blk.new w _ _
  have hB1 : Below w.heap.size w w1 := by rw [← e1]; exact (Below.refl _ _).alloc (Nat.le_refl _) _
  clear hw1 e1
  have hi27' : (Tryd.prog.info? 27).map (·.size) = some (tabulate 32 fun q => B8 (t.getD q 0)).size := by rw [tabulate_size]; kernel_rfl
  replace hi27' := Lib.hid hi27'
  go_upto_region 2 with (first
    | (refine wpList_load_row rfl 27 _ rfl w.heap.size rfl 27 _ (0, 0) _ h1 Tryd.underlying27 rfl hi27'.out ?_)
    | (go_at_call 24
       refine (back_any t w1).mono ?_
       rintro e w2 ⟨rfl, hB2⟩
       have h3 : Blk (w2.alloc (.cells (tabulate 32 fun _ => B8 0) 27)) w2.heap.size 27 (tabulate 32 fun _ => B8 0) := Blk.new w2 _ _)
    | (refine wpList_store_row rfl 27 _ _ rfl w2.heap.size (tabulate 32 fun q => B8 ((backL t).getD q 0)) rfl rfl 27 _ h3 hi27.out (by rw [tabulate_size, tabulate_size]) (tabulate_one fun _ _ => rfl) ?_))
  generalize hw3 : World.setRow _ _ _ = w3
  have h4 : Blk w3 w2.heap.size 27 (tabulate 32 fun q => B8 ((backL t).getD q 0)) := by rw [← hw3]; exact h3.row _
  have hB3 : Below w.heap.size w w3 := by rw [← hw3]; exact Below.setRow ((hB1.trans (hB2.mono hB1.size)).alloc (Nat.le_trans hB1.size hB2.size) _) (Nat.le_trans hB1.size hB2.size) _
  clear hw3 h3 h1
  have hsl := fun wx => sliceAt_whole (P := Tryd.prog) Tryd.underlying27 hi5 hs5 w2.heap.size 0 wx
  have hr : Reads w3 w3.heap.size (some ⟨w2.heap.size, 0, none⟩) (backL t) := fun _ => ⟨w2.heap.size, 0, rfl, h4.lt, fun j hj => by
    rw [backL_length] at hj
    rw [Nat.zero_add, h4.cell, tabulate_get hj]⟩
  have hhx := rhex_any (backL t) (some ⟨w2.heap.size, 0, none⟩) 32 w3 hr (fun h => by have := backL_length t; rw [h] at this; simp at this) (by rw [backL_length]; omega)
  rw [backL_length] at hhx
  replace hhx := Lib.hid hhx
  go_wp2_with (go_at_call 14; refine hhx.out.mono ?_; rintro e w4 ⟨rfl, hB4⟩)
  go_ret
  exact ⟨rfl, hB3.trans (hB4.mono hB3.size)⟩
end Go.Proofs.YtbmndibhalbioaaDoor
