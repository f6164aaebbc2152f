/-
  The check of bytes (sha.Twice, vault.check).
-/
import Derived.Test.YtiidohaibbdgeaaDoorVLow
namespace Go.Proofs.YtiidohaibbdgeaaDoor
open Go Go.RowKit

theorem Tab.lies {B : Nat} {w w' : World} (h : Tab w) (hl : Lies B w w') (hB : 0 < B) : Tab w' := h.below hl.below hB
theorem shaSum_get (m : Bs) (q : Nat) (h : q < 32) : (shaSum m).getD q 0 = sumByte m q := by simp [shaSum, h]
theorem Reads.up {w : World} {B B' : Nat} {a : Option Addr} {xs : Bs} (h : Reads w B a xs) (hB : B ≤ B') : Reads w B' a xs := fun hn => by
  obtain ⟨b, o, ha, hb, hc⟩ := h hn
  exact ⟨b, o, ha, Nat.lt_of_lt_of_le hb hB, hc⟩
/-- A hash's cells. -/
def hashA (t : Bs) : Array Value := tabulate 32 fun i => B8 (t.getD i 0)
theorem hashA_size (t : Bs) : (hashA t).size = 32 := tabulate_size _ _
theorem hashA_sum (m : Bs) : (tabulate 32 fun i => B8 (sumByte m i)) = hashA (shaSum m) := tabulate_ext fun i hi => by rw [shaSum_get m i hi]
theorem hashA_one (t : Bs) : (hashA t).all (·.oneCell') = true := tabulate_one fun _ _ => rfl
theorem reads_hash {w : World} {g : Nat} {t : Bs} (ht : t.length = 32) (h : Blk w g 105 (hashA t)) : Reads w w.heap.size (some ⟨g, 0, none⟩) t := fun _ =>
  ⟨g, 0, rfl, h.lt, fun j hj => by
    rw [ht] at hj
    rw [Nat.zero_add, h.cell, hashA, tabulate_get hj]⟩

set_option maxRecDepth 100000 in
set_option maxHeartbeats 1000000 in
theorem twice_any (xs : Bs) (a : Option Addr) (cap : Nat) (w : World) (hr : Reads w w.heap.size a xs) (hcap : xs.length ≤ cap) (hlen : xs.length < 1152921504606846976) (hT : Tab w) :
    Calls Tryd.prog 73 #[.slice a xs.length cap] w fun e w' => e = .returned (.agg (hashA (checkL xs))) ∧ Below w.heap.size w w' := by
  obtain ⟨i5, hi5, _, hs5, _⟩ := info_parts Tryd.info_u8
  have hd : Below w.heap.size w (w.alloc (.cells (hashA (List.replicate 32 0)) 105)) := (Below.refl _ _).alloc (Nat.le_refl _) _
  have hs1 := sum_any xs a cap _ ((hr.below hd).up hd.size) hcap hlen (hT.grown hd)
  rw [hashA_sum] at hs1
  have hR := Blk.new w 105 (hashA (List.replicate 32 0))
  have hi : ∀ t : Bs, (Tryd.prog.info? 105).map (·.size) = some (hashA t).size := fun t => by rw [hashA_size]; kernel_rfl
  have hl1 := shaSum_length xs
  obtain ⟨S, hS⟩ : ∃ S, S = shaSum xs := ⟨_, rfl⟩
  rw [← hS] at hs1 hl1
  have hck : checkL xs = shaSum S := by rw [hS]; rfl
  rw [hck]
  have hT0 := Lib.hid hT
  replace hs1 := Lib.hid hs1
  replace hi := Lib.hid hi
  clear hr hT hS hck hd
  go_enter Tryd.func73, Tryd.ntmps73
  go_upto_region 2 with (first
    | (go_at_call 80
       refine hs1.out.mono ?_
       rintro e w1 ⟨rfl, hB1⟩
       have h1 : Blk (w1.alloc (.cells (hashA (List.replicate 32 0)) 105)) w1.heap.size 105 (hashA (List.replicate 32 0)) := Blk.new w1 _ _)
    | (refine wpList_store_row rfl 105 _ _ rfl w1.heap.size (hashA S) rfl rfl 105 _ h1 (hi.out _) (by rw [hashA_size, hashA_size]) (hashA_one _) ?_))
  generalize hw2 : World.setRow _ _ _ = w2
  have h2 : Blk w2 w1.heap.size 105 (hashA S) := by rw [← hw2]; exact h1.row _
  have hb1 : Below w.heap.size w w1 := ((Below.refl _ _).alloc (Nat.le_refl _) _).trans (hB1.mono (by simp))
  have hB2 : Below w.heap.size w w2 := by rw [← hw2]; exact Below.setRow (hb1.alloc hb1.size _) hb1.size _
  have hR1 : Blk w1 w.heap.size 105 (hashA (List.replicate 32 0)) := hR.below hB1 (by simp)
  have hR2 : Blk w2 w.heap.size 105 (hashA (List.replicate 32 0)) := by
    rw [← hw2]
    exact (hR1.alloc _).row_far (by have := hR1.lt; omega) _
  clear hw2 h1 hR1 hb1
  have hs2 := sum_any S (some ⟨w1.heap.size, 0, none⟩) 32 w2 (reads_hash hl1 h2) (by omega) (by omega) (hT0.out.grown hB2)
  rw [hashA_sum, hl1] at hs2
  replace hs2 := Lib.hid hs2
  have hsl := fun wx => sliceAt_whole (P := Tryd.prog) Tryd.underlying105 hi5 hs5 w1.heap.size 0 wx
  go_wp2_with (first
    | (go_at_call 80
       refine hs2.out.mono ?_
       rintro e w3 ⟨rfl, hB3⟩
       have hR3 := hR2.below hB3 hR2.lt)
    | (refine wpList_store_row rfl 105 _ _ rfl w.heap.size (hashA (shaSum S)) rfl rfl 105 _ hR3 (hi.out _) (by rw [hashA_size, hashA_size]) (hashA_one _) ?_))
  exact bodyPost_ret (v := .agg (hashA (shaSum S))) (results_cell_row rfl _ _ w.heap.size 105 _ (0, 0) _ rfl (hR3.row _) Tryd.underlying105 rfl (hi.out _)) rfl ⟨rfl, Below.setRow (hB2.trans (hB3.mono hB2.size)) (Nat.le_refl _) _⟩

/-- Bytes are handed back, in memory that is new. -/
def BytesRet (xs : Bs) (w : World) (e : Ending) (w' : World) : Prop := ∃ a cap, e = .returned (.slice a xs.length cap) ∧ (a = none → cap = 0) ∧ xs.length ≤ cap ∧ (∀ B, BytesAt B w' a xs) ∧ Below w.heap.size w w'

set_option maxRecDepth 100000 in
set_option maxHeartbeats 1000000 in
theorem check_any (xs : Bs) (a : Option Addr) (cap : Nat) (w : World) (hr : Reads w w.heap.size a xs) (hcap : xs.length ≤ cap) (hlen : xs.length < 1152921504606846976) (hT : Tab w) :
    Calls Tryd.prog 58 #[.slice a xs.length cap] w (BytesRet (checkL xs) w) := by
  obtain ⟨i5, hi5, _, hs5, _⟩ := info_parts Tryd.info_u8
  have hs1 := twice_any xs a cap w hr hcap hlen hT
  have hi : ∀ t : Bs, (Tryd.prog.info? 105).map (·.size) = some (hashA t).size := fun t => by rw [hashA_size]; kernel_rfl
  have hl := checkL_length xs
  generalize checkL xs = C at *
  replace hs1 := Lib.hid hs1
  replace hi := Lib.hid hi
  clear hr hT
  go_enter Tryd.func58, Tryd.ntmps58
  go_upto_region 2 with (first
    | (go_at_call 73
       refine hs1.out.mono ?_
       rintro e w1 ⟨rfl, hB1⟩
       have h1 : Blk (w1.alloc (.cells (hashA (List.replicate 32 0)) 105)) w1.heap.size 105 (hashA (List.replicate 32 0)) := Blk.new w1 _ _)
    | (refine wpList_store_row rfl 105 _ _ rfl w1.heap.size (hashA C) rfl rfl 105 _ h1 (hi.out _) (by rw [hashA_size, hashA_size]) (hashA_one _) ?_))
  generalize hw2 : World.setRow _ _ _ = w2
  have h2 : Blk w2 w1.heap.size 105 (hashA C) := by rw [← hw2]; exact h1.row _
  have hB2 : Below w.heap.size w w2 := by rw [← hw2]; exact Below.setRow (hB1.alloc hB1.size _) hB1.size _
  clear hw2 h1 hs1
  have hsl := fun wx => sliceAt_whole (P := Tryd.prog) Tryd.underlying105 hi5 hs5 w1.heap.size 0 wx
  have hl0 := Lib.hid hl
  clear hl
  go_wp2_with (fail)
  go_ret
  refine ⟨some ⟨w1.heap.size, 0, none⟩, 32, by rw [hl0.out]; rfl, (fun h => by cases h), by rw [hl0.out]; omega, fun B hn => ⟨w1.heap.size, 0, rfl, .of h2, fun j hj => ?_⟩, hB2⟩
  rw [hl0.out] at hj
  rw [Nat.zero_add, h2.cell, hashA, tabulate_get hj]

set_option maxRecDepth 100000 in
set_option maxHeartbeats 1000000 in
theorem head_any (g n : Nat) (hn : n ≤ 9223372036854775807) (w : World) (hT : Tab w) : Calls Tryd.prog 41 #[.int .u64 g, .int .i64 n] w (OwnRet (headL g n) w) := by
  have h1 := fun wx => low_any g 8 (by omega) wx
  have h2 := fun wx => low_any n 4 (by omega) wx
  have e1 := lowL_length g 8
  have e2 := lowL_length n 4
  have hT0 := Lib.hid hT
  have hh : headL g n = (lowL g 8 ++ lowL n 4) ++ checkL (lowL g 8 ++ lowL n 4) := rfl
  rw [hh]
  have e3 := checkL_length (lowL g 8 ++ lowL n 4)
  have hck := fun (a : Option Addr) (cap : Nat) (wx : World) hr hc hT => check_any (lowL g 8 ++ lowL n 4) a cap wx hr hc (by simp [lowL_length]) hT
  have e4 : (lowL g 8 ++ lowL n 4).length = 12 := by simp [lowL_length]
  generalize lowL g 8 = A at *
  generalize lowL n 4 = C at *
  obtain ⟨D, hD⟩ : ∃ D, D = A ++ C := ⟨_, rfl⟩
  rw [← hD] at e3 e4 hck ⊢
  replace h1 := Lib.hid h1
  replace h2 := Lib.hid h2
  replace hck := Lib.hid hck
  replace hD := Lib.hid hD
  generalize checkL D = K at *
  clear hT hh
  go_enter Tryd.func41, Tryd.ntmps41
  have le1 : A.length ≤ 8 := by omega
  have le2 : C.length ≤ 4 := by omega
  have le3 : K.length ≤ 32 := by omega
  have le4 : D.length ≤ 12 := by omega
  clear e1 e2 e3 e4
  go_wp2_with (first
    | (go_at_call_of 68 (Value.int .u64 g); refine (h1.out _).mono ?_; rintro e w1 ⟨v1, rfl, hown1, hB1⟩)
    | (go_at_call 68
       refine (h2.out _).mono ?_
       rintro e w2 ⟨v2, rfl, hown2, hB2⟩
       obtain ⟨a2, c2, rfl, hn2, _, _, hb2⟩ := BytesAt.of_own (B := 0) hown2
       have hB2' := hB1.trans (hB2.mono hB1.size)
       have hown1' := hown1.on hB2)
    | (at_builtin
       refine wpList_grow_bytes rfl (.tmp 7) (.tmp 10) rfl w.heap.size v1 A rfl hown1' a2 c2 w2.heap.size C rfl hb2.reads hn2 (by omega) hB2'.size w.heap.size w hB2' (Nat.le_refl _) ?_
       intro v3 w3 hown3 _ hB3
       rw [← hD.out] at hown3
       obtain ⟨a3, c3, rfl, hn3, hl3, _, hb3⟩ := BytesAt.of_own (B := 0) hown3)
    | (go_at_call 58
       refine (hck.out a3 c3 w3 hb3.reads hl3 (hT0.out.grown hB3)).mono ?_
       rintro e w4 ⟨a4, c4, rfl, hn4, hl4, hb4, hB4⟩
       have hB4' := hB3.trans (hB4.mono hB3.size)
       have hown3' := hown3.on hB4)
    | (at_builtin
       refine wpList_grow_bytes rfl (.tmp 12) (.tmp 14) rfl w.heap.size _ D rfl hown3' a4 c4 w4.heap.size K rfl (hb4 0).reads hn4 (by omega) hB4'.size w.heap.size w hB4' (Nat.le_refl _) ?_
       intro v5 w5 hown5 _ hB5))
  go_ret
  exact ⟨_, rfl, hown5, hB5⟩
end Go.Proofs.YtiidohaibbdgeaaDoor
