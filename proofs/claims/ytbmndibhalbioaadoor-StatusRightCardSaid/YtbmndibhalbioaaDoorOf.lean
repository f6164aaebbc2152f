/-
  What a history comes to: the program's (status.Of).
-/
import Derived.Test.YtbmndibhalbioaaDoorRefOf
import Derived.Deep.RegionHeld3
namespace Go.Proofs.YtbmndibhalbioaaDoor
open Go Go.RowKit

set_option maxRecDepth 100000 in
theorem begins_page : Begins 40 := ⟨by kernel_rfl, by decide⟩
theorem info_str : (Tryd.prog.info? 9).map (fun i => (i.zero, i.size, i.bytes)) = some (some (.string ⟨#[]⟩), 1, 16) := by kernel_rfl

theorem Blk.kept {w w' : World} {g b : Nat} {t : TypeId} {cs : Array Value} (h : Blk w g t cs) (hk : Lib.OthersKept 5 (some b) w w') (hb : g ≠ b) (ht : t ≠ 5) : Blk w' g t cs :=
  hk g _ h (fun e => hb (Option.some.inj e)) fun c fz e => by injection e with _ e _; exact ht e

/-- What of an entry's text is written behind so many strings. -/
def partText (x : Ent) : Nat → List UInt8
  | 0 => []
  | 1 => hexL (backL x.tx) ++ [58]
  | _ => entText x

/-- An entry as a value. -/
def entCells (e : Ent) : Array Value := (.int .i64 e.h :: hashCells e.tx).toArray
def EV (e : Ent) : Value := .agg (entCells e)

set_option maxRecDepth 100000 in
set_option maxHeartbeats 1000000 in
theorem entry_any (x : Ent) (hx : x.ok) (B b : Nat) (xs : List UInt8) (w : World) (h : IsB 40 B b xs w) (hlen : xs.length ≤ 1000000000) (hBw : B ≤ w.heap.size) (hP : ∀ w', Below B w w' → Pow w') :
    Calls Tryd.prog 15 #[.pointer (some ⟨b, 0, none⟩), EV x] w fun e w' => e = .returned (.tuple #[]) ∧ IsB 40 B b (xs ++ entText x) w' ∧ Below B w w' := by
  obtain ⟨i9, hi9, hz9, hs9, _⟩ := info_parts info_str
  have hP0 := Lib.hid hP
  clear hP
  go_enter Tryd.func15, Tryd.ntmps15
  go_upto_region 1 with (fail)
  generalize hw1 : World.alloc _ _ = w1
  have e1 : w.alloc (.cells (entCells x) 29) = w1 := hw1
  have h1 : Blk w1 w.heap.size 29 (entCells x) := by rw [← e1]; exact Blk.new w _ _
  have hg1 : Below w.heap.size w w1 := by rw [← e1]; exact (Below.refl _ _).alloc (Nat.le_refl _) _
  have hb1 := h.grown hg1
  clear hw1 e1 h
  have hSm : ∀ w', Below w1.heap.size w1 w' → w'.cell? ⟨w.heap.size, 0, none⟩ = some (.int .i64 x.h) ∧ w'.rangeAt w.heap.size 1 (hashCells x.tx) ∧ Below w1.heap.size w1 w' := fun w' hb => by
    have hr : w1.rangeAt w.heap.size 1 (hashCells x.tx) := fun j v hj => by
      rw [h1.cell]; simp only [entCells, List.getElem?_toArray, Nat.add_comm 1 j, List.getElem?_cons_succ]; exact hj
    exact ⟨(hb.cell h1.lt).trans (by rw [h1.cell]; rfl), rangeAt_below hr hb h1.lt, hb⟩
  have u27 := Tryd.underlying27
  have s27 : (Tryd.prog.info? 27).map (·.size) = some (hashCells x.tx).length := by rw [hashCells_length]; kernel_rfl
  have l27 := hashCells_length x.tx
  go_region_held3 (fun w' => w'.cell? ⟨w.heap.size, 0, none⟩ = some (.int .i64 x.h) ∧ w'.rangeAt w.heap.size 1 (hashCells x.tx) ∧ Below w1.heap.size w1 w')
    (first | assumption | exact hSm _ (hB3.alloc hB3.size _) | exact hSm _ (Below.refl _ _) | exact hSm _ (Below.drew (Below.refl _ _)))
    (first
      | (go_at_call 26
         rw [HV_eq]
         refine (turned_any x.tx _).mono ?_
         rintro e w2 ⟨rfl, hB2⟩
         replace hB2 := ((Below.refl _ _).drew).trans hB2
         have hS2 := hSm _ hB2)
      | (go_at_call 27
         refine (itoa_any x.h hx.2.1 hx.2.2 _ (hP0.out _ ((hg1.mono hBw).trans (hB2.mono (Nat.le_trans hBw hg1.size))))).mono ?_
         rintro e w3 ⟨rfl, hB3⟩
         replace hB3 := hB2.trans (hB3.mono hB2.size)
         have hS3 := hSm _ hB3))
  have hbz : IsB 40 B b xs w3 := hb1.grown hB3
  have hblt : b < w3.heap.size := hbz.elim (fun h => Lib.BuilderAt.lt h) (fun h => Lib.BuilderAt.lt h)
  have hBz : Below B w w3 := (hg1.mono hBw).trans (hB3.mono (Nat.le_trans hBw hg1.size))
  have hBzs : B ≤ w3.heap.size := Nat.le_trans hBw hBz.size
  generalize hw4 : World.alloc _ _ = w4
  have h4 : Blk w4 w3.heap.size 9 #[.string ⟨(hexL (backL x.tx)).toArray⟩, .string ⟨(Lib.itoa x.h).toArray⟩] := by rw [← hw4]; exact Blk.new w3 _ _
  have hB4 : Below B w w4 := by rw [← hw4]; exact hBz.alloc hBzs _
  have hb4 : IsB 40 B b (xs ++ partText x 0) w4 := by
    rw [partText, List.append_nil, ← hw4]
    exact hbz.grown ((Below.refl _ _).alloc (Nat.le_refl _) _)
  obtain ⟨g, hg⟩ : ∃ g, w3.heap.size = g := ⟨_, rfl⟩
  rw [hg] at h4 hblt ⊢
  have hgb : g ≠ b := by omega
  have hl1 := backText_length x.tx
  have hl2 := Lib.itoa_length_le x.h hx.2.1 hx.2.2
  have hp1 : partText x 1 = hexL (backL x.tx) ++ [58] := rfl
  have hp2 : partText x 2 = partText x 1 ++ Lib.itoa x.h ++ [58] := by simp [partText, entText]
  have hpe : partText x 2 = entText x := rfl
  clear hw4 hg hBz hbz h1 hS2 hS3 hB2 hB3 hSm hg1 hb1 hBzs
  obtain ⟨T1, hT1⟩ : ∃ S, S = hexL (backL x.tx) := ⟨_, rfl⟩
  obtain ⟨T2, hT2⟩ : ∃ S, S = Lib.itoa x.h := ⟨_, rfl⟩
  rw [← hT1] at hl1 hp1 h4
  rw [← hT2] at hl2 hp2 h4
  clear hT1 hT2
  replace hp1 := Lib.hid hp1
  replace hp2 := Lib.hid hp2
  go_wp2_with (fail)
  go_loopw [14] (fun i wr => ∃ k : Nat, k ≤ 2 ∧ i = .int .i64 k ∧ Blk wr g 9 #[.string ⟨T1.toArray⟩, .string ⟨T2.toArray⟩] ∧ IsB 40 B b (xs ++ partText x k) wr ∧ Below B w wr) (fun i _ => 2 - (intOf i).toNat)
  case atStart => exact ⟨0, by omega, rfl, h4, hb4, hB4⟩
  case round =>
    obtain ⟨k, hk, rfl, hr, hb, hB⟩ := hrel
    clear h4 hb4 hB4
    have h3 : k = 0 ∨ k = 1 ∨ k = 2 := by omega
    rcases h3 with rfl | rfl | rfl
    · have hc : wr.cell? ⟨g, 0, none⟩ = some (.string ⟨T1.toArray⟩) := by rw [hr.cell]; rfl
      have hl0 : (xs ++ partText x 0).length = xs.length := by simp [partText]
      have hz : ∀ c, (⟨T1.toArray⟩ : ByteArray).data.toList ++ [c] = T1 ++ [c] := fun c => rfl
      have hlT : (⟨T1.toArray⟩ : ByteArray).size = T1.length := rfl
      go_wp2_with (first
        | (go_at_call 28
           refine (writeString_any begins_page B b (xs ++ partText x 0) ⟨T1.toArray⟩ wr hb (by rw [hl0]; omega) (Nat.le_trans hBw hB.size)).mono ?_
           rintro e w5 ⟨rfl, hb5, hB5, hk5⟩
           have hr5 := hr.kept hk5 hgb (by decide)
           have hB5' := hB.trans hB5)
        | (go_at_call 29
           refine (writeByte_any begins_page B b _ 58 _ rfl w5 (.inr hb5) (by rw [List.length_append, hl0]; exact (by omega : xs.length + T1.length + 1 ≤ 140737488355328)) (Nat.le_trans hBw hB5'.size)).mono ?_
           rintro e w6 ⟨rfl, hb6, hB6, hk6⟩
           have hr6 := hr5.kept hk6 hgb (by decide)
           have hB6' := hB5'.trans hB6))
      go_roundw
      case rel =>
        refine ⟨1, by omega, by go_num, hr6, ?_, hB6'⟩
        have e : xs ++ partText x 0 ++ T1 ++ [58] = xs ++ partText x 1 := by rw [hp1.out]; simp [partText]
        rw [← e]
        exact .inr hb6
      case measure => simp [intOf]
    · have hc : wr.cell? ⟨g, 1, none⟩ = some (.string ⟨T2.toArray⟩) := by rw [hr.cell]; rfl
      have hl0 : (xs ++ partText x 1).length = xs.length + T1.length + 1 := by rw [hp1.out]; simp; omega
      have hlT : (⟨T2.toArray⟩ : ByteArray).size = T2.length := rfl
      go_wp2_with (first
        | (go_at_call 28
           refine (writeString_any begins_page B b (xs ++ partText x 1) ⟨T2.toArray⟩ wr hb (by rw [hl0]; omega) (Nat.le_trans hBw hB.size)).mono ?_
           rintro e w5 ⟨rfl, hb5, hB5, hk5⟩
           have hr5 := hr.kept hk5 hgb (by decide)
           have hB5' := hB.trans hB5)
        | (go_at_call 29
           refine (writeByte_any begins_page B b _ 58 _ rfl w5 (.inr hb5) (by rw [List.length_append, hl0]; exact (by omega : xs.length + T1.length + 1 + T2.length + 1 ≤ 140737488355328)) (Nat.le_trans hBw hB5'.size)).mono ?_
           rintro e w6 ⟨rfl, hb6, hB6, hk6⟩
           have hr6 := hr5.kept hk6 hgb (by decide)
           have hB6' := hB5'.trans hB6))
      go_roundw
      case rel =>
        refine ⟨2, by omega, by go_num, hr6, ?_, hB6'⟩
        have e : xs ++ partText x 1 ++ T2 ++ [58] = xs ++ partText x 2 := by rw [hp2.out]; simp
        rw [← e]
        exact .inr hb6
      case measure => simp [intOf]
    · go_wp2
      go_end0
      exact ⟨rfl, hb, hB⟩

theorem entCells_size (e : Ent) : (entCells e).size = 33 := by simp [entCells, hashCells_length]
theorem entCells_one (e : Ent) : (entCells e).all (·.oneCell') = true := by
  rw [Array.all_eq_true_iff_forall_mem]
  intro v hv
  simp only [entCells, List.mem_toArray, List.mem_cons] at hv
  rcases hv with rfl | hv
  · rfl
  · simp [hashCells, tabulate] at hv
    obtain ⟨j, _, rfl⟩ := hv
    rfl
theorem ent_range {w : World} {b o : Nat} {e : Ent} (h1 : w.cell? ⟨b, o, none⟩ = some (.int .i64 e.h)) (h2 : w.rangeAt b (o + 1) (hashCells e.tx)) : w.rangeAt b o (entCells e).toList := fun j v hj => by
  cases j with
  | zero => simp [entCells] at hj; rw [Nat.add_zero, h1, hj]
  | succ j =>
    have := h2 j v (by simpa [entCells] using hj)
    rwa [show o + (j + 1) = o + 1 + j by omega]

set_option maxRecDepth 100000 in
set_option maxHeartbeats 1000000 in
theorem of_any (l : List Ent) (hok : Oks l) (a : Option Addr) (cap : Nat) (w : World) (hr : EntsAt w w.heap.size a l) (hlen : l.length ≤ 1000000) (hT : Tab w) (hP : Pow w) :
    Calls Tryd.prog 7 #[.slice a l.length cap] w fun e w' => e = .returned (.string ⟨(ofL l).toArray⟩) ∧ Below w.heap.size w w' := by
  obtain ⟨i5, hi5, _, hs5, _⟩ := info_parts Tryd.info_u8
  have hr0 := Lib.hid hr
  have hT0 := Lib.hid hT
  have hP0 := Lib.hid hP
  clear hr hT hP
  go_enter Tryd.func7, Tryd.ntmps7
  by_cases h0 : l.length = 0
  · have e : ofL l = [] := by rw [ofL, if_pos h0]
    go_wp2
    go_ret
    exact ⟨by rw [e]; rfl, Below.refl _ _⟩
  · have e : ofL l = hexL (sumL ((textOf l).map UB)) := by rw [ofL, if_neg h0]
    rw [e]
    clear e
    have hz : (0 : Int) < (l.length : Int) := by omega
    have hz' : ((l.length : Int) == 0) = false := by rw [beq_eq_false_iff_ne]; omega
    go_upto_region 4 with (fail)
    generalize hw1 : World.alloc _ _ = w1
    have e1 : w.alloc (.cells #[.pointer none, .slice none 0 0] 40) = w1 := hw1
    have hb1 : IsB 40 w.heap.size w.heap.size (textOf (l.take 0)) w1 := by
      rw [← e1]
      exact .inl ⟨Nat.le_refl _, .slice none 0 0, Blk.new w _ _, World.ownsRow_nil _ _ _ _, by simp [Value.ownBlock]⟩
    have hB1 : Below w.heap.size w w1 := by rw [← e1]; exact (Below.refl _ _).alloc (Nat.le_refl _) _
    clear hw1 e1
    go_wp2_with (fail)
    go_loopw [12] (fun i wr => ∃ k : Nat, k ≤ l.length ∧ i = .int .i64 k ∧ IsB 40 w.heap.size w.heap.size (textOf (l.take k)) wr ∧ Below w.heap.size w wr) (fun i _ => l.length - (intOf i).toNat)
    case atStart => exact ⟨0, by omega, rfl, hb1, hB1⟩
    case round =>
      obtain ⟨k, hk, rfl, hb, hB⟩ := hrel
      clear hb1 hB1
      by_cases hlt : k < l.length
      · obtain ⟨b, off, rfl, hbl, hcl⟩ := hr0.out (by omega)
        have hc1 := (hB.cell (p := ⟨b, off + k * 33, none⟩) hbl).trans (hcl k hlt).1
        have hc2 := rangeAt_below (hcl k hlt).2 hB hbl
        have ht := take_one (l := l) (k := k) hlt (⟨0, List.replicate 32 0⟩ : Ent)
        change l.take (k + 1) = l.take k ++ [entAt l k] at ht
        have hx := hok _ (entAt_mem hlt)
        have hlS := textOf_length (hok.take k)
        rw [List.length_take_of_le hk] at hlS
        generalize entAt l k = x at *
        have hrg := ent_range hc1 hc2
        have hTx : textOf (l.take (k + 1)) = textOf (l.take k) ++ entText x := by
          rw [ht, textOf_append]; simp [textOf]
        replace hTx := Lib.hid hTx
        replace ht := Lib.hid ht
        clear hc1 hc2 hcl
        have hi29 : (Tryd.prog.info? 29).map (·.size) = some (entCells x).size := by rw [entCells_size]; kernel_rfl
        replace hi29 := Lib.hid hi29
        have hz29 : (entCells ⟨0, List.replicate 32 0⟩).size = (entCells x).size := by rw [entCells_size, entCells_size]
        have hnew := Blk.new wr 29 (entCells ⟨0, List.replicate 32 0⟩)
        go_upto_region 7 with (first
          | (refine wpList_load_mid rfl 29 _ rfl b (off + k * 33) rfl (entCells x).toList _ hrg Tryd.underlying29 rfl hi29.out ?_)
          | (refine wpList_store_row rfl 29 _ _ rfl wr.heap.size (entCells x) rfl rfl 29 (entCells ⟨0, List.replicate 32 0⟩) hnew hi29.out hz29 (entCells_one x) ?_))
        generalize hw2 : World.setRow _ _ _ = w2
        have h2 : Blk w2 wr.heap.size 29 (entCells x) := by rw [← hw2]; exact hnew.row _
        have hg2 : Below wr.heap.size wr w2 := by rw [← hw2]; exact Below.setRow ((Below.refl _ _).alloc (Nat.le_refl _) _) (Nat.le_refl _) _
        have hB2 := hB.trans (hg2.mono hB.size)
        clear hw2 hnew
        have hb2 := hb.grown hg2
        go_wp2_with (first
          | (refine wpList_load_row rfl 29 _ rfl wr.heap.size rfl 29 _ (0, 0) _ h2 Tryd.underlying29 rfl hi29.out ?_)
          | (go_at_call 15
             refine (entry_any x hx w.heap.size w.heap.size _ w2 hb2 (by omega) hB2.size (fun w' hb' => hP0.out.grown (hB2.trans hb'))).mono ?_
             rintro e w3 ⟨rfl, hb3, hB3⟩))
        go_roundw
        case rel => exact ⟨k + 1, by omega, by go_num, by rw [hTx.out]; exact hb3, hB2.trans hB3⟩
        case measure => simp [intOf]; omega
      · obtain rfl : k = l.length := by omega
        rw [List.take_length] at hb
        have hne : textOf l ≠ [] := by
          cases l with
          | nil => simp at h0
          | cons x l => simp [textOf, entText]
        have hlt := textOf_length hok
        have hm : ((textOf l).map UB).length = (textOf l).length := List.length_map _
        obtain ⟨T, hTe⟩ : ∃ T, T = textOf l := ⟨_, rfl⟩
        rw [← hTe] at hb hne hlt hm
        obtain ⟨p, hp⟩ : ∃ p, BAt 40 w.heap.size w.heap.size p T wr := hb.elim (fun h => ⟨_, h⟩) (fun h => ⟨_, h⟩)
        have hi27 : (Tryd.prog.info? 27).map (·.size) = some (tabulate 32 fun q => B8 ((sumL (T.map UB)).getD q 0)).size := by rw [tabulate_size]; kernel_rfl
        replace hi27 := Lib.hid hi27
        replace hTe := Lib.hid hTe
        go_upto_region 10 with (first
          | (go_at_call 17
             refine (string_any w.heap.size w.heap.size p T wr hp hne).mono ?_
             rintro e w1 ⟨rfl, hB1⟩
             replace hB1 := hB.trans hB1)
          | (refine wpList_str_bytes rfl _ rfl T rfl ?_
             intro c2 w2 hB2 hz2 hr2 hc2
             replace hB2 := hB1.trans (hB2.mono hB1.size)
             have hsum := sum_any (T.map UB) (some ⟨w1.heap.size, 0, none⟩) c2 w2 hr2 (by rw [hm]; exact hc2) (by rw [hm]; omega) (hT0.out.grown hB2)
             rw [hm, sumL_val] at hsum
             replace hsum := Lib.hid hsum)
          | (go_at_call 16
             refine hsum.out.mono ?_
             rintro e w3 ⟨rfl, hB3⟩
             have h3 : Blk (w3.alloc (.cells (tabulate 32 fun _ => B8 0) 27)) w3.heap.size 27 (tabulate 32 fun _ => B8 0) := Blk.new w3 _ _)
          | (refine wpList_store_row rfl 27 _ _ rfl w3.heap.size (tabulate 32 fun q => B8 ((sumL (T.map UB)).getD q 0)) rfl rfl 27 _ h3 hi27.out (by rw [tabulate_size, tabulate_size]) (tabulate_one fun _ _ => rfl) ?_))
        generalize hw3 : World.setRow _ _ _ = w4
        have h4 : Blk w4 w3.heap.size 27 (tabulate 32 fun q => B8 ((sumL (T.map UB)).getD q 0)) := by rw [← hw3]; exact h3.row _
        have hBa : Below w.heap.size w w3 := hB2.trans (hB3.mono hB2.size)
        have hB4 : Below w.heap.size w w4 := by rw [← hw3]; exact Below.setRow (hBa.alloc hBa.size _) hBa.size _
        clear hw3 h3
        have hsl := fun wx => sliceAt_whole (P := Tryd.prog) Tryd.underlying27 hi5 hs5 w3.heap.size 0 wx
        have hrd : Reads w4 w4.heap.size (some ⟨w3.heap.size, 0, none⟩) (sumL (T.map UB)) := fun _ => ⟨w3.heap.size, 0, rfl, h4.lt, fun j hj => by
          rw [sumL_length] at hj
          rw [Nat.zero_add, h4.cell, tabulate_get hj]⟩
        have hhx := hex_any (sumL (T.map UB)) (some ⟨w3.heap.size, 0, none⟩) 32 w4 hrd (fun h => by have := sumL_length (T.map UB); rw [h] at this; simp at this) (by rw [sumL_length]; omega)
        rw [sumL_length] at hhx
        replace hhx := Lib.hid hhx
        go_wp2_with (go_at_call 18; refine hhx.out.mono ?_; rintro e w5 ⟨rfl, hB5⟩)
        go_ret
        refine ⟨?_, hB4.trans (hB5.mono hB4.size)⟩
        rw [← hTe.out]
        rfl
end Go.Proofs.YtbmndibhalbioaaDoor
