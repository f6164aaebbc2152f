/-
  Texts one behind the other (slices.Grow, slices.Concat).
-/
import Derived.Test.YtiidohaibbdgeaaDoorVCheck
import Derived.Lib.AppendZeros
import Derived.Deep.DeepCutAuto
import Derived.Deep.CutBlock
namespace Go.Proofs.YtiidohaibbdgeaaDoor
open Go Go.RowKit

/-- A slice value whose bytes are these. -/
def SliceIs (B : Nat) (w : World) (v : Value) (xs : Bs) : Prop := ∃ a cap, v = .slice a xs.length cap ∧ (a = none → cap = 0) ∧ xs.length ≤ cap ∧ BytesAt B w a xs
theorem SliceIs.lies {B : Nat} {w w' : World} {v : Value} {xs : Bs} (h : SliceIs B w v xs) (hl : Lies B w w') : SliceIs B w' v xs := by
  obtain ⟨a, cap, h1, h2, h3, h4⟩ := h
  exact ⟨a, cap, h1, h2, h3, h4.rest hl⟩
/-- The records of a slice of slices, in a block that stays. -/
def RecsAt (B : Nat) (w : World) (a : Option Addr) (l : List Bs) : Prop :=
  0 < l.length → ∃ b o, a = some ⟨b, o, none⟩ ∧ StaysT B w [35] b ∧ ∀ j, j < l.length → ∃ v, w.cell? ⟨b, o + j, none⟩ = some v ∧ SliceIs B w v (l.getD j [])
theorem RecsAt.lies {B : Nat} {w w' : World} {a : Option Addr} {l : List Bs} (h : RecsAt B w a l) (hl : Lies B w w') : RecsAt B w' a l := fun hn => by
  obtain ⟨b, o, ha, hs, hc⟩ := h hn
  refine ⟨b, o, ha, hs.rest hl, fun j hj => ?_⟩
  obtain ⟨v, h1, h2⟩ := hc j hj
  exact ⟨v, (hs.cell hl).trans h1, h2.lies hl⟩

set_option maxRecDepth 100000 in
set_option maxHeartbeats 1000000 in
theorem sgrow_any (n : Nat) (h0 : 0 < n) (h1 : n ≤ 70368744177664) (w : World) : Calls Tryd.prog 81 #[.slice none 0 0, .int .i64 n] w (OwnRet [] w) := by
  obtain ⟨i5, hi5, hz5, hs5, hy5⟩ := info_parts Tryd.info_u8
  have hrun := Lib.run_append_nil_zeros (P := Tryd.prog) w 35 3 35 5 i5 _ .i64 .i64 Tryd.underlying35 Tryd.underlying3 hi5 hz5 n h0 (by omega) (by omega) (by rw [hy5]; omega)
  have hge := grownCap_ge w n 0 5
  have hcm := grownCap_le_maxLen w n 0 5 (by unfold maxLen; omega)
  have hsl := fun wx => slice_first (some ⟨w.heap.size, 0, none⟩) n (grownCap w n 0 5) 0 (by omega) 0 rfl .i64 wx
  obtain ⟨W, hW⟩ : ∃ W, W = (w.drew.alloc (.cells (Builtin.zeroCells (Value.int .u8 0).cells n ++ Builtin.zeroCells (Value.int .u8 0).cells (grownCap w n 0 5 - n)) 5)) := ⟨_, rfl⟩
  have hown : OwnBytes W w.heap.size (.slice (some ⟨w.heap.size, 0, none⟩) 0 (grownCap w n 0 5)) [] := by
    refine ⟨by simp, .inr ⟨w.heap.size, _, _, rfl, Nat.le_refl _, by rw [hW]; exact heap_alloc_new w.drew _, by simp, hcm, ?_, by simp⟩⟩
    simp only [Array.size_append, size_zeroCells]
    simp [Value.cells]
    omega
  have hB : Below w.heap.size w W := by rw [hW]; exact ((Below.refl _ _).drew).alloc (Nat.le_refl _) _
  rw [← hW] at hrun
  generalize grownCap w n 0 5 = C at *
  replace hrun := Lib.hid hrun
  replace hown := Lib.hid hown
  clear hW hge hcm
  go_enter Tryd.func81, Tryd.ntmps81
  go_wp2_with (at_builtin; refine Lib.wpList_append_run _ rfl (.tmp 20) (.tmp 21) 35 3 rfl (.slice none 0 0) (.int .i64 n) rfl rfl _ _ hrun.out ?_)
  go_ret
  exact ⟨_, rfl, hown.out, hB⟩

/-- How many bytes they have. -/
def bulkL : List Bs → Nat
  | [] => 0
  | x :: l => x.length + bulkL l
theorem bulkL_append (l m : List Bs) : bulkL (l ++ m) = bulkL l + bulkL m := by
  induction l with
  | nil => simp [bulkL]
  | cons x l ih => simp [bulkL, ih]; omega
theorem bulkL_flat (l : List Bs) : l.flatten.length = bulkL l := by
  induction l with
  | nil => rfl
  | cons x l ih => simp [bulkL, ih]
theorem bulkL_take (l : List Bs) (k : Nat) : bulkL (l.take k) ≤ bulkL l := by
  have := bulkL_append (l.take k) (l.drop k)
  rw [List.take_append_drop] at this
  omega

set_option maxRecDepth 100000 in
set_option maxHeartbeats 1000000 in
theorem concat_any (B : Nat) (l : List Bs) (hl : l.length ≤ 70368744177664) (h0 : 0 < bulkL l) (h1 : bulkL l ≤ 70368744177664) (a : Option Addr) (cap : Nat) (w : World) (hB : B ≤ w.heap.size) (h : RecsAt B w a l) :
    Calls Tryd.prog 77 #[.slice a l.length cap] w (OwnRet l.flatten w) := by
  have hr0 := Lib.hid h
  have hgr := fun wx => sgrow_any (bulkL l) h0 h1 wx
  replace hgr := Lib.hid hgr
  have hbt := bulkL_take l
  replace hbt := Lib.hid hbt
  clear h
  go_enter Tryd.func77, Tryd.ntmps77
  go_upto_block 0 with (fail)
  go_cut [3] (fun s wx => s = .int .i64 (bulkL l) ∧ wx = w)
  case first =>
    go_wp2_with (fail)
    go_loopg [3, 11] (l.length + 1) (fun g s i wr => ∃ k : Nat, g = l.length + 1 - k ∧ k ≤ l.length ∧ i = .int .i64 k ∧ s = .int .i64 (bulkL (l.take k)) ∧ wr = w)
    case atStart => exact ⟨0, by omega, by omega, rfl, rfl, rfl⟩
    case round =>
      obtain ⟨k, rfl, hk, rfl, rfl, rfl⟩ := hrel
      by_cases hlt : k < l.length
      · obtain ⟨b, o, rfl, _, hc⟩ := hr0.out (by omega)
        obtain ⟨v, hv, xa, xc, rfl, _⟩ := hc k hlt
        have hkl : (k : Int) < (l.length : Int) := by omega
        have ht := take_one hlt ([] : Bs)
        have hS : bulkL (l.take (k + 1)) = bulkL (l.take k) + (l.getD k []).length := by rw [ht, bulkL_append]; simp [bulkL]
        have hS2 := hbt.out (k + 1)
        rw [hS] at hS2
        have hS0 := Lib.hid hS
        generalize l.getD k [] = X at *
        clear hc ht hS
        obtain ⟨T, hT⟩ : ∃ T, T = bulkL (l.take k) := ⟨_, rfl⟩
        rw [← hT] at hS2 hS0 ⊢
        clear hT
        go_wp2_with (fail)
        go_roundg (l.length + 1 - (k + 1))
        case measure => omega
        case rel => exact ⟨k + 1, by omega, by omega, by go_num, by rw [hS0.out]; go_num, rfl⟩
      · obtain rfl : k = l.length := by omega
        rw [List.take_length]
        go_wp2_with (fail)
        go_meet
        exact ⟨rfl, rfl⟩
  case rest =>
    obtain ⟨rfl, rfl⟩ := hcut
    go_wp2_with (go_at_call 81; refine (hgr.out _).mono ?_; rintro e w1 ⟨v1, rfl, hown1, hB1⟩)
    go_loopw [6, 27] (fun v i wr => ∃ k : Nat, k ≤ l.length ∧ i = .int .i64 k ∧ OwnBytes wr wc.heap.size v (l.take k).flatten ∧ Below wc.heap.size wc wr) (fun _ i _ => l.length - (intOf i).toNat)
    case atStart => exact ⟨0, by omega, rfl, hown1, hB1⟩
    case round =>
      obtain ⟨k, hk, rfl, hown, hBr⟩ := hrel
      clear hown1 hB1
      by_cases hlt : k < l.length
      · obtain ⟨b, o, rfl, _, hc⟩ := (hr0.out.lies (Lies.new hBr hB)) (by omega)
        obtain ⟨v, hv, xa, xc, rfl, hx1, hx2, hx3⟩ := hc k hlt
        have hkl : (k : Int) < (l.length : Int) := by omega
        have ht := take_one hlt ([] : Bs)
        have hS : (l.take (k + 1)).flatten = (l.take k).flatten ++ l.getD k [] := by rw [ht]; simp
        have hl1 := hbt.out (k + 1)
        rw [← bulkL_flat, hS, List.length_append] at hl1
        have hS0 := Lib.hid hS
        generalize l.getD k [] = X at *
        clear hc ht hS
        have hrx := hx3.reads
        go_wp2_with (
          at_builtin
          refine wpList_grow_bytes rfl (.tmp 31) (.tmp 32) rfl wc.heap.size u6 (l.take k).flatten rfl hown xa xc wr.heap.size X rfl hrx hx1 (by omega) hBr.size wc.heap.size wc hBr (Nat.le_refl _) ?_
          intro v2 w2 hown2 _ hB2)
        go_roundw
        case rel => exact ⟨k + 1, by omega, by go_num, by rw [hS0.out]; exact hown2, hB2⟩
        case measure => simp [intOf]; omega
      · obtain rfl : k = l.length := by omega
        rw [List.take_length] at hown
        go_wp2_with (fail)
        go_ret
        exact ⟨_, rfl, hown, hBr⟩
end Go.Proofs.YtiidohaibbdgeaaDoor
