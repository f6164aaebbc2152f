/-
  What a vault's calls ask first (Vault.may), what they remember (Vault.kept), its numbers (Gen, Len).
-/
import Derived.Test.YtiidohaibbdgeaaDoorVCore
namespace Go.Proofs.YtiidohaibbdgeaaDoor
open Go Go.RowKit

set_option maxRecDepth 100000 in
set_option maxHeartbeats 1000000 in
theorem over_any (n : Nat) (a : Option Addr) (c : Nat) (w : World) : Calls Tryd.prog 67 #[.slice a n c] w fun e w' => e = .returned (.bool (decide ((32768 : Int) < (n : Int)))) ∧ w = w' := by
  go_enter Tryd.func67, Tryd.ntmps67
  go_wp2
  go_ret
  exact ⟨rfl, rfl⟩
theorem over_enters (args : Array Value) (w : World) : (callFunc 67 args).run Tryd.prog w = .ok (.enter 67 args) w := enters_of Tryd.func67 (by kernel_rfl) rfl _ w

theorem longL_none {l : List Bs} (h : ∀ j, j < l.length → (l.getD j []).length ≤ 32768) : longL l = false := by
  unfold longL
  rw [List.any_eq_false]
  intro r hr
  obtain ⟨j, hj, rfl⟩ := List.mem_iff_getElem.1 hr
  have := h j hj
  simp only [List.getD, hj, List.getElem?_eq_getElem, Option.getD_some] at this
  simpa using this
theorem longL_at {l : List Bs} {j : Nat} (hj : j < l.length) (h : 32768 < (l.getD j []).length) : longL l = true := by
  unfold longL
  rw [List.any_eq_true]
  refine ⟨l[j], List.getElem_mem hj, ?_⟩
  simp only [List.getD, hj, List.getElem?_eq_getElem, Option.getD_some] at h
  simpa using h

set_option maxRecDepth 100000 in
set_option maxHeartbeats 1000000 in
theorem index_any (B : Nat) (l : List Bs) (hl : l.length ≤ 70368744177664) (a : Option Addr) (cap : Nat) (w : World) (h : RecsAt B w a l) :
    Calls Tryd.prog 76 #[.slice a l.length cap, .func (.func 67) #[] #[]] w fun e w' => (∃ z : Int, e = .returned (.int .i64 z) ∧ decide ((0 : Int) ≤ z) = longL l) ∧ w = w' := by
  have h0 := Lib.hid h
  clear h
  go_enter Tryd.func76, Tryd.ntmps76
  go_wp2_with (fail)
  go_loopw [8] (fun i wr => ∃ k : Nat, k ≤ l.length ∧ i = .int .i64 k ∧ wr = w ∧ Hid (∀ j, j < k → (l.getD j []).length ≤ 32768)) (fun i _ => l.length - (intOf i).toNat)
  case atStart => exact ⟨0, by omega, rfl, rfl, Lib.hid fun j hj => by omega⟩
  case round =>
    obtain ⟨k, hk, rfl, rfl, hf⟩ := hrel
    by_cases hlt : k < l.length
    · obtain ⟨b, o, rfl, _, hc⟩ := h0.out (by omega)
      obtain ⟨v, hv, xa, xc, rfl, _⟩ := hc k hlt
      have hkl : (k : Int) < (l.length : Int) := by omega
      have ho := over_any (l.getD k []).length xa xc wr
      have he := over_enters
      have hX := longL_at hlt
      have hf2 : (l.getD k []).length ≤ 32768 → ∀ j, j < k + 1 → (l.getD j []).length ≤ 32768 := fun hx j hj => by
        rcases Nat.lt_or_ge j k with h | h
        · exact hf.out j h
        · obtain rfl : j = k := by omega
          exact hx
      generalize l.getD k [] = X at *
      replace hX := Lib.hid hX
      replace ho := Lib.hid ho
      replace hf2 := Lib.hid hf2
      clear hc
      by_cases hx : 32768 < X.length
      · have hx' : (32768 : Int) < (X.length : Int) := by omega
        go_wp2_with (go_at_call 67; refine ho.out.mono ?_; rintro e w1 ⟨rfl, rfl⟩)
        go_ret
        exact ⟨⟨_, rfl, by rw [hX.out hx]; simp⟩, rfl⟩
      · have hx' : decide ((32768 : Int) < (X.length : Int)) = false := decide_eq_false (by omega)
        go_wp2_with (go_at_call 67; refine ho.out.mono ?_; rintro e w1 ⟨rfl, rfl⟩)
        go_roundw
        case rel => exact ⟨k + 1, by omega, by go_num, by trivial, Lib.hid (hf2.out (by omega))⟩
        case measure => simp [intOf]; omega
    · obtain rfl : k = l.length := by omega
      have hn := longL_none hf.out
      replace hn := Lib.hid hn
      go_wp2_with (fail)
      go_ret
      exact ⟨⟨_, rfl, by rw [hn.out]; rfl⟩, rfl⟩

set_option maxRecDepth 100000 in
set_option maxHeartbeats 1000000 in
theorem long_any (B : Nat) (l : List Bs) (hl : l.length ≤ 70368744177664) (a : Option Addr) (cap : Nat) (w : World) (h : RecsAt B w a l) :
    Calls Tryd.prog 66 #[.slice a l.length cap, .func (.func 67) #[] #[]] w fun e w' => e = .returned (.bool (longL l)) ∧ w = w' := by
  have hi := index_any B l hl a cap w h
  replace hi := Lib.hid hi
  clear h
  go_enter Tryd.func66, Tryd.ntmps66
  go_wp2_with (go_at_call 76; refine hi.out.mono ?_; rintro e w1 ⟨⟨z, rfl, hz⟩, rfl⟩)
  go_ret
  exact ⟨ret_bool (by first | rfl | exact hz), rfl⟩

/-- Why records may not be put. -/
def mayL (V : VaultM) (l : List Bs) : Int := if V.broken = true then 3 else if longL l = true then 1 else 0

set_option maxRecDepth 100000 in
set_option maxHeartbeats 1000000 in
theorem vmay_nil (v : Value) (w : World) : Calls Tryd.prog 35 #[.pointer none, v] w fun e w' => e = .returned (.int .i64 2) ∧ w = w' := by
  go_enter Tryd.func35, Tryd.ntmps35
  go_wp2
  go_ret
  exact ⟨rfl, rfl⟩
set_option maxRecDepth 100000 in
set_option maxHeartbeats 1000000 in
theorem vmay_any (B : Nat) (V : VaultM) (vg dg : Nat) (l : List Bs) (hl : l.length ≤ 70368744177664) (a : Option Addr) (cap : Nat) (w : World) (hv : VaultAt B w vg dg V) (h : RecsAt B w a l) :
    Calls Tryd.prog 35 #[.pointer (some ⟨vg, 0, none⟩), .slice a l.length cap] w fun e w' => e = .returned (.int .i64 (mayL V l)) ∧ w = w' := by
  have hlg := long_any B l hl a cap w h
  have hc4 : w.cell? ⟨vg, 4, none⟩ = some (.bool V.broken) := hv.1.cell 4
  replace hlg := Lib.hid hlg
  clear h hv
  unfold mayL
  generalize V.broken = br at *
  generalize longL l = lg at *
  cases br with
  | true =>
    go_enter Tryd.func35, Tryd.ntmps35
    go_wp2
    go_ret
    exact ⟨rfl, rfl⟩
  | false =>
    cases lg with
    | true =>
      go_enter Tryd.func35, Tryd.ntmps35
      go_wp2_with (go_at_call 66; refine hlg.out.mono ?_; rintro e w1 ⟨rfl, rfl⟩)
      go_ret
      exact ⟨rfl, rfl⟩
    | false =>
      go_enter Tryd.func35, Tryd.ntmps35
      go_wp2_with (go_at_call 66; refine hlg.out.mono ?_; rintro e w1 ⟨rfl, rfl⟩)
      go_ret
      exact ⟨rfl, rfl⟩

theorem VaultAt.liesV {B : Nat} {w : World} {vg dg : Nat} {V : VaultM} (h : VaultAt B w vg dg V) (i : Nat) (u : Value) : LiesV B w (w.setCell ⟨vg, i, none⟩ u) := LiesV.turn h.1 h.2 i u

set_option maxRecDepth 100000 in
set_option maxHeartbeats 1000000 in
theorem vkept_any (B : Nat) (V : VaultM) (vg dg : Nat) (x : Int) (w : World) (hv : VaultAt B w vg dg V) :
    Calls Tryd.prog 37 #[.pointer (some ⟨vg, 0, none⟩), .int .i64 x] w fun e w' => e = .returned (.int .i64 x) ∧ w' = w.setCell ⟨vg, 4, none⟩ (.bool (decide (x ≠ 0))) := by
  have hc4 : w.cell? ⟨vg, 4, none⟩ = some (.bool V.broken) := hv.1.cell 4
  have hf4 := hv.1.free 4
  clear hv
  by_cases hx : x = 0
  · subst hx
    go_enter Tryd.func37, Tryd.ntmps37
    go_wp2
    go_ret
    exact ⟨rfl, rfl⟩
  · have hx' : (x == 0) = false := by rw [beq_eq_false_iff_ne]; exact hx
    have e : decide (x ≠ 0) = true := decide_eq_true hx
    rw [e]
    have hx2 : (x != 0) = true := by simp [hx]
    replace hx2 := Lib.hid hx2
    clear hx e
    go_enter Tryd.func37, Tryd.ntmps37
    go_wp2
    go_ret
    exact ⟨rfl, by rw [hx2.out]⟩

set_option maxRecDepth 100000 in
set_option maxHeartbeats 1000000 in
theorem gen_nil (w : World) : Calls Tryd.prog 25 #[.pointer none] w fun e w' => e = .returned (.int .u64 0) ∧ w = w' := by
  go_enter Tryd.func25, Tryd.ntmps25
  go_wp2
  go_ret
  exact ⟨rfl, rfl⟩
set_option maxRecDepth 100000 in
set_option maxHeartbeats 1000000 in
theorem len_nil (w : World) : Calls Tryd.prog 26 #[.pointer none] w fun e w' => e = .returned (.int .i64 0) ∧ w = w' := by
  go_enter Tryd.func26, Tryd.ntmps26
  go_wp2
  go_ret
  exact ⟨rfl, rfl⟩
set_option maxRecDepth 100000 in
set_option maxHeartbeats 1000000 in
theorem gen_any (B : Nat) (V : VaultM) (vg dg : Nat) (w : World) (hv : VaultAt B w vg dg V) : Calls Tryd.prog 25 #[.pointer (some ⟨vg, 0, none⟩)] w fun e w' => e = .returned (.int .u64 V.gen) ∧ w = w' := by
  have hc : w.cell? ⟨vg, 2, none⟩ = some (.int .u64 V.gen) := hv.1.cell 2
  clear hv
  go_enter Tryd.func25, Tryd.ntmps25
  go_wp2
  go_ret
  exact ⟨rfl, rfl⟩
set_option maxRecDepth 100000 in
set_option maxHeartbeats 1000000 in
theorem len_any (B : Nat) (V : VaultM) (vg dg : Nat) (w : World) (hv : VaultAt B w vg dg V) : Calls Tryd.prog 26 #[.pointer (some ⟨vg, 0, none⟩)] w fun e w' => e = .returned (.int .i64 V.n) ∧ w = w' := by
  have hc : w.cell? ⟨vg, 3, none⟩ = some (.int .i64 V.n) := hv.1.cell 3
  clear hv
  go_enter Tryd.func26, Tryd.ntmps26
  go_wp2
  go_ret
  exact ⟨rfl, rfl⟩
end Go.Proofs.YtiidohaibbdgeaaDoor
