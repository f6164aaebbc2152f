/-
  A number's digits: the document's (scantlingref17.Digits).
-/
import Derived.Test.YtbmndibhalbioaaDoorItoa
namespace Go.Proofs.YtbmndibhalbioaaDoor
open Go Go.RowKit

theorem itoa_neg {n : Int} (h : n < 0) : Lib.itoa n = 45 :: Lib.decDigits n.natAbs := by rw [Lib.itoa, if_pos h]
theorem itoa_pos {n : Int} (h : ¬ n < 0) : Lib.itoa n = Lib.decDigits n.toNat := by rw [Lib.itoa, if_neg h]
theorem dec_big {u : Nat} (h : ¬ u < 10) : Lib.decDigits u = Lib.decDigits (u / 10) ++ [UInt8.ofNat (48 + u % 10)] := by
  rw [Lib.decDigits, dif_neg h]
theorem dec_small {u : Nat} (h : u < 10) : Lib.decDigits u = [UInt8.ofNat (48 + u)] := Lib.decDigits_one h

theorem digit_str (c : Nat) (hc : c ≤ 9) (w : World) : (convert 31 9 (Value.slice (some ⟨w.heap.size, 0, none⟩) 1 1)).run Tryd.prog (w.alloc (.cells #[.int .u8 (48 + (c : Int))] 5)) =
    .ok (.string ⟨#[UInt8.ofNat (48 + c)]⟩) (w.alloc (.cells #[.int .u8 (48 + (c : Int))] 5)) := by
  refine run_convert_bytes_back (P := Tryd.prog) _ 31 9 5 ⟨w.heap.size, 0, none⟩ 1 [UInt8.ofNat (48 + c)] Tryd.underlying31 Tryd.underlying5 Tryd.underlying9 (fun j hj => ?_)
  have h0 : j = 0 := by simpa using hj
  subst h0
  have h48 : (48 + c) % 256 = 48 + c := by omega
  simp [h48, Addr.add]

theorem quo_rem (n : Int) : n = 10 * n.tdiv 10 + n.tmod 10 ∧ (¬ n < 0 → 0 ≤ n.tdiv 10 ∧ 0 ≤ n.tmod 10 ∧ n.tmod 10 ≤ 9) ∧ (n < 0 → n.tdiv 10 ≤ 0 ∧ n.tmod 10 ≤ 0 ∧ -9 ≤ n.tmod 10) := by
  refine ⟨(Int.mul_tdiv_add_tmod n 10).symm, fun h => ?_, fun h => ?_⟩
  · rw [Int.tdiv_eq_ediv_of_nonneg (by omega), Int.tmod_eq_emod_of_nonneg (by omega)]
    omega
  · obtain ⟨m, rfl⟩ : ∃ m, n = -m := ⟨-n, by omega⟩
    rw [Int.neg_tdiv, Int.neg_tmod, Int.tdiv_eq_ediv_of_nonneg (by omega), Int.tmod_eq_emod_of_nonneg (by omega)]
    omega

set_option maxRecDepth 100000 in
set_option maxHeartbeats 1000000 in
theorem digits_any : ∀ (d : Nat) (n : Int), 2 * n.natAbs + (if n < 0 then 1 else 0) < d → -9223372036854775808 ≤ n → n ≤ 9223372036854775807 → ∀ w,
    Calls Tryd.prog 19 #[.int .i64 n] w fun e w' => e = .returned (.string ⟨(Lib.itoa n).toArray⟩) ∧ Below w.heap.size w w' := by
  intro d
  induction d with
  | zero => intro n h; omega
  | succ d ih =>
    intro n hd h0 h1 w
    obtain ⟨i5, hi5, hz5, hs5, hy5⟩ := info_parts Tryd.info_u8
    replace ih := Lib.hid ih
    go_enter Tryd.func19, Tryd.ntmps19
    have hb := quo_rem n
    obtain ⟨q, hq⟩ : ∃ q, n.tdiv 10 = q := ⟨_, rfl⟩
    obtain ⟨r, hr⟩ : ∃ r, n.tmod 10 = r := ⟨_, rfl⟩
    rw [hq, hr] at hb
    obtain ⟨hb1, hb2, hb3⟩ := hb
    replace hb1 := Lib.hid hb1
    replace hb2 := Lib.hid hb2
    replace hb3 := Lib.hid hb3
    by_cases hn : n < 0
    · rw [if_pos hn] at hd
      obtain ⟨hb4, hb5, hb6⟩ := hb3.out hn
      by_cases hq0 : q = 0
      · have hneg : -9223372036854775808 ≤ -n ∧ -n ≤ 9223372036854775807 := by have := hb1.out; omega
        have hl := Lib.itoa_length_le (-n) hneg.1 hneg.2
        have hl' : ((⟨(Lib.itoa (-n)).toArray⟩ : ByteArray).size) = (Lib.itoa (-n)).length := rfl
        go_wp2_with (go_at_call 19; refine (ih.out (-n) (by have := hb1.out; split <;> omega) (by omega) (by omega) w).mono ?_; rintro e w1 ⟨rfl, hB⟩)
        have e : (⟨#[45]⟩ : ByteArray) ++ ⟨(Lib.itoa (-n)).toArray⟩ = ⟨(Lib.itoa n).toArray⟩ := by
          have e : Lib.itoa n = 45 :: Lib.itoa (-n) := by
            rw [itoa_neg hn, itoa_pos (by omega)]
            congr 2; omega
          rw [e]
          apply ByteArray.ext
          simp
        rw [e]
        go_ret
        exact ⟨rfl, hB⟩
      · have hrn : r = -((-r).toNat : Int) := by omega
        generalize (-r).toNat = c at *
        subst hrn
        have hcv := digit_str c (by omega) w
        have hqb : -9223372036854775808 ≤ q ∧ q ≤ 9223372036854775807 := by have := hb1.out; omega
        have e : Lib.itoa n = Lib.itoa q ++ [UInt8.ofNat (48 + c)] := by
          have h := hb1.out
          rw [itoa_neg hn, itoa_neg (by omega), dec_big (by omega)]
          rw [show n.natAbs / 10 = q.natAbs by omega, show n.natAbs % 10 = c by omega]
          rfl
        replace e := Lib.hid e
        have hl := Lib.itoa_length_le q hqb.1 hqb.2
        go_wp2_with (go_at_call 19; refine (ih.out q (by have := hb1.out; split <;> omega) hqb.1 hqb.2 _).mono ?_; rintro e w1 ⟨rfl, hB⟩)
        go_ret
        refine ⟨?_, ((Below.refl _ w).alloc (Nat.le_refl _) _).trans (hB.mono (by simp))⟩
        rw [e.out]
        refine congrArg (fun s => Ending.returned (.string s)) ?_
        apply ByteArray.ext
        simp
    · rw [if_neg hn] at hd
      obtain ⟨hb4, hb5, hb6⟩ := hb2.out hn
      have hrn : r = (r.toNat : Int) := by omega
      generalize r.toNat = c at *
      subst hrn
      have hcv := digit_str c (by omega) w
      by_cases hq0 : q = 0
      · have e : Lib.itoa n = [UInt8.ofNat (48 + c)] := by
          have h := hb1.out
          rw [itoa_pos hn, dec_small (by omega), show n.toNat = c by omega]
        replace e := Lib.hid e
        go_wp2
        go_ret
        refine ⟨?_, (Below.refl _ w).alloc (Nat.le_refl _) _⟩
        rw [e.out]
        refine congrArg (fun s => Ending.returned (.string s)) ?_
        apply ByteArray.ext
        simp
      · have hqb : -9223372036854775808 ≤ q ∧ q ≤ 9223372036854775807 := by have := hb1.out; omega
        have e : Lib.itoa n = Lib.itoa q ++ [UInt8.ofNat (48 + c)] := by
          have h := hb1.out
          rw [itoa_pos hn, itoa_pos (by omega), dec_big (by omega)]
          rw [show n.toNat / 10 = q.toNat by omega, show n.toNat % 10 = c by omega]
        replace e := Lib.hid e
        have hl := Lib.itoa_length_le q hqb.1 hqb.2
        go_wp2_with (go_at_call 19; refine (ih.out q (by have := hb1.out; split <;> omega) hqb.1 hqb.2 _).mono ?_; rintro e w1 ⟨rfl, hB⟩)
        go_ret
        refine ⟨?_, ((Below.refl _ w).alloc (Nat.le_refl _) _).trans (hB.mono (by simp))⟩
        rw [e.out]
        refine congrArg (fun s => Ending.returned (.string s)) ?_
        apply ByteArray.ext
        simp
end Go.Proofs.YtbmndibhalbioaaDoor
