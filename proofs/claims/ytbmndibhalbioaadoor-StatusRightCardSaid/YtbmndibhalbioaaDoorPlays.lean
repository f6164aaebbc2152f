/-
  StatusPlays, walked: it returns true.
-/
import Derived.Test.YtbmndibhalbioaaDoorOwnEnts
namespace Go.Proofs.YtbmndibhalbioaaDoor
open Go Go.RowKit

/-- May the history be, as a Bool. -/
noncomputable def mayB (l : List Ent) : Bool := @decide (MayBe l) (Classical.propDecidable _)
theorem mayB_iff (l : List Ent) : mayB l = true ↔ MayBe l := by unfold mayB; simp
theorem bool_of_iff {r : Bool} {l : List Ent} (h : r = true ↔ MayBe l) : r = mayB l := by
  cases r with
  | false => cases hm : mayB l with
    | false => rfl
    | true => exact absurd (h.2 ((mayB_iff l).1 hm)) (by simp)
  | true => exact ((mayB_iff l).2 (h.1 rfl)).symm
theorem rright_any' (l : List Ent) (hok : Oks l) (a : Option Addr) (cap : Nat) (w : World) (hr : EntsAt w w.heap.size a l) (hlen : l.length ≤ 1000000) :
    Calls Tryd.prog 10 #[.slice a l.length cap] w fun e w' => e = .returned (.bool (mayB l)) ∧ Below w.heap.size w w' :=
  (rright_bool_any l hok a cap w hr hlen).mono fun e w' ⟨⟨r, he, hi⟩, hB⟩ => ⟨by rw [he, bool_of_iff hi], hB⟩
theorem pright_any' (l : List Ent) (hok : Oks l) (a : Option Addr) (cap : Nat) (w : World) (hr : EntsAt w w.heap.size a l) (hlen : l.length ≤ 1000000) :
    Calls Tryd.prog 9 #[.slice a l.length cap] w fun e w' => e = .returned (.bool (mayB l)) ∧ Below w.heap.size w w' :=
  (pright_bool_any l hok a cap w hr hlen).mono fun e w' ⟨⟨r, he, hi⟩, hB⟩ => ⟨by rw [he, bool_of_iff hi], hB⟩
theorem EntsAt.on {w w' : World} {a : Option Addr} {l : List Ent} (h : EntsAt w w.heap.size a l) (hb : Below w.heap.size w w') : EntsAt w' w'.heap.size a l := fun hn => by
  obtain ⟨b, o, ha, hb', hcc⟩ := (h.below hb) hn
  exact ⟨b, o, ha, Nat.lt_of_lt_of_le hb' hb.size, hcc⟩

set_option maxRecDepth 100000 in
set_option maxHeartbeats 1000000 in
theorem plays_any (l : List Ent) (hok : Oks l) (a : Option Addr) (cap : Nat) (hc : a = none → cap = 0) (w : World) (hr : EntsAt w w.heap.size a l) (hT : Tab w) (hP : Pow w) :
    Calls Tryd.prog 3 #[.slice a l.length cap] w fun e w' => e = .returned (.bool true) ∧ Below w.heap.size w w' := by
  have hr0 := Lib.hid hr
  have hT0 := Lib.hid hT
  have hP0 := Lib.hid hP
  clear hr hT hP
  go_enter Tryd.func3, Tryd.ntmps3
  by_cases hl : 200 < l.length
  · go_wp2_with (go_at_call 6; refine (works_any w hT0.out hP0.out).mono ?_; rintro e w1 ⟨rfl, hB⟩)
    go_ret
    exact ⟨rfl, hB⟩
  · have hl' : l.length ≤ 1000000 := by omega
    have hld : decide ((200 : Int) < (l.length : Int)) = false := decide_eq_false (by omega)
    have hz : (0 : Nat) + l.length = l.length := by omega
    go_upto_region 4 with (
      at_builtin
      refine wpList_append_ents rfl (.tmp 9) (.tmp 10) rfl w.heap.size _ [] rfl (OwnEnts.empty w) a cap w.heap.size l rfl (hr0.out.below ((Below.refl _ _).alloc (Nat.le_refl _) _)) hc (by simp; omega) (by simp) w.heap.size w ((Below.refl _ _).alloc (Nat.le_refl _) _) (Nat.le_refl _) ?_
      intro v1 w1 hown1 _ hB1
      rw [List.nil_append] at hown1)
    obtain ⟨a1, c1, rfl, hc1, _, hr1⟩ := hown1.form
    clear hown1
    replace hr1 := Lib.hid hr1
    replace hc1 := Lib.hid hc1
    have hof := of_any l hok a1 c1 w1 hr1.out hl' (hT0.out.grown hB1) (hP0.out.grown hB1)
    obtain ⟨R, hR⟩ : ∃ R, R = ofL l := ⟨_, rfl⟩
    rw [← hR] at hof
    have hrof := fun w2 (hb : Below w.heap.size w w2) => rof_any l hok a cap w2 (fun hn => by
      obtain ⟨b, o, ha, hb', hcc⟩ := (hr0.out.below hb) hn
      exact ⟨b, o, ha, Nat.lt_of_lt_of_le hb' hb.size, hcc⟩) hl'
    rw [← hR] at hrof
    clear hR
    replace hof := Lib.hid hof
    replace hrof := Lib.hid hrof
    go_wp2_with (first
      | (go_at_call 7
         refine hof.out.mono ?_
         rintro e w2 ⟨rfl, hB2⟩)
      | (go_at_call 8
         refine (hrof.out w2 (hB1.trans (hB2.mono hB1.size))).mono ?_
         rintro e w3 ⟨rfl, hB3⟩
         have hg3 := hB2.trans (hB3.mono hB2.size))
      | (go_at_call 9
         refine (pright_any' l hok a1 c1 w3 (hr1.out.on hg3) hl').mono ?_
         rintro e w4 ⟨rfl, hB4⟩
         have hg4 := hg3.trans (hB4.mono hg3.size))
      | (go_at_call 10
         refine (rright_any' l hok a cap w4 (hr0.out.on (hB1.trans (hg4.mono hB1.size))) hl').mono ?_
         rintro e w5 ⟨rfl, hB5⟩
         have hg5 := hg4.trans (hB5.mono hg4.size)))
    generalize hmb : mayB l = mb at *
    clear hmb hB2 hB3 hg3 hB4 hg4 hB5 hof hrof
    go_loopw [4] (fun i wr => ∃ k : Nat, k ≤ l.length ∧ i = .int .i64 k ∧ Below w1.heap.size w1 wr) (fun i _ => l.length - (intOf i).toNat)
    case atStart => exact ⟨0, by omega, rfl, hg5⟩
    case round =>
      obtain ⟨k, hk, rfl, hB⟩ := hrel
      clear hg5
      by_cases hlt : k < l.length
      · obtain ⟨b, off, rfl, hbl, hcl⟩ := (hr0.out.on (hB1.trans (hB.mono hB1.size))) (by omega)
        obtain ⟨b1, off1, rfl, hbl1, hcl1⟩ := (hr1.out.on hB) (by omega)
        have hx := hok _ (entAt_mem hlt)
        obtain ⟨h1, h2⟩ := hcl k hlt
        obtain ⟨h3, h4⟩ := hcl1 k hlt
        have hrg := ent_range h1 h2
        have hrg1 := ent_range h3 h4
        generalize entAt l k = x at *
        clear h1 h2 h3 h4 hcl hcl1
        have hi29 : (Tryd.prog.info? 29).map (·.size) = some (entCells x).toList.length := by rw [Array.length_toList, entCells_size]; kernel_rfl
        replace hi29 := Lib.hid hi29
        have hkl : (k : Int) < (l.length : Int) := by omega
        go_wp2_with (fail)
        refine wp_region_quiet_lit (by kernel_rfl) (by kernel_rfl) ?_
        repeat (go_big_quiet_step (fail))
        refine wpQuiet_load_mid rfl 29 _ rfl b1 (off1 + k * 33) rfl (entCells x).toList _ (by rintro _ ⟨z, rfl⟩; exact hrg1) Tryd.underlying29 rfl hi29.out ?_
        go_frame
        repeat (go_big_quiet_step (fail))
        refine wpQuiet_load_mid rfl 29 _ rfl b (off + k * 33) rfl (entCells x).toList _ (by rintro _ ⟨z, rfl⟩; exact hrg) Tryd.underlying29 rfl hi29.out ?_
        go_frame
        refine wpQuiet_of_run rfl _ (fun wx _ => exec_neq_ent (.tmp 33) (.tmp 37) _ rfl rfl rfl hx hx wx) ?_
        go_frame
        refine wpQuiet_nil ?_
        rintro _ ⟨nq, rfl⟩
        go_wp2
        go_roundw
        case rel => exact ⟨k + 1, by omega, by go_num, Below.drewN hB _⟩
        case measure => simp [intOf]; omega
      · obtain rfl : k = l.length := by omega
        have hBt := hB1.trans (hB.mono hB1.size)
        go_wp2_with (go_at_call 6; refine (works_any wr (hT0.out.grown hBt) (hP0.out.grown hBt)).mono ?_; rintro e w6 ⟨rfl, hB6⟩)
        go_ret
        exact ⟨rfl, hBt.trans (hB6.mono hBt.size)⟩
end Go.Proofs.YtbmndibhalbioaaDoor
