/-
  What a file has of what is loose (disk.file's kept, stands, settle).
-/
import Derived.Test.YtiidohaibbdgeaaDoorDDone
namespace Go.Proofs.YtiidohaibbdgeaaDoor
open Go Go.RowKit

theorem drop_cons {α : Type} {l : List α} {k : Nat} {c : α} (h : l[k]? = some c) : l.drop k = c :: l.drop (k + 1) := by
  have hk := (List.getElem?_eq_some_iff.1 h).1
  rw [List.drop_eq_getElem_cons hk, (List.getElem?_eq_some_iff.1 h).2]

theorem grown_of_below {w w' : World} (h : Below w.heap.size w w') : w.grownBy w' none := ⟨h.os, h.tape, h.output, h.size, fun k hk _ => h.block k hk⟩
theorem OwnBytes.on {w w' : World} {base : Nat} {v : Value} {L : Bs} (h : OwnBytes w base v L) (hb : Below w.heap.size w w') : OwnBytes w' base v L := World.ownsRow.kept h (grown_of_below hb) (by cases hv : v.ownBlock <;> simp)
theorem meth_wdone (x : Value) (w : World) : (method 250 88 (.agg #[x]) "scantling/disk.done").run Tryd.prog w = .ok (112, .agg #[x]) w := by kernel_rfl
theorem meth_wunits (x : Value) (w : World) : (method 250 88 (.agg #[x]) "scantling/disk.units").run Tryd.prog w = .ok (113, .agg #[x]) w := by kernel_rfl
theorem meth_cdone (x : Value) (w : World) : (method 250 85 (.agg #[x]) "scantling/disk.done").run Tryd.prog w = .ok (110, .agg #[x]) w := by kernel_rfl
theorem meth_cunits (x : Value) (w : World) : (method 250 85 (.agg #[x]) "scantling/disk.units").run Tryd.prog w = .ok (111, .agg #[x]) w := by kernel_rfl

/-- Behind k rounds. -/
def KeptRel (F : FileM) (M u : Nat) (k : Nat) (u' : Int) (b : Bs) : Prop :=
  keptL b (F.loose.drop k) u'.toNat = keptL F.sure F.loose u ∧ b.length ≤ M ∧ (0 < u' → okL M b (F.loose.drop k)) ∧ u' ≤ 9223372036854775807

set_option maxRecDepth 100000 in
set_option maxHeartbeats 1000000 in
theorem kept_any (B : Nat) (F : FileM) (M : Nat) (hM : M ≤ 4194304) (hF : F.ok M) (g o : Nat) (vs vl : Value) (u : Int) (hu : u ≤ 9223372036854775807) (hlen : F.loose.length ≤ 1099511627776) (w : World)
    (hs : w.cell? ⟨g, o, none⟩ = some vs) (hl : w.cell? ⟨g, o + 1, none⟩ = some vl) (hat : FileAt B w F vs vl) :
    Calls Tryd.prog 70 #[.pointer (some ⟨g, o, none⟩), .int .i64 u] w (OwnRet (keptL F.sure F.loose u.toNat) w) := by
  obtain ⟨⟨sa, sc, rfl, hsc, hsl, _, hsb⟩, xs, hrow, hch⟩ := hat
  have hsb0 := Lib.hid hsb.reads
  have hrow0 := Lib.hid hrow
  have hch0 := Lib.hid hch
  have hF0 := Lib.hid hF
  obtain ⟨la, lc, rfl⟩ : ∃ la lc, vl = .slice la F.loose.length lc := by
    rcases hrow.2 with ⟨rfl, h0⟩ | ⟨r, c, cur, rfl, _⟩
    · exact ⟨none, 0, by rw [h0]⟩
    · exact ⟨_, _, rfl⟩
  have hsl := okL_head hF
  clear hsb hrow hch hF
  have hcl := bclone_any F.sure sa sc w hsb0.out hsc (by omega)
  replace hcl := Lib.hid hcl
  go_enter Tryd.func70, Tryd.ntmps70
  go_wp2_with (
    go_at_call 53
    refine hcl.out.mono ?_
    rintro e w1 ⟨v1, rfl, hown1, hB1⟩
    have hl1 := (hB1.cell (p := ⟨g, o + 1, none⟩) (cell_block hl)).trans hl)
  go_loopw [1, 5, 18] (fun q v i wr => ∃ (k : Nat) (u' : Int) (b : Bs), k ≤ F.loose.length ∧ i = .int .i64 k ∧ q = .int .i64 u' ∧ OwnBytes wr w.heap.size v b ∧ Hid (KeptRel F M u.toNat k u' b) ∧ Below w.heap.size w wr) (fun _ _ i _ => F.loose.length - (intOf i).toNat)
  case atStart => exact ⟨0, u, F.sure, by omega, rfl, rfl, hown1, ⟨rfl, hsl, fun _ => hF0.out, hu⟩, hB1⟩
  case round =>
    obtain ⟨k, u', b, hk, rfl, rfl, hown, hrel, hB⟩ := hrel
    clear hown1 hl1
    by_cases hlt : k < F.loose.length
    · obtain ⟨c, x, hc1, hc2, hc3⟩ := hch0.out.get hlt
      have hcell : ∃ r, la = some ⟨r, 0, none⟩ ∧ r < w.heap.size ∧ w.cell? ⟨r, k, none⟩ = some x := by
        rcases hrow0.out.2 with ⟨_, h0⟩ | ⟨r, c, cur, he, _, hh, _⟩
        · omega
        · injection he with h1 h2 h3
          refine ⟨r, h1, heap_lt hh, ?_⟩
          subst h1
          subst h3
          rw [World.ownsRow.cellAt hrow0.out k (by omega)]
          exact hc2
      obtain ⟨r, rfl, hr, hcell⟩ := hcell
      have hcw := (hB.cell (p := ⟨r, k, none⟩) hr).trans hcell
      have hkl : (k : Int) < (F.loose.length : Int) := by omega
      have hdr := drop_cons hc1
      by_cases hu' : u' ≤ 0
      · go_wp2_with (fail)
        go_ret
        refine ⟨_, rfl, ?_, hB⟩
        have h1 := hrel.out.1
        rw [show u'.toNat = 0 by omega, keptL_zero] at h1
        rw [← h1]
        exact hown
      · have hok := hrel.out.2.2.1 (by omega)
        rw [hdr] at hok
        cases c with
        | wr y =>
          obtain ⟨ya, yc, rfl, hy1, hy2, hy3, hy4⟩ := hc3
          have hnx : KeptRel F M u.toNat (k + 1) (u' - y.length) (b ++ y.take u'.toNat) := by
            obtain ⟨r1, r2, r3, r4⟩ := hrel.out
            have r5 := okL_head hok.2
            rw [List.length_append] at r5
            refine ⟨?_, by rw [List.length_append, List.length_take]; omega, fun h => ?_, by omega⟩
            · rw [← r1, hdr, keptL, if_neg (by omega), Chg.done, Chg.units]
              congr 1
              omega
            · rw [List.take_of_length_le (by omega)]
              exact hok.2
          have hyl : y.length ≤ 4194304 := by
            have := okL_head hok.2
            rw [List.length_append] at this
            omega
          have hbl : b.length ≤ 4194304 := by have := okL_head hok; omega
          obtain ⟨q, rfl⟩ : ∃ q : Nat, u' = q := ⟨u'.toNat, by omega⟩
          rw [Int.toNat_natCast] at hnx
          have hq0 : (0 : Int) < (q : Int) := by omega
          have hq1 := Lib.hid hrel.out.2.2.2
          have hdn := wdone_any y ya yc hy1 hy2 b u5 w.heap.size q wr ((hy4.reads).below hB) hB.size hown (by omega)
          have hun := fun wz => wunits_any y ya yc wz
          have m1 := meth_wdone (.slice ya y.length yc)
          have m2 := meth_wunits (.slice ya y.length yc)
          replace hnx := Lib.hid hnx
          replace hdn := Lib.hid hdn
          replace hun := Lib.hid hun
          clear hc1 hc2 hdr hok hch0 hrel
          go_wp2_with (first
            | (go_at_call 112; refine hdn.out.mono ?_; rintro e w2 ⟨v2, rfl, hown2, hB2⟩)
            | (go_at_call 113; refine (hun.out _).mono ?_; rintro e w3 ⟨rfl, hB3⟩))
          go_roundw
          case rel => exact ⟨k + 1, (q : Int) - y.length, _, by omega, by go_num, by rw [IntWalk.wrap64_in _ ⟨by omega, by have := hq1.out; omega⟩], hown2.on hB3, hnx.out, (hB.trans hB2).trans (hB3.mono (hB.trans hB2).size)⟩
          case measure => simp [intOf]; omega
        | cut n =>
          obtain ⟨rfl, hn⟩ := hc3
          have hnx : KeptRel F M u.toNat (k + 1) (u' - 1) (b.take n) := by
            obtain ⟨r1, r2, r3, r4⟩ := hrel.out
            refine ⟨?_, by rw [List.length_take]; omega, fun h => hok.2, by omega⟩
            rw [← r1, hdr, keptL, if_neg (by omega), Chg.done, Chg.units]
            congr 1
            omega
          obtain ⟨q, rfl⟩ : ∃ q : Nat, u' = q := ⟨u'.toNat, by omega⟩
          have hq0 : (0 : Int) < (q : Int) := by omega
          have hq1 := Lib.hid hrel.out.2.2.2
          have hdn := cdone_any n b u5 w.heap.size q (by omega) wr hB.size hown
          have hun := fun wz => cunits_any n wz
          have m1 := meth_cdone (.int .i64 n)
          have m2 := meth_cunits (.int .i64 n)
          replace hnx := Lib.hid hnx
          replace hdn := Lib.hid hdn
          replace hun := Lib.hid hun
          clear hc1 hc2 hdr hok hch0 hrel
          go_wp2_with (first
            | (go_at_call 110; refine hdn.out.mono ?_; rintro e w2 ⟨v2, rfl, hown2, hB2⟩)
            | (go_at_call 111; refine (hun.out _).mono ?_; rintro e w3 ⟨rfl, hB3⟩))
          go_roundw
          case rel => exact ⟨k + 1, (q : Int) - 1, _, by omega, by go_num, by rw [IntWalk.wrap64_in _ ⟨by omega, by have := hq1.out; omega⟩], hown2.on hB3, hnx.out, (hB.trans hB2).trans (hB3.mono (hB.trans hB2).size)⟩
          case measure => simp [intOf]; omega
    · obtain rfl : k = F.loose.length := by omega
      go_wp2_with (fail)
      go_ret
      refine ⟨_, rfl, ?_, hB⟩
      have h1 := hrel.out.1
      rw [List.drop_length] at h1
      rw [← h1]
      exact hown

/-- All that is loose is done. -/
theorem units_small {F : FileM} {M : Nat} (hM : M ≤ 4194304) (hF : F.ok M) (hlen : F.loose.length ≤ 1099511627776) : unitsL F.loose ≤ 9223372036854775807 := by
  have h1 := okL_units hF
  have h2 : F.loose.length * (M + 1) ≤ 1099511627776 * 4194305 := Nat.mul_le_mul hlen (by omega)
  omega

set_option maxRecDepth 100000 in
set_option maxHeartbeats 1000000 in
theorem stands_any (B : Nat) (F : FileM) (M : Nat) (hM : M ≤ 4194304) (hF : F.ok M) (g o : Nat) (vs vl : Value) (hlen : F.loose.length ≤ 1099511627776) (w : World)
    (hs : w.cell? ⟨g, o, none⟩ = some vs) (hl : w.cell? ⟨g, o + 1, none⟩ = some vl) (hat : FileAt B w F vs vl) :
    Calls Tryd.prog 49 #[.pointer (some ⟨g, o, none⟩)] w (OwnRet F.stands w) := by
  have hk := kept_any B F M hM hF g o vs vl 9223372036854775807 (by omega) hlen w hs hl hat
  rw [show ((9223372036854775807 : Int).toNat) = 9223372036854775807 from rfl, keptL_all (units_small hM hF hlen)] at hk
  replace hk := Lib.hid hk
  clear hs hl hat hF
  go_enter Tryd.func49, Tryd.ntmps49
  go_wp2_with (go_at_call 70; refine hk.out.mono ?_; rintro e w1 ⟨v1, rfl, hown1, hB1⟩)
  go_ret
  exact ⟨_, rfl, hown1, hB1⟩
end Go.Proofs.YtiidohaibbdgeaaDoor
