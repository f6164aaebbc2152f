/-
  Whether a history may be: the document's (scantlingref17.Right).
-/
import Derived.Test.YtbmndibhalbioaaDoorEq
namespace Go.Proofs.YtbmndibhalbioaaDoor
open Go Go.RowKit

/-- May this entry stand there? -/
def okAt (l : List Ent) (i : Nat) : Prop := 1 ≤ (entAt l i).h ∧ (0 < i → (entAt l (i - 1)).h ≤ (entAt l i).h) ∧ ∀ k, k < i → (entAt l k).tx ≠ (entAt l i).tx
/-- May the history be? -/
def MayBe (l : List Ent) : Prop := ∀ i, i < l.length → okAt l i

/-- What an entry's cells are, at an address. -/
theorem EntsAt.get {w w' : World} {B : Nat} {b o : Nat} {l : List Ent} (hcl : ∀ j, j < l.length → w.cell? ⟨b, o + j * 33, none⟩ = some (.int .i64 (entAt l j).h) ∧ w.rangeAt b (o + j * 33 + 1) (hashCells (entAt l j).tx)) (hB : Below B w w') (hb : b < B) (j : Nat) (hj : j < l.length) :
    w'.cell? ⟨b, o + j * 33, none⟩ = some (.int .i64 (entAt l j).h) ∧ w'.rangeAt b (o + j * 33 + 1) (hashCells (entAt l j).tx) :=
  ⟨(hB.cell (p := ⟨b, o + j * 33, none⟩) hb).trans (hcl j hj).1, rangeAt_below (hcl j hj).2 hB hb⟩

set_option maxRecDepth 100000 in
set_option maxHeartbeats 1000000 in
theorem rright_bool_any (l : List Ent) (hok : Oks l) (a : Option Addr) (cap : Nat) (w : World) (hr : EntsAt w w.heap.size a l) (hlen : l.length ≤ 1000000) :
    Calls Tryd.prog 10 #[.slice a l.length cap] w fun e w' => (∃ r : Bool, e = .returned (.bool r) ∧ (r = true ↔ MayBe l)) ∧ Below w.heap.size w w' := by
  have hr0 := Lib.hid hr
  clear hr
  go_enter Tryd.func10, Tryd.ntmps10
  go_wp2_with (fail)
  go_loopw [3] (fun i wr => ∃ k : Nat, k ≤ l.length ∧ i = .int .i64 k ∧ Hid (∀ j, j < k → okAt l j) ∧ Below w.heap.size w wr) (fun i _ => l.length - (intOf i).toNat)
  case atStart => exact ⟨0, by omega, rfl, fun j h => by omega, Below.refl _ _⟩
  case round =>
    obtain ⟨k, hk, rfl, hall, hB⟩ := hrel
    by_cases hlt : k < l.length
    · obtain ⟨b, off, rfl, hbl, hcl⟩ := hr0.out (by omega)
      obtain ⟨hc1, hc2⟩ := EntsAt.get hcl hB hbl k hlt
      have hget := fun wx (h : Below w.heap.size w wx) => EntsAt.get hcl h hbl
      replace hget := Lib.hid hget
      replace hcl := Lib.hid hcl
      by_cases h1 : (entAt l k).h < 1
      · go_wp2_with (fail)
        go_quiet (fail)
        go_wp2
        go_ret
        refine ⟨⟨false, rfl, ?_⟩, Below.drewN hB _⟩
        constructor
        · intro h; cases h
        · intro h; have := (h k hlt).1; omega
      · have h1' : decide ((entAt l k).h < 1) = false := decide_eq_false h1
        by_cases h2 : k = 0
        · have h2' : decide ((0 : Int) < (k : Int)) = false := decide_eq_false (by omega)
          have h2n : decide (0 < k) = false := decide_eq_false (by omega)
          replace h2 := Lib.hid h2
          go_wp2_with (fail)
          go_quiet (fail)
          generalize hwz : World.drewN wr _ = wz
          have hBz : Below w.heap.size w wz := by rw [← hwz]; exact Below.drewN hB _
          clear hwz hc1 hc2
          go_wp2_with (fail)
          go_loopw [4] (fun q wq => ∃ j : Nat, j ≤ k ∧ q = .int .i64 j ∧ Hid (∀ p, p < j → (entAt l p).tx ≠ (entAt l k).tx) ∧ Below w.heap.size w wq) (fun q _ => k - (intOf q).toNat)
          case atStart => exact ⟨0, by omega, rfl, fun p h => by omega, hBz⟩
          case round =>
            obtain ⟨j, hj, rfl, hne, hBq⟩ := hrel
            by_cases hjk : j < k
            · obtain ⟨_, hd2⟩ := hget.out wr hBq k hlt
              obtain ⟨_, he2⟩ := hget.out wr hBq j (by omega)
              have hbq : b < wr.heap.size := Nat.lt_of_lt_of_le hbl hBq.size
              have hjl : (j : Int) < (l.length : Int) := by omega
              have oj := (hok _ (entAt_mem (show j < l.length by omega))).1
              have ok := (hok _ (entAt_mem hlt)).1
              have s27 : ∀ t, (Tryd.prog.info? 27).map (·.size) = some (hashCells t).length := fun t => by rw [hashCells_length]; kernel_rfl
              replace s27 := Lib.hid s27
              go_wp2_with (fail)
              refine wp_region_quiet_lit (by kernel_rfl) (by kernel_rfl) ?_
              repeat (go_big_quiet_step (fail))
              refine wpQuiet_load_mid rfl 27 _ rfl b (off + j * 33 + 1) rfl (hashCells (entAt l j).tx) _ (by rintro _ ⟨z, rfl⟩; exact he2) Tryd.underlying27 rfl (s27.out _) ?_
              rw [HV_eq]
              go_frame
              repeat (go_big_quiet_step (fail))
              refine wpQuiet_load_mid rfl 27 _ rfl b (off + k * 33 + 1) rfl (hashCells (entAt l k).tx) _ (by rintro _ ⟨z, rfl⟩; exact hd2) Tryd.underlying27 rfl (s27.out _) ?_
              rw [HV_eq]
              go_frame
              refine wpQuiet_of_run rfl _ (fun wx _ => exec_eql_hash (.tmp 44) (.tmp 49) _ rfl rfl rfl oj ok wx) ?_
              go_frame
              refine wpQuiet_nil ?_
              rintro _ ⟨nq, rfl⟩
              by_cases heq : (entAt l j).tx = (entAt l k).tx
              · rw [decide_eq_true heq]
                go_wp2
                go_ret
                refine ⟨⟨false, rfl, ?_⟩, Below.drewN hBq _⟩
                constructor
                · intro h; cases h
                · intro h; exact absurd heq ((h k hlt).2.2 j hjk)
              · rw [decide_eq_false heq]
                replace heq := Lib.hid heq
                go_wp2
                go_roundw
                case rel =>
                  refine ⟨j + 1, by omega, by go_num, fun p hp => ?_, Below.drewN hBq _⟩
                  rcases Nat.lt_or_ge p j with h | h
                  · exact hne p h
                  · have : p = j := by omega
                    subst this; exact heq
                case measure => simp [intOf]; omega
            · obtain rfl : j = k := by omega
              go_wp2
              go_roundw
              case rel =>
                refine ⟨j + 1, by omega, by go_num, fun p hp => ?_, hBq⟩
                rcases Nat.lt_or_ge p j with h | h
                · exact hall p h
                · have : p = j := by omega
                  subst this; exact ⟨by omega, fun h => by have := h2.out; omega, hne⟩
              case measure => simp [intOf]; omega
        · have h2' : (0 : Int) < (k : Int) := by omega
          have h2n : 0 < k := by omega
          replace h2 := Lib.hid h2
          have hkm : (k : Int) - 1 = ((k - 1 : Nat) : Int) := by omega
          obtain ⟨hp1, _⟩ := hget.out wr hB (k - 1) (by omega)
          have hkl : ((k - 1 : Nat) : Int) < (l.length : Int) := by omega
          by_cases h3 : (entAt l k).h < (entAt l (k - 1)).h
          · go_wp2_with (fail)
            go_quiet (fail)
            go_wp2
            go_ret
            refine ⟨⟨false, rfl, ?_⟩, Below.drewN hB _⟩
            constructor
            · intro h; cases h
            · intro h; have := (h k hlt).2.1 (by omega); omega
          · have h3' : decide ((entAt l k).h < (entAt l (k - 1)).h) = false := decide_eq_false h3
            go_wp2_with (fail)
            go_quiet (fail)
            generalize hwz : World.drewN wr _ = wz
            have hBz : Below w.heap.size w wz := by rw [← hwz]; exact Below.drewN hB _
            clear hwz hc1 hc2 hp1
            go_wp2_with (fail)
            go_loopw [4] (fun q wq => ∃ j : Nat, j ≤ k ∧ q = .int .i64 j ∧ Hid (∀ p, p < j → (entAt l p).tx ≠ (entAt l k).tx) ∧ Below w.heap.size w wq) (fun q _ => k - (intOf q).toNat)
            case atStart => exact ⟨0, by omega, rfl, fun p h => by omega, hBz⟩
            case round =>
              obtain ⟨j, hj, rfl, hne, hBq⟩ := hrel
              by_cases hjk : j < k
              · obtain ⟨_, hd2⟩ := hget.out wr hBq k hlt
                obtain ⟨_, he2⟩ := hget.out wr hBq j (by omega)
                have hbq : b < wr.heap.size := Nat.lt_of_lt_of_le hbl hBq.size
                have hjl : (j : Int) < (l.length : Int) := by omega
                have oj := (hok _ (entAt_mem (show j < l.length by omega))).1
                have ok := (hok _ (entAt_mem hlt)).1
                have s27 : ∀ t, (Tryd.prog.info? 27).map (·.size) = some (hashCells t).length := fun t => by rw [hashCells_length]; kernel_rfl
                replace s27 := Lib.hid s27
                go_wp2_with (fail)
                refine wp_region_quiet_lit (by kernel_rfl) (by kernel_rfl) ?_
                repeat (go_big_quiet_step (fail))
                refine wpQuiet_load_mid rfl 27 _ rfl b (off + j * 33 + 1) rfl (hashCells (entAt l j).tx) _ (by rintro _ ⟨z, rfl⟩; exact he2) Tryd.underlying27 rfl (s27.out _) ?_
                rw [HV_eq]
                go_frame
                repeat (go_big_quiet_step (fail))
                refine wpQuiet_load_mid rfl 27 _ rfl b (off + k * 33 + 1) rfl (hashCells (entAt l k).tx) _ (by rintro _ ⟨z, rfl⟩; exact hd2) Tryd.underlying27 rfl (s27.out _) ?_
                rw [HV_eq]
                go_frame
                refine wpQuiet_of_run rfl _ (fun wx _ => exec_eql_hash (.tmp 44) (.tmp 49) _ rfl rfl rfl oj ok wx) ?_
                go_frame
                refine wpQuiet_nil ?_
                rintro _ ⟨nq, rfl⟩
                by_cases heq : (entAt l j).tx = (entAt l k).tx
                · rw [decide_eq_true heq]
                  go_wp2
                  go_ret
                  refine ⟨⟨false, rfl, ?_⟩, Below.drewN hBq _⟩
                  constructor
                  · intro h; cases h
                  · intro h; exact absurd heq ((h k hlt).2.2 j hjk)
                · rw [decide_eq_false heq]
                  replace heq := Lib.hid heq
                  go_wp2
                  go_roundw
                  case rel =>
                    refine ⟨j + 1, by omega, by go_num, fun p hp => ?_, Below.drewN hBq _⟩
                    rcases Nat.lt_or_ge p j with h | h
                    · exact hne p h
                    · have : p = j := by omega
                      subst this; exact heq
                  case measure => simp [intOf]; omega
              · obtain rfl : j = k := by omega
                go_wp2
                go_roundw
                case rel =>
                  refine ⟨j + 1, by omega, by go_num, fun p hp => ?_, hBq⟩
                  rcases Nat.lt_or_ge p j with h | h
                  · exact hall p h
                  · have : p = j := by omega
                    subst this; exact ⟨by omega, fun h => by omega, hne⟩
                case measure => simp [intOf]; omega
    · obtain rfl : k = l.length := by omega
      go_wp2
      go_ret
      exact ⟨⟨true, rfl, fun _ => hall, fun _ => rfl⟩, hB⟩
end Go.Proofs.YtbmndibhalbioaaDoor
