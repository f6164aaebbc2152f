/-
  Whether a history may be: the program's (status.Right).
-/
import Derived.Test.YtbmndibhalbioaaDoorMap
namespace Go.Proofs.YtbmndibhalbioaaDoor
open Go Go.RowKit

def lastOf (l : List Ent) (k : Nat) : Int := if k = 0 then 1 else (entAt l (k - 1)).h
def txs (l : List Ent) (k : Nat) : List (List (BitVec 8)) := (l.take k).map (·.tx)
theorem txs_succ {l : List Ent} {k : Nat} (h : k < l.length) : txs l (k + 1) = txs l k ++ [(entAt l k).tx] := by
  unfold txs
  rw [take_one h (⟨0, List.replicate 32 0⟩ : Ent), List.map_append]
  rfl
theorem mem_txs {l : List Ent} {k : Nat} (hk : k ≤ l.length) (t : List (BitVec 8)) : t ∈ txs l k ↔ ∃ j, j < k ∧ (entAt l j).tx = t := by
  induction k with
  | zero => simp [txs]
  | succ k ih =>
    rw [txs_succ (by omega), List.mem_append, ih (by omega)]
    constructor
    · rintro (⟨j, h1, h2⟩ | h)
      · exact ⟨j, by omega, h2⟩
      · exact ⟨k, by omega, (List.mem_singleton.1 h).symm⟩
    · rintro ⟨j, h1, h2⟩
      rcases Nat.lt_or_ge j k with h | h
      · exact .inl ⟨j, h, h2⟩
      · have : j = k := by omega
        subst this
        exact .inr (by rw [h2]; simp)
theorem txs_len {l : List Ent} (h : Oks l) (k : Nat) : ∀ t ∈ txs l k, t.length = 32 := fun t ht => by
  simp only [txs, List.mem_map] at ht
  obtain ⟨e, he, rfl⟩ := ht
  exact (h e (List.mem_of_mem_take he)).1
theorem okAt_iff {l : List Ent} {k : Nat} (hall : ∀ j, j < k → okAt l j) (hk : k < l.length) : okAt l k ↔ ((entAt l k).tx ∉ txs l k ∧ ¬ (entAt l k).h < lastOf l k) := by
  unfold okAt lastOf
  rw [mem_txs (by omega)]
  constructor
  · rintro ⟨h1, h2, h3⟩
    refine ⟨fun ⟨j, hj, he⟩ => h3 j hj he, ?_⟩
    by_cases h0 : k = 0
    · rw [if_pos h0]; omega
    · rw [if_neg h0]; have := h2 (by omega); omega
  · rintro ⟨h1, h2⟩
    by_cases h0 : k = 0
    · rw [if_pos h0] at h2
      exact ⟨by omega, fun h => by omega, fun j hj => by omega⟩
    · rw [if_neg h0] at h2
      have := (hall (k - 1) (by omega)).1
      exact ⟨by omega, fun _ => by omega, fun j hj he => h1 ⟨j, hj, he⟩⟩
theorem lastOf_succ (l : List Ent) (k : Nat) : lastOf l (k + 1) = (entAt l k).h := by simp [lastOf]

/-- Worlds in which a block holds an entry. -/
def Sees (g : Nat) (x : Ent) : Type := { w' : World // w'.cell? ⟨g, 0, none⟩ = some (.int .i64 x.h) ∧ w'.rangeAt g 1 (hashCells x.tx) }

set_option maxRecDepth 100000 in
set_option maxHeartbeats 1000000 in
theorem pright_bool_any (l : List Ent) (hok : Oks l) (a : Option Addr) (cap : Nat) (w : World) (hr : EntsAt w w.heap.size a l) (hlen : l.length ≤ 1000000) :
    Calls Tryd.prog 9 #[.slice a l.length cap] w fun e w' => (∃ r : Bool, e = .returned (.bool r) ∧ (r = true ↔ MayBe l)) ∧ Below w.heap.size w w' := by
  have hr0 := Lib.hid hr
  clear hr
  have hmm := @run_makeMap Tryd.prog
  go_enter Tryd.func9, Tryd.ntmps9
  go_upto_region 2 with (fail)
  generalize hw1 : World.alloc _ _ = w1
  have e1 : w.alloc (.map #[] 0) = w1 := hw1
  have hM : MapIs w1 w.heap.size (txs l 0) := by rw [← e1]; exact ⟨#[], 0, by simp [World.alloc, -World.alloc_eq], rfl⟩
  have hB1 : Below w.heap.size w w1 := by rw [← e1]; exact (Below.refl _ _).alloc (Nat.le_refl _) _
  clear hw1 e1 hmm
  go_wp2_with (fail)
  go_loopw [4, 12] (fun v i wr => ∃ k : Nat, k ≤ l.length ∧ i = .int .i64 k ∧ v = .int .i64 (lastOf l k) ∧ MapIs wr w.heap.size (txs l k) ∧ Hid (∀ j, j < k → okAt l j) ∧ Below w.heap.size w wr) (fun _ i _ => l.length - (intOf i).toNat)
  case atStart => exact ⟨0, by omega, rfl, rfl, hM, fun j h => by omega, hB1⟩
  case round =>
    obtain ⟨k, hk, rfl, rfl, hM, hall, hB⟩ := hrel
    by_cases hlt : k < l.length
    · obtain ⟨b, off, rfl, hbl, hcl⟩ := hr0.out (by omega)
      obtain ⟨hc1, hc2⟩ := EntsAt.get hcl hB hbl k hlt
      have hiff := okAt_iff hall.out hlt
      have hx := hok _ (entAt_mem hlt)
      have hM1 := hM
      have hwlt : w.heap.size < wr.heap.size := hM.lt
      have hls := lastOf_succ l k
      have htx := txs_succ hlt
      have hkl := txs_len hok k
      generalize entAt l k = x at *
      have hrg := ent_range hc1 hc2
      have hi29 : (Tryd.prog.info? 29).map (·.size) = some (entCells x).size := by rw [entCells_size]; kernel_rfl
      replace hi29 := Lib.hid hi29
      have s27 : (Tryd.prog.info? 27).map (·.size) = some (hashCells x.tx).length := by rw [hashCells_length]; kernel_rfl
      replace s27 := Lib.hid s27
      have hz29 : (entCells ⟨0, List.replicate 32 0⟩).size = (entCells x).size := by rw [entCells_size, entCells_size]
      have hnew := Blk.new wr 29 (entCells ⟨0, List.replicate 32 0⟩)
      replace hiff := Lib.hid hiff
      replace hls := Lib.hid hls
      replace htx := Lib.hid htx
      replace hcl := Lib.hid hcl
      generalize hL : lastOf l k = L at *
      replace hL := Lib.hid hL
      go_upto_region 5 with (first
        | (refine wpList_load_mid rfl 29 _ rfl b (off + k * 33) rfl (entCells x).toList _ hrg Tryd.underlying29 rfl hi29.out ?_)
        | (refine wpList_store_row rfl 29 _ _ rfl wr.heap.size (entCells x) rfl rfl 29 (entCells ⟨0, List.replicate 32 0⟩) hnew hi29.out hz29 (entCells_one x) ?_))
      generalize hw2 : World.setRow _ _ _ = w2
      have h2 : Blk w2 wr.heap.size 29 (entCells x) := by rw [← hw2]; exact hnew.row _
      have hg2 : Below wr.heap.size wr w2 := by rw [← hw2]; exact Below.setRow ((Below.refl _ _).alloc (Nat.le_refl _) _) (Nat.le_refl _) _
      have hB2 := hB.trans (hg2.mono hB.size)
      have hM2 := hM1.grown hg2
      clear hw2 hnew hrg hc1 hc2 hM hM1
      have hh : w2.cell? ⟨wr.heap.size, 0, none⟩ = some (.int .i64 x.h) := by rw [h2.cell]; rfl
      have hrt : w2.rangeAt wr.heap.size 1 (hashCells x.tx) := fun j v hj => by
        rw [h2.cell]; simp only [entCells, List.getElem?_toArray, Nat.add_comm 1 j, List.getElem?_cons_succ]; exact hj
      obtain ⟨g, hg⟩ : ∃ g, wr.heap.size = g := ⟨_, rfl⟩
      rw [hg] at hh hrt h2 hwlt ⊢
      replace hg := Lib.hid hg
      go_wp2_with (refine wpList_load_mid rfl 27 _ rfl g 1 rfl (hashCells x.tx) _ hrt Tryd.underlying27 rfl s27.out ?_; rw [HV_eq]; refine Hid.out ?_)
      refine Lib.hid ?_
      refine wpList_lookup_hash rfl (.tmp 18) (.tmp 20) rfl rfl rfl hM2 hkl hx.1 ?_
      intro v0
      go_frame
      by_cases hin : x.tx ∈ txs l k
      · rw [decide_eq_true hin]
        replace hin := Lib.hid hin
        go_wp2
        go_ret
        refine ⟨⟨false, rfl, ?_⟩, hB2⟩
        constructor
        · intro h; cases h
        · intro h; exact absurd hin.out (hiff.out.1 (h k hlt)).1
      · rw [decide_eq_false hin]
        by_cases hlo : x.h < L
        · replace hin := Lib.hid hin
          go_wp2
          go_ret
          refine ⟨⟨false, rfl, ?_⟩, hB2⟩
          constructor
          · intro h; cases h
          · intro h; exact absurd hlo (by have := (hiff.out.1 (h k hlt)).2; omega)
        · have hlo' : decide (x.h < L) = false := decide_eq_false hlo
          have hok' : okAt l k := hiff.out.2 ⟨hin, by omega⟩
          replace hin := Lib.hid hin
          replace hok' := Lib.hid hok'
          go_wp2_with (fail)
          have hgm : g ≠ w.heap.size := by omega
          haveI : Nonempty (Sees g x) := ⟨⟨w2, hh, hrt⟩⟩
          have hse : ∀ z : Sees g x, z.1.cell? ⟨g, 0, none⟩ = some (.int .i64 x.h) := fun z => z.2.1
          refine wp_region_held_do (C := fun w' => ∃ z : Sees g x, w' = z.1) 6 (by kernel_rfl) (by kernel_rfl) (by kernel_rfl) (by intro c a d u w h; cases d <;> exact h) ⟨⟨w2.drew, hh, hrt⟩, rfl⟩ ?_
          simp only [List.take_succ_cons, List.take_zero, List.drop_succ_cons, List.drop_zero]
          repeat (go_big_quiet_step (fail))
          refine wpQuiet_load_mid rfl 27 _ rfl g 1 rfl (hashCells x.tx) _ (by rintro _ ⟨z, rfl⟩; exact z.2.2) Tryd.underlying27 rfl s27.out ?_
          rw [HV_eq]
          go_frame
          repeat (go_big_quiet_step (fail))
          refine wpQuiet_nil ?_
          refine wpOp_of_wp rfl rfl (wp_update_hash (.tmp 31) (.tmp 33) (.tmp 34) rfl rfl rfl hM2 hkl hx.1 hin.out ?_)
          intro w3 hM3 hgr hB3
          have hgl : g < w2.heap.size := h2.lt
          refine ⟨⟨⟨w3, ?_, ?_⟩, rfl⟩, ?_⟩
          · rw [World.cell?_of_block (hgr.block g hgl (by simpa using hgm))]; exact hh
          · intro j v hj
            rw [World.cell?_of_block (hgr.block g hgl (by simpa using hgm))]; exact hrt j v hj
          replace hB3 : Below w.heap.size w w3 := hB2.drew.trans hB3
          go_frame
          go_wp2
          go_roundw
          case rel =>
            refine ⟨k + 1, by omega, by go_num, by rw [hls.out], by rw [htx.out]; exact hM3, fun j hj => ?_, hB3⟩
            rcases Nat.lt_or_ge j k with h | h
            · exact hall j h
            · have : j = k := by omega
              subst this; exact hok'
          case measure => simp [intOf]; omega
    · obtain rfl : k = l.length := by omega
      go_wp2
      go_ret
      exact ⟨⟨true, rfl, fun _ => hall, fun _ => rfl⟩, hB⟩
end Go.Proofs.YtbmndibhalbioaaDoor
