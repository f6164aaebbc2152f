/-
  StatusRight, walked: it returns true.
-/
import Derived.Test.YtbmndibhalbioaaDoorRightLaw
import Derived.Test.YtbmndibhalbioaaDoorTree
import Derived.Deep.DeepCutAuto
import Derived.Deep.CutBlock
namespace Go.Proofs.YtbmndibhalbioaaDoor
open Go Go.RowKit

/-- With one more. -/
def moreOf (l : List Ent) (h : Int) (t : List (BitVec 8)) : List Ent := l ++ [⟨h, t⟩]
theorem built_any (h : Int) (t : List (BitVec 8)) : Tryd.prog.built 29 [(0, .int .i64 h), (1, HV t)] = some (entCells ⟨h, t⟩) := by kernel_rfl
theorem fill_any (e : Ent) : Instr.fill (fun i => some (i * 33, 33)) ((Array.range (1 * 33)).map ((EV ⟨0, n0⟩).cells[· % (EV ⟨0, n0⟩).cells.size]!)) [(0, EV e)] = some (entCells e) := by kernel_rfl
theorem ents_one {w : World} {g : Nat} {t : TypeId} {e : Ent} (h : Blk w g t (entCells e)) : EntsAt w w.heap.size (some ⟨g, 0, none⟩) [e] := fun _ =>
  ⟨g, 0, rfl, h.lt, fun j hj => by
    have hj0 : j = 0 := by simpa using hj
    subst hj0
    exact ⟨by rw [h.cell]; rfl, fun q v hq => by rw [h.cell]; simpa [entCells, entAt, Nat.add_comm 1 q] using hq⟩⟩
theorem OwnEnts.empty' (w : World) {base : Nat} (hb : base ≤ w.heap.size) : OwnEnts (w.alloc (.cells #[] 29)) base (.slice (some ⟨w.heap.size, 0, none⟩) 0 0) [] :=
  World.ownsRow_lit (base := base) (e := 29) (size := 33) w #[] 0 hb (by unfold maxLen; omega) rfl
theorem OwnEnts.alloc {w : World} {base : Nat} {v : Value} {l : List Ent} (h : OwnEnts w base v l) (o : Obj) : OwnEnts (w.alloc o) base v l := World.ownsRow.alloc h o
theorem OwnEnts.drew {w : World} {base : Nat} {v : Value} {l : List Ent} (h : OwnEnts w base v l) : OwnEnts w.drew base v l := h
theorem Blk.grown {w w' : World} {g : Nat} {t : TypeId} {cs : Array Value} {row : Option Nat} (h : Blk w g t cs) (hg : w.grownBy w' row) (hne : some g ≠ row) : Blk w' g t cs := (hg.block g h.lt hne).trans h

set_option maxRecDepth 100000 in
set_option maxHeartbeats 1000000 in
theorem stright_any (l : List Ent) (hok : Oks l) (a : Option Addr) (cap : Nat) (hcap : l.length ≤ cap) (n : Nat) (hn : n ≤ 255) (w : World) (hr : EntsAt w w.heap.size a l) (hT : Tab w) (hP : Pow w) :
    Calls Tryd.prog 5 #[.slice a l.length cap, .int .u8 n] w fun e w' => e = .returned (.bool true) ∧ Below w.heap.size w w' := by
  have hr0 := Lib.hid hr
  have hT0 := Lib.hid hT
  have hP0 := Lib.hid hP
  clear hr hT hP
  go_enter Tryd.func5, Tryd.ntmps5
  by_cases hl : 100 < l.length
  · go_wp2_with (go_at_call 6; refine (works_any w hT0.out hP0.out).mono ?_; rintro e w1 ⟨rfl, hB⟩)
    go_ret
    exact ⟨rfl, hB⟩
  have hld : decide ((100 : Int) < (l.length : Int)) = false := decide_eq_false (by omega)
  by_cases h0 : l.length = 0
  · have hz : ((l.length : Int) == 0) = true := by rw [beq_iff_eq]; omega
    replace h0 := Lib.hid h0
    go_wp2_with (go_at_call 6; refine (works_any w hT0.out hP0.out).mono ?_; rintro e w1 ⟨rfl, hB⟩)
    go_ret
    exact ⟨rfl, hB⟩
  have hz : ((l.length : Int) == 0) = false := by rw [beq_eq_false_iff_ne]; omega
  have hl' : l.length ≤ 100 := by omega
  have hl0 : 0 < l.length := by omega
  clear hl h0
  have hpr := pright_any' l hok a cap w hr0.out (by omega)
  cases hmb : mayB l with
  | false =>
    rw [hmb] at hpr
    clear hmb
    go_wp2_with (first
      | (go_at_call 9; refine hpr.mono ?_; rintro e w1 ⟨rfl, hB⟩)
      | (go_at_call 6; refine (works_any _ (hT0.out.grown hB) (hP0.out.grown hB)).mono ?_; rintro e w2 ⟨rfl, hB2⟩))
    go_ret
    exact ⟨rfl, hB.trans (hB2.mono hB.size)⟩
  | true =>
    rw [hmb] at hpr
    have hmay := (mayB_iff l).1 hmb
    replace hmay := Lib.hid hmay
    replace hpr := Lib.hid hpr
    clear hmb
    obtain ⟨b, off, rfl, hb, hc⟩ := hr0.out hl0
    replace hc := Lib.hid hc
    obtain ⟨k, hk⟩ : ∃ k : Nat, (n : Int) % (l.length : Int) = k := ⟨n % l.length, by simp⟩
    have hkl : k < l.length := by
      have := Int.emod_lt_of_pos (n : Int) (show (0 : Int) < l.length by omega)
      omega
    replace hk := Lib.hid hk
    go_upto_region 4 with (first
      | (go_at_call 9; refine hpr.out.mono ?_; rintro e w1 ⟨rfl, hB⟩))
    rw [hk.out]
    go_wp2_with (fail)
    obtain ⟨i29, hi29, hz29, hs29, _⟩ := info_parts info_ent
    obtain ⟨o2, ho2⟩ : ∃ o2, o2 = if cap = k + 1 then off else off + (k + 1) * 33 := ⟨_, rfl⟩
    have hsz : ∀ wx, (sizeOf (Tryd.prog.elem 22)).run Tryd.prog wx = .ok 33 wx := fun wx => by kernel_rfl
    have hsl1 : ∀ wx, (Instr.sliceAt 22 (.slice (some ⟨b, off, none⟩) l.length cap) none (some (.int .i64 k)) none).run Tryd.prog wx = .ok (.slice (some ⟨b, off, none⟩) k cap) wx := fun wx => by
      rw [run_sliceAt_slice wx _ _ _ _ _ Tryd.underlying22, run_slice_h wx _ _ _ _ Tryd.underlying22 .i64 k (by omega) (by omega), hsz]
      simp [sliced, addr_add]
    have hsl2 : ∀ wx, (Instr.sliceAt 22 (.slice (some ⟨b, off, none⟩) l.length cap) (some (.int .i64 (k + 1))) none none).run Tryd.prog wx = .ok (.slice (some ⟨b, o2, none⟩) (l.length - (k + 1)) (cap - (k + 1))) wx := fun wx => by
      rw [run_sliceAt_slice wx _ _ _ _ _ Tryd.underlying22, run_slice_l wx _ _ _ _ Tryd.underlying22 .i64 ((k : Int) + 1) (by omega) (by omega), hsz]
      simp only [Result.andThen_ok, sliced, show ((k : Int) + 1).toNat = k + 1 by omega]
      rw [ho2]
      split <;> simp [addr_add]
    replace ho2 := Lib.hid ho2
    replace hsl1 := Lib.hid hsl1
    replace hsl2 := Lib.hid hsl2
    clear hsz
    refine wp_region_ways (S := fun w' => ∃ x : Grew w1.heap.size w1, w' = x.1) (.one [1, 2, 3, 5, 6, 7, 8] 0 (.one [] 4 (.one [] 9 (.last [10])))) (by kernel_rfl) (by kernel_rfl) (by intro c a d u w h; cases d <;> exact h) ⟨⟨w1.drew, (Below.refl _ _).drew⟩, rfl⟩ ?_
    simp only [wpWays, picks, List.getElem?_toArray, List.getElem?_cons_succ, List.getElem?_cons_zero]
    go_big_quiet_step (fail)
    go_big_quiet_step (fail)
    refine wpQuiet_of_run rfl _ (fun wx _ => exec_piece rfl (hsl1.out wx)) ?_
    go_frame
    go_big_quiet_step (fail)
    go_big_quiet_step (fail)
    go_big_quiet_step (fail)
    refine wpQuiet_of_run rfl _ (fun wx _ => exec_piece rfl (hsl2.out wx)) ?_
    go_frame
    refine wpQuiet_nil ?_
    refine wpOp_step rfl (fun K hK => ?_)
    go_simp
    refine hK _ _ ⟨⟨⟨_, (Below.refl _ _).drew.alloc (Nat.le_refl _) _⟩, rfl⟩, ?_⟩
    clear hK K
    refine wpQuiet_nil ?_
    refine wpOp_of_list (by simp only [List.getElem?_toArray, List.getElem?_cons_succ, List.getElem?_cons_zero]; rfl) ?_
    have htk : (l.take k).length = k := List.length_take_of_le (by omega)
    have hdk : (l.drop (k + 1)).length = l.length - (k + 1) := List.length_drop
    have hD1 : Below w1.heap.size w1 (w1.alloc (.cells #[] 29)).drew := ((Below.refl _ _).alloc (Nat.le_refl _) _).drew
    have hE1 := hr0.out.on hB
    have hr2 := (ents_take hE1 k).below hD1
    refine wpList_append_ents rfl (.tmp 27) (.tmp 30) rfl w1.heap.size _ [] rfl (OwnEnts.empty w1) (some ⟨b, off, none⟩) cap w1.heap.size (l.take k) (by rw [htk]; rfl) hr2 (fun h => by cases h) (by rw [htk]; simp; omega) (by simp) w1.heap.size w1 hD1 (Nat.le_refl _) ?_
    intro v2 w2 hown2 _ hB2
    rw [List.nil_append] at hown2
    refine wpList_end ⟨⟨⟨w2, hB2⟩, rfl⟩, ?_⟩
    refine wpQuiet_nil ?_
    go_frame
    refine wpOp_of_list (by simp only [List.getElem?_toArray, List.getElem?_cons_succ, List.getElem?_cons_zero]; rfl) ?_
    have hr3 := (ents_drop hE1 (k + 1) o2 (fun h => by rw [ho2.out, if_neg (by omega)])).below hB2
    refine wpList_append_ents rfl (.tmp 31) (.tmp 35) rfl w1.heap.size v2 (l.take k) rfl hown2 (some ⟨b, _, none⟩) (cap - (k + 1)) w1.heap.size (l.drop (k + 1)) (by rw [hdk]; rfl) hr3 (fun h => by cases h) (by rw [htk, hdk]; omega) hB2.size w1.heap.size w1 hB2 (Nat.le_refl _) ?_
    intro v3 w3 hown3 _ hB3
    refine wpList_end ⟨⟨⟨w3, hB3⟩, rfl⟩, ?_⟩
    go_frame
    go_big_quiet_step (fail)
    refine wpQuiet_nil ?_
    clear hr2 hr3 hown2 hD1 hsl1 hsl2
    obtain ⟨a2, c2, rfl, hc2, _, hr2⟩ := hown3.form
    clear hown3 hB2
    change EntsAt w3 w3.heap.size a2 (less l k) at hr2
    have hB3' := hB.trans (hB3.mono hB.size)
    clear hB3 hE1 htk hdk
    rw [show (l.take k ++ l.drop (k + 1)).length = (less l k).length from rfl]
    go_upto_region 5 with (fail)
    go_cut [7] (fun s7 wx => ∃ a3 c3, s7 = .slice a3 (moreOf l (entAt l (l.length - 1)).h (entAt l k).tx).length c3 ∧ EntsAt wx wx.heap.size a3 (moreOf l (entAt l (l.length - 1)).h (entAt l k).tx) ∧ Below w3.heap.size w3 wx)
    case first =>
      have hg1 := hc.out k hkl
      have hg2 := hc.out (l.length - 1) (by omega)
      obtain ⟨q1, q2⟩ := EntsAt.get hc.out hB3' hb k hkl
      obtain ⟨q3, _⟩ := EntsAt.get hc.out hB3' hb (l.length - 1) (by omega)
      have ok1 := hok _ (entAt_mem hkl)
      have ok2 := hok _ (entAt_mem (show l.length - 1 < l.length by omega))
      have hrow : ∀ wx, (∃ x : Grew w3.heap.size w3, wx = x.1) → wx.rangeAt b (off + k * 33 + 1) (hashCells (entAt l k).tx) := by
        rintro _ ⟨z, rfl⟩
        exact rangeAt_below q2 z.2 (Nat.lt_of_lt_of_le hb hB3'.size)
      have hcell := fun z : Grew w3.heap.size w3 => Grew.cell q3 (Nat.lt_of_lt_of_le hb hB3'.size) z
      have hE3 := EntsAt.on (w := w) (a := some ⟨b, off, none⟩) (l := l) (fun _ => ⟨b, off, rfl, hb, hc.out⟩) hB3'
      have s27 : (Tryd.prog.info? 27).map (·.size) = some (hashCells (entAt l k).tx).length := by rw [hashCells_length]; kernel_rfl
      replace s27 := Lib.hid s27
      have hl1 : ((l.length : Int) - 1) = ((l.length - 1 : Nat) : Int) := by omega
      have hl2 : ((l.length - 1 : Nat) : Int) < (l.length : Int) := by omega
      have hl3 : (k : Int) < (l.length : Int) := by omega
      generalize (entAt l (l.length - 1)).h = hh at *
      generalize (entAt l k).tx = tx at *
      clear q1 q2 q3 hg1 hg2 hc2
      refine wp_region_ways (S := fun w' => ∃ x : Grew w3.heap.size w3, w' = x.1) (.two [1, 3, 4, 5, 6, 7, 8, 9, 10, 11, 12, 13, 14, 15] 0 (.two [] 2 (.one [] 16 (.one [] 17 (.last [18]))) 16 (.one [] 2 (.one [] 17 (.last [18])))) 16 (.one [] 0 (.one [] 2 (.one [] 17 (.last [18]))))) (by kernel_rfl) (by kernel_rfl) (by intro c a d u w h; cases d <;> exact h) ⟨⟨w3.drew, (Below.refl _ _).drew⟩, rfl⟩ ?_
      simp only [wpWays, picks, List.getElem?_toArray, List.getElem?_cons_succ, List.getElem?_cons_zero]
      repeat (go_big_quiet_step (fail))
      refine wpQuiet_load_mid rfl 27 _ rfl b (off + k * 33 + 1) rfl (hashCells tx) _ hrow Tryd.underlying27 rfl s27.out ?_
      rw [HV_eq]
      go_frame
      refine wpQuiet_of_run rfl (EV ⟨hh, tx⟩) (fun wx _ => exec_built 29 _ rfl [(0, .int .i64 hh), (1, HV tx)] (by kernel_rfl) _ (built_any hh tx) wx) ?_
      go_frame
      have hD0 : Below w3.heap.size w3 (w3.alloc (.cells #[] 29)).drew := ((Below.refl _ _).alloc (Nat.le_refl _) _).drew
      have hD1 : Below w3.heap.size w3 (w3.drew.alloc (.cells (entCells ⟨hh, tx⟩) 29)) := ((Below.refl _ _).drew).alloc (Nat.le_refl _) _
      have hO0 := (OwnEnts.empty' w3 (Nat.le_refl _)).drew
      refine wpQuiet_nil ⟨?_, ?_⟩
      · refine wpOp_step (by simp only [List.getElem?_toArray, List.getElem?_cons_succ, List.getElem?_cons_zero]; rfl) (fun K hK => ?_)
        go_simp
        refine hK _ _ ⟨⟨⟨_, hD0⟩, rfl⟩, ?_⟩
        clear hK K
        refine wpQuiet_nil ⟨?_, ?_⟩
        · refine wpOp_of_list (by simp only [List.getElem?_toArray, List.getElem?_cons_succ, List.getElem?_cons_zero]; rfl) ?_
          refine wpList_append_ents rfl (.tmp 37) (.tmp 38) rfl w3.heap.size _ [] rfl hO0 (some ⟨b, off, none⟩) cap w3.heap.size l rfl (hE3.below hD0) (fun h => by cases h) (by simp; omega) (hD0).size w3.heap.size w3 hD0 (Nat.le_refl _) ?_
          intro v4 w4 hown4 hgr hB4
          rw [List.nil_append] at hown4
          refine wpList_end ⟨⟨⟨w4, hB4⟩, rfl⟩, ?_⟩
          refine wpQuiet_nil ?_
          go_frame
          refine wpOp_val (by simp only [List.getElem?_toArray, List.getElem?_cons_succ, List.getElem?_cons_zero]; rfl) rfl (exec_slice_ents 1 _ rfl (by omega) (by omega) [(0, EV ⟨hh, tx⟩)] (by kernel_rfl) _ (fill_any ⟨hh, tx⟩) _) ?_
          refine ⟨⟨⟨_, hB4.alloc hB4.size _⟩, rfl⟩, ?_⟩
          refine wpQuiet_nil ?_
          go_frame
          refine wpOp_of_list (by simp only [List.getElem?_toArray, List.getElem?_cons_succ, List.getElem?_cons_zero]; rfl) ?_
          refine wpList_append_ents rfl (.tmp 39) (.tmp 53) rfl w3.heap.size v4 l rfl (hown4.alloc _) (some ⟨w4.heap.size, 0, none⟩) 1 _ [⟨hh, tx⟩] rfl (ents_one (Blk.new w4 _ _)) (fun h => by cases h) (by simp; omega) ((hB4.alloc hB4.size _)).size w3.heap.size w3 (hB4.alloc hB4.size _) (Nat.le_refl _) ?_
          intro v6 w6 hown6 _ hB6
          refine wpList_end ⟨⟨⟨w6, hB6⟩, rfl⟩, ?_⟩
          go_frame
          go_big_quiet_step (fail)
          refine wpQuiet_nil ?_
          go_wp2_with (fail)
          go_meet
          obtain ⟨a3, c3, rfl, _, _, hr3⟩ := hown6.form
          exact ⟨a3, c3, rfl, hr3, hB6⟩
        · refine wpOp_val (by simp only [List.getElem?_toArray, List.getElem?_cons_succ, List.getElem?_cons_zero]; rfl) rfl (exec_slice_ents 1 _ rfl (by omega) (by omega) [(0, EV ⟨hh, tx⟩)] (by kernel_rfl) _ (fill_any ⟨hh, tx⟩) _) ?_
          have hD2 := hD0.alloc hD0.size (.cells (entCells ⟨hh, tx⟩) 29)
          have hX := Blk.new (w3.alloc (.cells #[] 29)).drew 29 (entCells ⟨hh, tx⟩)
          refine ⟨⟨⟨_, hD2⟩, rfl⟩, ?_⟩
          refine wpQuiet_nil ?_
          go_frame
          refine wpOp_of_list (by simp only [List.getElem?_toArray, List.getElem?_cons_succ, List.getElem?_cons_zero]; rfl) ?_
          refine wpList_append_ents rfl (.tmp 37) (.tmp 38) rfl w3.heap.size _ [] rfl (hO0.alloc _) (some ⟨b, off, none⟩) cap w3.heap.size l rfl (hE3.below hD2) (fun h => by cases h) (by simp; omega) (hD2).size w3.heap.size w3 hD2 (Nat.le_refl _) ?_
          intro v4 w4 hown4 hgr hB4
          rw [List.nil_append] at hown4
          refine wpList_end ⟨⟨⟨w4, hB4⟩, rfl⟩, ?_⟩
          refine wpQuiet_nil ?_
          go_frame
          refine wpOp_of_list (by simp only [List.getElem?_toArray, List.getElem?_cons_succ, List.getElem?_cons_zero]; rfl) ?_
          refine wpList_append_ents rfl (.tmp 39) (.tmp 53) rfl w3.heap.size v4 l rfl hown4 (some ⟨_, 0, none⟩) 1 _ [⟨hh, tx⟩] rfl (ents_one (hX.grown hgr (by simp [Act.eval, Value.ownBlock]))) (fun h => by cases h) (by simp; omega) (hB4).size w3.heap.size w3 hB4 (Nat.le_refl _) ?_
          intro v6 w6 hown6 _ hB6
          refine wpList_end ⟨⟨⟨w6, hB6⟩, rfl⟩, ?_⟩
          go_frame
          go_big_quiet_step (fail)
          refine wpQuiet_nil ?_
          go_wp2_with (fail)
          go_meet
          obtain ⟨a3, c3, rfl, _, _, hr3⟩ := hown6.form
          exact ⟨a3, c3, rfl, hr3, hB6⟩
      · refine wpOp_val (by simp only [List.getElem?_toArray, List.getElem?_cons_succ, List.getElem?_cons_zero]; rfl) rfl (exec_slice_ents 1 _ rfl (by omega) (by omega) [(0, EV ⟨hh, tx⟩)] (by kernel_rfl) _ (fill_any ⟨hh, tx⟩) _) ?_
        have hX := Blk.new w3.drew 29 (entCells ⟨hh, tx⟩)
        refine ⟨⟨⟨_, hD1⟩, rfl⟩, ?_⟩
        refine wpQuiet_nil ?_
        go_frame
        refine wpOp_step (by simp only [List.getElem?_toArray, List.getElem?_cons_succ, List.getElem?_cons_zero]; rfl) (fun K hK => ?_)
        go_simp
        have hD2 : Below w3.heap.size w3 ((w3.alloc (.cells (entCells ⟨hh, tx⟩) 29)).alloc (.cells #[] 29)).drew := (((Below.refl _ _).alloc (Nat.le_refl _) _).alloc (by simp) _).drew
        have hO2 : OwnEnts ((w3.alloc (.cells (entCells ⟨hh, tx⟩) 29)).alloc (.cells #[] 29)).drew w3.heap.size (.slice (some ⟨w3.heap.size + 1, 0, none⟩) 0 0) [] := by
          have := (OwnEnts.empty' (w3.alloc (.cells (entCells ⟨hh, tx⟩) 29)) (base := w3.heap.size) (by simp)).drew
          simpa using this
        refine hK _ _ ⟨⟨⟨_, hD2⟩, rfl⟩, ?_⟩
        clear hK K
        refine wpQuiet_nil ?_
        refine wpOp_of_list (by simp only [List.getElem?_toArray, List.getElem?_cons_succ, List.getElem?_cons_zero]; rfl) ?_
        refine wpList_append_ents rfl (.tmp 37) (.tmp 38) rfl w3.heap.size _ [] rfl hO2 (some ⟨b, off, none⟩) cap w3.heap.size l rfl (hE3.below hD2) (fun h => by cases h) (by simp; omega) (hD2).size w3.heap.size w3 hD2 (Nat.le_refl _) ?_
        intro v4 w4 hown4 hgr hB4
        rw [List.nil_append] at hown4
        refine wpList_end ⟨⟨⟨w4, hB4⟩, rfl⟩, ?_⟩
        refine wpQuiet_nil ?_
        go_frame
        refine wpOp_of_list (by simp only [List.getElem?_toArray, List.getElem?_cons_succ, List.getElem?_cons_zero]; rfl) ?_
        refine wpList_append_ents rfl (.tmp 39) (.tmp 53) rfl w3.heap.size v4 l rfl hown4 (some ⟨_, 0, none⟩) 1 _ [⟨hh, tx⟩] rfl (ents_one ((hX.alloc (.cells #[] 29)).grown hgr (by simp [Act.eval, Value.ownBlock]))) (fun h => by cases h) (by simp; omega) (hB4).size w3.heap.size w3 hB4 (Nat.le_refl _) ?_
        intro v6 w6 hown6 _ hB6
        refine wpList_end ⟨⟨⟨w6, hB6⟩, rfl⟩, ?_⟩
        go_frame
        go_big_quiet_step (fail)
        refine wpQuiet_nil ?_
        go_wp2_with (fail)
        go_meet
        obtain ⟨a3, c3, rfl, _, _, hr3⟩ := hown6.form
        exact ⟨a3, c3, rfl, hr3, hB6⟩
    case rest =>
      obtain ⟨a3, c3, rfl, hr3, hB4⟩ := hcut
      have ok1 := hok _ (entAt_mem hkl)
      have ok2 := hok _ (entAt_mem (show l.length - 1 < l.length by omega))
      have hnot := more_not l hkl ⟨(entAt l (l.length - 1)).h, (entAt l k).tx⟩ rfl
      have hokm : Oks (moreOf l (entAt l (l.length - 1)).h (entAt l k).tx) := fun e he => by
        rcases List.mem_append.1 he with he | he
        · exact hok e he
        · rw [List.mem_singleton] at he
          subst he
          exact ⟨ok1.1, ok2.2⟩
      have hlm : (moreOf l (entAt l (l.length - 1)).h (entAt l k).tx).length ≤ 1000000 := by simp [moreOf]; omega
      have hmb2 : mayB (moreOf l (entAt l (l.length - 1)).h (entAt l k).tx) = false := mayB_false hnot
      have hmb1 : mayB (less l k) = true := mayB_true (less_may hmay.out hkl)
      have hll : (less l k).length ≤ 1000000 := by rw [less_length hkl]; omega
      have hp1 := fun wx (hx : Below w3.heap.size w3 wx) => pright_any' (less l k) (less_ok hok k) a2 c2 wx (hr2.on hx) hll
      rw [hmb1] at hp1
      have hp2 := fun wx (hx : Below wc.heap.size wc wx) => pright_any' (moreOf l (entAt l (l.length - 1)).h (entAt l k).tx) hokm a3 c3 wx (hr3.on hx) hlm
      rw [hmb2] at hp2
      generalize moreOf l (entAt l (l.length - 1)).h (entAt l k).tx = M at *
      generalize less l k = N at *
      replace hp1 := Lib.hid hp1
      replace hp2 := Lib.hid hp2
      have hB4' := hB3'.trans (hB4.mono hB3'.size)
      clear hnot hmb1 hmb2 hr2 hr3 ok1 ok2 hok hokm
      go_wp2_with (first
        | (go_at_call_of 9 (Value.slice a2 N.length c2); refine (hp1.out _ hB4).mono ?_; rintro e w5 ⟨rfl, hB5⟩; have hB5' := hB4'.trans (hB5.mono hB4'.size))
        | (go_at_call 9; refine (hp2.out _ hB5).mono ?_; rintro e w6 ⟨rfl, hB6⟩; have hB6' := hB5'.trans (hB6.mono hB5'.size))
        | (go_at_call 6; refine (works_any _ (hT0.out.grown hB6') (hP0.out.grown hB6')).mono ?_; rintro e w7 ⟨rfl, hB7⟩))
      go_ret
      exact ⟨rfl, hB6'.trans (hB7.mono hB6'.size)⟩
end Go.Proofs.YtbmndibhalbioaaDoor
