/-
  Calls of a disk that are counted: New, Write, Cut, Sync.
-/
import Derived.Test.YtiidohaibbdgeaaDoorDCalls
namespace Go.Proofs.YtiidohaibbdgeaaDoor
open Go Go.RowKit

/-- A new disk, or none. -/
def NewRet (B : Nat) (most : Int) (w : World) (e : Ending) (w' : World) : Prop :=
  (1 ≤ most ∧ most ≤ 4194304 ∧ e = .returned (.tuple #[.pointer (some ⟨w.heap.size, 0, none⟩), .int .i64 0]) ∧ DiskAt B w' w.heap.size (DiskM.new most.toNat) ∧ Below w.heap.size w w') ∨
  (¬ (1 ≤ most ∧ most ≤ 4194304) ∧ e = .returned (.tuple #[.pointer none, .int .i64 1]) ∧ w' = w)

set_option maxRecDepth 100000 in
set_option maxHeartbeats 1000000 in
theorem new_any (B : Nat) (most : Int) (w : World) (hB : B ≤ w.heap.size) : Calls Tryd.prog 10 #[.int .i64 most] w (NewRet B most w) := by
  by_cases h1 : most < 1
  · go_enter Tryd.func10, Tryd.ntmps10
    go_wp2
    go_ret2
    exact .inr ⟨by omega, rfl, rfl⟩
  · by_cases h2 : 4194304 < most
    · go_enter Tryd.func10, Tryd.ntmps10
      go_wp2
      go_ret2
      exact .inr ⟨by omega, rfl, rfl⟩
    · obtain ⟨m, rfl⟩ : ∃ m : Nat, most = m := ⟨most.toNat, by omega⟩
      have h1' : 1 ≤ (m : Int) := by omega
      have h2' : (m : Int) ≤ 4194304 := by omega
      clear h1 h2
      go_enter Tryd.func10, Tryd.ntmps10
      go_wp2
      go_ret2
      refine .inl ⟨h1', h2', rfl, ?_, (Below.refl _ _).alloc (Nat.le_refl _) _⟩
      refine ⟨_, _, _, _, Blk.new w 68 _, hB, ⟨⟨none, 0, rfl, fun _ => rfl, by simp [DiskM.new], by unfold maxLen; omega, BytesAt.nil _ _ _⟩, [], World.ownsRow_nil _ _ _ _, trivial⟩, ⟨⟨none, 0, rfl, fun _ => rfl, by simp [DiskM.new], by unfold maxLen; omega, BytesAt.nil _ _ _⟩, [], World.ownsRow_nil _ _ _ _, trivial⟩, .inl rfl⟩

set_option maxRecDepth 100000 in
set_option maxHeartbeats 1000000 in
theorem goes_any (B : Nat) (D : DiskM) (k : DiskM → DiskM) (g : Nat) (fn : Nat) (caps : Array Value) (hfn : ∀ w, (callFunc fn caps).run Tryd.prog w = .ok (.enter fn caps) w) (w : World) (h : DiskAt B w g D)
    (hbody : ∀ w1, DiskAt B w1 g { D with left := RowKit.wrap64 (D.left - 1) } → Lies B w w1 → Calls Tryd.prog fn caps w1 fun e w' => e = .returned (.tuple #[]) ∧ DiskAt B w' g (k { D with left := RowKit.wrap64 (D.left - 1) }) ∧ Lies B w1 w') :
    Calls Tryd.prog 50 #[.pointer (some ⟨g, 0, none⟩), .func (.func fn) #[] caps] w (DiskRet B g (D.goes k) w) := by
  have h0 := Lib.hid h
  obtain ⟨v0, l0, v1, l1, hb, h2, h3, h4, h5⟩ := h
  have hc5 : w.cell? ⟨g, 5, none⟩ = some (.bool D.off) := hb.cell 5
  have hc6 : w.cell? ⟨g, 6, none⟩ = some (.bool D.fused) := hb.cell 6
  have hc7 : w.cell? ⟨g, 7, none⟩ = some (.int .i64 D.left) := hb.cell 7
  have hf5 := hb.free 5
  have hf7 := hb.free 7
  have hp := fun (D' : DiskM) (i : Nat) (u : Value) => DiskAt.plain (D' := D') (i := i) (u := u) hb h2 h3 h4 h5
  have he := hp { D with off := true } 5 (.bool true) rfl rfl rfl
  have hn := hp { D with left := RowKit.wrap64 (D.left - 1) } 7 (.int .i64 (RowKit.wrap64 (D.left - 1))) rfl rfl rfl
  have hbd := hbody _ hn.1 hn.2
  have hn2 := hn.2
  clear hb h3 h4 h5 hp hn hbody
  by_cases hz : D.fused = true ∧ D.left = 0
  · rw [show D.goes k = ({ D with off := true }, 8) by simp [DiskM.goes, hz]]
    obtain ⟨hz1, hz2⟩ := hz
    rw [hz1] at hc6
    rw [hz2] at hc7
    clear hbd hn2 hz1 hz2
    replace he := Lib.hid he
    go_enter Tryd.func50, Tryd.ntmps50
    go_wp2
    go_ret
    exact ⟨rfl, he.out.1, he.out.2⟩
  · rw [show D.goes k = (k { D with left := RowKit.wrap64 (D.left - 1) }, 0) by simp only [DiskM.goes, if_neg hz]]
    have hz' : D.fused = false ∨ (D.fused = true ∧ D.left ≠ 0) := by
      cases hf : D.fused with
      | false => exact .inl rfl
      | true => exact .inr ⟨rfl, fun e => hz ⟨hf, e⟩⟩
    clear hz he
    replace hbd := Lib.hid hbd
    replace hn2 := Lib.hid hn2
    rcases hz' with hz1 | ⟨hz1, hz2⟩
    · rw [hz1] at hc6
      clear hz1
      go_enter Tryd.func50, Tryd.ntmps50
      go_wp2_with (fail)
      refine hbd.out.mono ?_
      rintro e w2 ⟨rfl, hD, hL⟩
      go_wp2
      go_ret
      exact ⟨rfl, hD, hn2.out.trans hL⟩
    · rw [hz1] at hc6
      have hz3 : (D.left == 0) = false := by rw [beq_eq_false_iff_ne]; exact hz2
      clear hz1 hz2
      go_enter Tryd.func50, Tryd.ntmps50
      go_wp2_with (fail)
      refine hbd.out.mono ?_
      rintro e w2 ⟨rfl, hD, hL⟩
      go_wp2
      go_ret
      exact ⟨rfl, hD, hn2.out.trans hL⟩

/-- A captured variable. -/
def Box (w : World) (b : Nat) (t : TypeId) (v : Value) : Prop := Blk w b t #[v] ∧ mayTurn t = false
theorem Box.lies {B : Nat} {w w' : World} {b : Nat} {t : TypeId} {v : Value} (h : Box w b t v) (hl : Lies B w w') : Box w' b t v := ⟨hl.still b _ t _ h.1 h.2, h.2⟩
theorem Box.cell {w : World} {b : Nat} {t : TypeId} {v : Value} (h : Box w b t v) : w.cell? ⟨b, 0, none⟩ = some v := h.1.cell 0
theorem info_chg : (Tryd.prog.info? 112).map (fun i => (i.zero, i.size, i.bytes)) = some (some .nilIface, 1, 16) := by kernel_rfl

/-- Worlds in which four cells hold what they held. -/
def Four (p1 : Addr) (v1 : Value) (p2 : Addr) (v2 : Value) (p3 : Addr) (v3 : Value) (p4 : Addr) (v4 : Value) : Type := { w' : World // w'.cell? p1 = some v1 ∧ w'.cell? p2 = some v2 ∧ w'.cell? p3 = some v3 ∧ w'.cell? p4 = some v4 }

set_option maxRecDepth 100000 in
set_option maxHeartbeats 1000000 in
/-- Cut's closure. -/
theorem cutdo_any (B cnt : Nat) (D : DiskM) (hok : D.ok cnt) (g : Nat) (f : Int) (hf : ¬ (f < 0 ∨ 2 ≤ f)) (n : Nat) (hn : n ≤ 9223372036854775807) (bd bf bn : Nat) (w : World) (h : DiskAt B w g D)
    (h1 : Box w bd 25 (.pointer (some ⟨g, 0, none⟩))) (h2 : Box w bf 3 (.int .i64 f)) (h3 : Box w bn 3 (.int .i64 n)) :
    Calls Tryd.prog 51 #[.pointer (some ⟨bd, 0, none⟩), .pointer (some ⟨bf, 0, none⟩), .pointer (some ⟨bn, 0, none⟩)] w
      fun e w' => e = .returned (.tuple #[]) ∧ DiskAt B w' g (D.with f.toNat ((D.file f.toNat).put (.cut n))) ∧ Lies B w w' := by
  obtain ⟨i112, hi112, hz112, hs112, hy112⟩ := info_parts info_chg
  have hB := h.base
  obtain ⟨v0, l0, v1, l1, hb, hg, h4, h5, h6⟩ := h
  have c1 := h1.cell
  have c2 := h2.cell
  have c3 := h3.cell
  have d1 := h1.1.lt
  have d2 := h2.1.lt
  have d3 := h3.1.lt
  have dg := hb.lt
  have k1 := Lib.hid h1
  have k2 := Lib.hid h2
  have k3 := Lib.hid h3
  rcases two_files hf with rfl | rfl
  · rw [show (0 : Int).toNat = 0 from rfl, file0]
    have hl : w.cell? ⟨g, 1, none⟩ = some l0 := hb.cell 1
    have hparts := And.intro hb (And.intro h4 (And.intro h5 h6))
    obtain ⟨_, xs, hrow, hch⟩ := h4
    have hlen := Nat.le_trans hok.n0 hok.cnt
    replace hparts := Lib.hid hparts
    replace hrow := Lib.hid hrow
    replace hch := Lib.hid hch
    clear hb h5 h6 h1 h2 hf hok h3
    go_enter Tryd.func51, Tryd.ntmps51
    go_wp2_with (fail)
    have L4 : ∀ wx, Below w.heap.size w wx → ∃ z : Four ⟨bd, 0, none⟩ (.pointer (some ⟨g, 0, none⟩)) ⟨bf, 0, none⟩ (.int .i64 0) ⟨bn, 0, none⟩ (.int .i64 n) ⟨g, 1, none⟩ l0, wx = z.1 := fun wx hx =>
      ⟨⟨wx, (hx.cell (p := ⟨bd, 0, none⟩) d1).trans c1, (hx.cell (p := ⟨bf, 0, none⟩) d2).trans c2, (hx.cell (p := ⟨bn, 0, none⟩) d3).trans c3, (hx.cell (p := ⟨g, 1, none⟩) dg).trans hl⟩, rfl⟩
    haveI : Nonempty (Four ⟨bd, 0, none⟩ (.pointer (some ⟨g, 0, none⟩)) ⟨bf, 0, none⟩ (.int .i64 0) ⟨bn, 0, none⟩ (.int .i64 n) ⟨g, 1, none⟩ l0) := ⟨⟨w, c1, c2, c3, hl⟩⟩
    have z1 := fun z : Four ⟨bd, 0, none⟩ (.pointer (some ⟨g, 0, none⟩)) ⟨bf, 0, none⟩ (.int .i64 0) ⟨bn, 0, none⟩ (.int .i64 n) ⟨g, 1, none⟩ l0 => z.2.1
    have z2 := fun z : Four ⟨bd, 0, none⟩ (.pointer (some ⟨g, 0, none⟩)) ⟨bf, 0, none⟩ (.int .i64 0) ⟨bn, 0, none⟩ (.int .i64 n) ⟨g, 1, none⟩ l0 => z.2.2.1
    have z3 := fun z : Four ⟨bd, 0, none⟩ (.pointer (some ⟨g, 0, none⟩)) ⟨bf, 0, none⟩ (.int .i64 0) ⟨bn, 0, none⟩ (.int .i64 n) ⟨g, 1, none⟩ l0 => z.2.2.2.1
    have z4 := fun z : Four ⟨bd, 0, none⟩ (.pointer (some ⟨g, 0, none⟩)) ⟨bf, 0, none⟩ (.int .i64 0) ⟨bn, 0, none⟩ (.int .i64 n) ⟨g, 1, none⟩ l0 => z.2.2.2.2
    refine wp_region_waysL (S := fun w' => ∃ x : Four ⟨bd, 0, none⟩ (.pointer (some ⟨g, 0, none⟩)) ⟨bf, 0, none⟩ (.int .i64 0) ⟨bn, 0, none⟩ (.int .i64 n) ⟨g, 1, none⟩ l0, w' = x.1) 18 (.one [0, 1, 2, 3, 4, 5, 6, 7, 8, 9, 10, 11, 14, 15] 12 (.one [] 13 (.fin [16, 17] 18))) (by kernel_rfl) (by kernel_rfl) (by intro c a d u w h; cases d <;> exact h) (L4 _ (Below.refl _ _).drew) ?_
    simp only [wpWaysL, picks, List.getElem?_toArray, List.getElem?_cons_succ, List.getElem?_cons_zero]
    repeat (go_big_quiet_step (fail))
    refine wpQuiet_nil ?_
    refine wpOp_step (by simp only [List.getElem?_toArray, List.getElem?_cons_succ, List.getElem?_cons_zero]; rfl) (fun K hK => ?_)
    go_simp
    have hB1 : Below w.heap.size w (w.alloc (.cells #[.iface 85 (.agg #[.int .i64 n])] 112)).drew := ((Below.refl _ _).alloc (Nat.le_refl _) _).drew
    refine hK _ _ ⟨L4 _ hB1, ?_⟩
    clear hK K z1 z2 z3 z4
    have hnew : ∀ j u, [Value.iface 85 (.agg #[.int .i64 n])][j]? = some u → (w.alloc (.cells #[.iface 85 (.agg #[.int .i64 n])] 112)).drew.cell? ((⟨w.heap.size, 0, none⟩ : Addr).add j) = some u := cell_one_new _ _ _
    have hw1 : w.heap.size ≤ (w.alloc (.cells #[.iface 85 (.agg #[.int .i64 n])] 112)).drew.heap.size := hB1.size
    generalize hW : (w.alloc (.cells #[.iface 85 (.agg #[.int .i64 n])] 112)).drew = W at *
    clear hW
    refine wpQuiet_nil ?_
    refine wpOp_of_list (by simp only [List.getElem?_toArray, List.getElem?_cons_succ, List.getElem?_cons_zero]; rfl) ?_
    have hrow1 := owns_same hrow.out (fun r hr => by obtain ⟨cur, hh, _⟩ := owns_block hrow.out hr; exact hB1.block r (heap_lt hh))
    refine wpList_append_own_at W rfl (.tmp 11) (.tmp 15) 63 rfl B 112 i112 .nilIface 1 16 Tryd.underlying63 hi112 hz112 hs112 hy112 rfl (by decide) l0 D.f0.loose.length xs rfl hrow1 ⟨w.heap.size, 0, none⟩ 1 1 [Value.iface 85 (.agg #[.int .i64 n])] rfl rfl hnew (by simp [Value.oneCell']) (by unfold maxLen; omega) (by omega) (Nat.le_trans hB hw1) ?_
    intro l' w2 hown2 hgr2 _ hat
    obtain ⟨hb, h4, h5, h6⟩ := hparts.out
    have hl1 := Lies.new hB1 hB
    have hp := DiskAt.push0 (hb.below hB1 hb.lt) hg (h4.grown hB hB1) (h5.grown hB hB1) h6 (hch.out.rest hl1) (show ChgAt B W (.cut n) _ from ⟨rfl, hn⟩) hgr2 hown2 hat
    have hne : ∀ (b : Nat) (cs : Array Value) (t : TypeId), W.heap[b]? = some (.cells cs t (0, 0)) → t ≠ 112 → w2.heap[b]? = W.heap[b]? := fun b cs t hh ht =>
      hgr2.block b (heap_lt hh) (fun e => by
        obtain ⟨cur, hk, _⟩ := owns_block hrow1 e.symm
        exact type_ne hh hk ht rfl)
    have hbW := hb.below hB1 hb.lt
    have hb2 : Blk w2 g _ _ := (hne g _ _ hbW (by decide)).trans hbW
    have hl2 := lies_row (h4.grown hB hB1) (Nat.le_trans hB hw1) hgr2
    refine wpList_end ⟨⟨⟨w2, ?_, ?_, ?_, ?_⟩, rfl⟩, ?_⟩
    · exact ((k1.out.lies hl1).lies hl2).cell
    · exact ((k2.out.lies hl1).lies hl2).cell
    · exact ((k3.out.lies hl1).lies hl2).cell
    · exact hb2.cell 1
    have hfr := hb2.free 1
    have hc2 : w2.cell? ⟨g, 1, none⟩ = some l0 := hb2.cell 1
    obtain ⟨la', lc', rfl⟩ : ∃ la lc, l' = .slice la (D.f0.loose.length + 1) lc := by
      rcases hown2.2 with ⟨_, h0⟩ | ⟨r, c, cur, rfl, _⟩
      · omega
      · exact ⟨_, _, rfl⟩
    have hp0 := Lib.hid hp
    have hl1' := Lib.hid hl1
    clear hb h4 h5 h6 hb2 hbW hne hl2 hown2 hgr2 hat hrow1 hp hB1 hnew hl1
    go_frame
    repeat (go_big_quiet_step (fail))
    refine wpQuiet_nil ?_
    refine wpOp_step (by simp only [List.getElem?_toArray, List.getElem?_cons_succ, List.getElem?_cons_zero]; rfl) (fun K hK => ?_)
    go_simp
    refine hK _ _ ?_
    clear hK K
    go_wp2_with (fail)
    go_end0
    exact ⟨rfl, hp0.out.1, hl1'.out.trans hp0.out.2⟩
  · rw [show (1 : Int).toNat = 1 from rfl, file1]
    have hl : w.cell? ⟨g, 3, none⟩ = some l1 := hb.cell 3
    have hparts := And.intro hb (And.intro h4 (And.intro h5 h6))
    obtain ⟨_, xs, hrow, hch⟩ := h5
    have hlen := Nat.le_trans hok.n1 hok.cnt
    replace hparts := Lib.hid hparts
    replace hrow := Lib.hid hrow
    replace hch := Lib.hid hch
    clear hb h4 h6 h1 h2 hf hok h3
    go_enter Tryd.func51, Tryd.ntmps51
    go_wp2_with (fail)
    have L4 : ∀ wx, Below w.heap.size w wx → ∃ z : Four ⟨bd, 0, none⟩ (.pointer (some ⟨g, 0, none⟩)) ⟨bf, 0, none⟩ (.int .i64 1) ⟨bn, 0, none⟩ (.int .i64 n) ⟨g, 3, none⟩ l1, wx = z.1 := fun wx hx =>
      ⟨⟨wx, (hx.cell (p := ⟨bd, 0, none⟩) d1).trans c1, (hx.cell (p := ⟨bf, 0, none⟩) d2).trans c2, (hx.cell (p := ⟨bn, 0, none⟩) d3).trans c3, (hx.cell (p := ⟨g, 3, none⟩) dg).trans hl⟩, rfl⟩
    haveI : Nonempty (Four ⟨bd, 0, none⟩ (.pointer (some ⟨g, 0, none⟩)) ⟨bf, 0, none⟩ (.int .i64 1) ⟨bn, 0, none⟩ (.int .i64 n) ⟨g, 3, none⟩ l1) := ⟨⟨w, c1, c2, c3, hl⟩⟩
    have z1 := fun z : Four ⟨bd, 0, none⟩ (.pointer (some ⟨g, 0, none⟩)) ⟨bf, 0, none⟩ (.int .i64 1) ⟨bn, 0, none⟩ (.int .i64 n) ⟨g, 3, none⟩ l1 => z.2.1
    have z2 := fun z : Four ⟨bd, 0, none⟩ (.pointer (some ⟨g, 0, none⟩)) ⟨bf, 0, none⟩ (.int .i64 1) ⟨bn, 0, none⟩ (.int .i64 n) ⟨g, 3, none⟩ l1 => z.2.2.1
    have z3 := fun z : Four ⟨bd, 0, none⟩ (.pointer (some ⟨g, 0, none⟩)) ⟨bf, 0, none⟩ (.int .i64 1) ⟨bn, 0, none⟩ (.int .i64 n) ⟨g, 3, none⟩ l1 => z.2.2.2.1
    have z4 := fun z : Four ⟨bd, 0, none⟩ (.pointer (some ⟨g, 0, none⟩)) ⟨bf, 0, none⟩ (.int .i64 1) ⟨bn, 0, none⟩ (.int .i64 n) ⟨g, 3, none⟩ l1 => z.2.2.2.2
    refine wp_region_waysL (S := fun w' => ∃ x : Four ⟨bd, 0, none⟩ (.pointer (some ⟨g, 0, none⟩)) ⟨bf, 0, none⟩ (.int .i64 1) ⟨bn, 0, none⟩ (.int .i64 n) ⟨g, 3, none⟩ l1, w' = x.1) 18 (.one [0, 1, 2, 3, 4, 5, 6, 7, 8, 9, 10, 11, 14, 15] 12 (.one [] 13 (.fin [16, 17] 18))) (by kernel_rfl) (by kernel_rfl) (by intro c a d u w h; cases d <;> exact h) (L4 _ (Below.refl _ _).drew) ?_
    simp only [wpWaysL, picks, List.getElem?_toArray, List.getElem?_cons_succ, List.getElem?_cons_zero]
    repeat (go_big_quiet_step (fail))
    refine wpQuiet_nil ?_
    refine wpOp_step (by simp only [List.getElem?_toArray, List.getElem?_cons_succ, List.getElem?_cons_zero]; rfl) (fun K hK => ?_)
    go_simp
    have hB1 : Below w.heap.size w (w.alloc (.cells #[.iface 85 (.agg #[.int .i64 n])] 112)).drew := ((Below.refl _ _).alloc (Nat.le_refl _) _).drew
    refine hK _ _ ⟨L4 _ hB1, ?_⟩
    clear hK K z1 z2 z3 z4
    have hnew : ∀ j u, [Value.iface 85 (.agg #[.int .i64 n])][j]? = some u → (w.alloc (.cells #[.iface 85 (.agg #[.int .i64 n])] 112)).drew.cell? ((⟨w.heap.size, 0, none⟩ : Addr).add j) = some u := cell_one_new _ _ _
    have hw1 : w.heap.size ≤ (w.alloc (.cells #[.iface 85 (.agg #[.int .i64 n])] 112)).drew.heap.size := hB1.size
    generalize hW : (w.alloc (.cells #[.iface 85 (.agg #[.int .i64 n])] 112)).drew = W at *
    clear hW
    refine wpQuiet_nil ?_
    refine wpOp_of_list (by simp only [List.getElem?_toArray, List.getElem?_cons_succ, List.getElem?_cons_zero]; rfl) ?_
    have hrow1 := owns_same hrow.out (fun r hr => by obtain ⟨cur, hh, _⟩ := owns_block hrow.out hr; exact hB1.block r (heap_lt hh))
    refine wpList_append_own_at W rfl (.tmp 11) (.tmp 15) 63 rfl B 112 i112 .nilIface 1 16 Tryd.underlying63 hi112 hz112 hs112 hy112 rfl (by decide) l1 D.f1.loose.length xs rfl hrow1 ⟨w.heap.size, 0, none⟩ 1 1 [Value.iface 85 (.agg #[.int .i64 n])] rfl rfl hnew (by simp [Value.oneCell']) (by unfold maxLen; omega) (by omega) (Nat.le_trans hB hw1) ?_
    intro l' w2 hown2 hgr2 _ hat
    obtain ⟨hb, h4, h5, h6⟩ := hparts.out
    have hl1 := Lies.new hB1 hB
    have hp := DiskAt.push1 (hb.below hB1 hb.lt) hg (h4.grown hB hB1) (h5.grown hB hB1) h6 (hch.out.rest hl1) (show ChgAt B W (.cut n) _ from ⟨rfl, hn⟩) hgr2 hown2 hat
    have hne : ∀ (b : Nat) (cs : Array Value) (t : TypeId), W.heap[b]? = some (.cells cs t (0, 0)) → t ≠ 112 → w2.heap[b]? = W.heap[b]? := fun b cs t hh ht =>
      hgr2.block b (heap_lt hh) (fun e => by
        obtain ⟨cur, hk, _⟩ := owns_block hrow1 e.symm
        exact type_ne hh hk ht rfl)
    have hbW := hb.below hB1 hb.lt
    have hb2 : Blk w2 g _ _ := (hne g _ _ hbW (by decide)).trans hbW
    have hl2 := lies_row (h5.grown hB hB1) (Nat.le_trans hB hw1) hgr2
    refine wpList_end ⟨⟨⟨w2, ?_, ?_, ?_, ?_⟩, rfl⟩, ?_⟩
    · exact ((k1.out.lies hl1).lies hl2).cell
    · exact ((k2.out.lies hl1).lies hl2).cell
    · exact ((k3.out.lies hl1).lies hl2).cell
    · exact hb2.cell 3
    have hfr := hb2.free 3
    have hc2 : w2.cell? ⟨g, 3, none⟩ = some l1 := hb2.cell 3
    obtain ⟨la', lc', rfl⟩ : ∃ la lc, l' = .slice la (D.f1.loose.length + 1) lc := by
      rcases hown2.2 with ⟨_, h0⟩ | ⟨r, c, cur, rfl, _⟩
      · omega
      · exact ⟨_, _, rfl⟩
    have hp0 := Lib.hid hp
    have hl1' := Lib.hid hl1
    clear hb h4 h5 h6 hb2 hbW hne hl2 hown2 hgr2 hat hrow1 hp hB1 hnew hl1
    go_frame
    repeat (go_big_quiet_step (fail))
    refine wpQuiet_nil ?_
    refine wpOp_step (by simp only [List.getElem?_toArray, List.getElem?_cons_succ, List.getElem?_cons_zero]; rfl) (fun K hK => ?_)
    go_simp
    refine hK _ _ ?_
    clear hK K
    go_wp2_with (fail)
    go_end0
    exact ⟨rfl, hp0.out.1, hl1'.out.trans hp0.out.2⟩

set_option maxRecDepth 100000 in
set_option maxHeartbeats 1000000 in
/-- Write's closure. -/
theorem writedo_any (B cnt : Nat) (D : DiskM) (hok : D.ok cnt) (g : Nat) (f : Int) (hf : ¬ (f < 0 ∨ 2 ≤ f)) (b : Bs) (a : Option Addr) (cap : Nat) (hca : a = none → cap = 0) (hbl : b.length ≤ 70368744177664) (bd bf bn : Nat) (w : World) (h : DiskAt B w g D)
    (h1 : Box w bd 25 (.pointer (some ⟨g, 0, none⟩))) (h2 : Box w bf 3 (.int .i64 f)) (h3 : Box w bn 35 (.slice a b.length cap)) (hby : BytesAt B w a b) :
    Calls Tryd.prog 52 #[.pointer (some ⟨bd, 0, none⟩), .pointer (some ⟨bf, 0, none⟩), .pointer (some ⟨bn, 0, none⟩)] w
      fun e w' => e = .returned (.tuple #[]) ∧ DiskAt B w' g (D.with f.toNat ((D.file f.toNat).put (.wr b))) ∧ Lies B w w' := by
  obtain ⟨i112, hi112, hz112, hs112, hy112⟩ := info_parts info_chg
  have hB := h.base
  obtain ⟨v0, l0, v1, l1, hb, hg, h4, h5, h6⟩ := h
  have c1 := h1.cell
  have c2 := h2.cell
  have c3 := h3.cell
  have d1 := h1.1.lt
  have d2 := h2.1.lt
  have d3 := h3.1.lt
  have dg := hb.lt
  have k1 := Lib.hid h1
  have k2 := Lib.hid h2
  have k3 := Lib.hid h3
  have hbytes := Lib.hid hby
  clear hby
  rcases two_files hf with rfl | rfl
  · rw [show (0 : Int).toNat = 0 from rfl, file0]
    have hl : w.cell? ⟨g, 1, none⟩ = some l0 := hb.cell 1
    have hparts := And.intro hb (And.intro h4 (And.intro h5 h6))
    obtain ⟨_, xs, hrow, hch⟩ := h4
    have hlen := Nat.le_trans hok.n0 hok.cnt
    replace hparts := Lib.hid hparts
    replace hrow := Lib.hid hrow
    replace hch := Lib.hid hch
    clear hb h5 h6 h1 h2 hf hok h3
    go_enter Tryd.func52, Tryd.ntmps52
    go_wp2_with (fail)
    have L4 : ∀ wx, Below w.heap.size w wx → ∃ z : Four ⟨bd, 0, none⟩ (.pointer (some ⟨g, 0, none⟩)) ⟨bf, 0, none⟩ (.int .i64 0) ⟨bn, 0, none⟩ (.slice a b.length cap) ⟨g, 1, none⟩ l0, wx = z.1 := fun wx hx =>
      ⟨⟨wx, (hx.cell (p := ⟨bd, 0, none⟩) d1).trans c1, (hx.cell (p := ⟨bf, 0, none⟩) d2).trans c2, (hx.cell (p := ⟨bn, 0, none⟩) d3).trans c3, (hx.cell (p := ⟨g, 1, none⟩) dg).trans hl⟩, rfl⟩
    haveI : Nonempty (Four ⟨bd, 0, none⟩ (.pointer (some ⟨g, 0, none⟩)) ⟨bf, 0, none⟩ (.int .i64 0) ⟨bn, 0, none⟩ (.slice a b.length cap) ⟨g, 1, none⟩ l0) := ⟨⟨w, c1, c2, c3, hl⟩⟩
    have z1 := fun z : Four ⟨bd, 0, none⟩ (.pointer (some ⟨g, 0, none⟩)) ⟨bf, 0, none⟩ (.int .i64 0) ⟨bn, 0, none⟩ (.slice a b.length cap) ⟨g, 1, none⟩ l0 => z.2.1
    have z2 := fun z : Four ⟨bd, 0, none⟩ (.pointer (some ⟨g, 0, none⟩)) ⟨bf, 0, none⟩ (.int .i64 0) ⟨bn, 0, none⟩ (.slice a b.length cap) ⟨g, 1, none⟩ l0 => z.2.2.1
    have z3 := fun z : Four ⟨bd, 0, none⟩ (.pointer (some ⟨g, 0, none⟩)) ⟨bf, 0, none⟩ (.int .i64 0) ⟨bn, 0, none⟩ (.slice a b.length cap) ⟨g, 1, none⟩ l0 => z.2.2.2.1
    have z4 := fun z : Four ⟨bd, 0, none⟩ (.pointer (some ⟨g, 0, none⟩)) ⟨bf, 0, none⟩ (.int .i64 0) ⟨bn, 0, none⟩ (.slice a b.length cap) ⟨g, 1, none⟩ l0 => z.2.2.2.2
    refine wp_region_waysL (S := fun w' => ∃ x : Four ⟨bd, 0, none⟩ (.pointer (some ⟨g, 0, none⟩)) ⟨bf, 0, none⟩ (.int .i64 0) ⟨bn, 0, none⟩ (.slice a b.length cap) ⟨g, 1, none⟩ l0, w' = x.1) 19 (.one [0, 1, 2, 3, 4, 5, 6, 7, 8, 9, 15, 16] 10 (.one [11, 12] 13 (.one [] 14 (.fin [17, 18] 19)))) (by kernel_rfl) (by kernel_rfl) (by intro c a d u w h; cases d <;> exact h) (L4 _ (Below.refl _ _).drew) ?_
    simp only [wpWaysL, picks, List.getElem?_toArray, List.getElem?_cons_succ, List.getElem?_cons_zero]
    repeat (go_big_quiet_step (fail))
    refine wpQuiet_nil ?_
    refine wpOp_step (by simp only [List.getElem?_toArray, List.getElem?_cons_succ, List.getElem?_cons_zero]; rfl) (fun K hK => ?_)
    go_simp
    have hdr : Below w.heap.size w w.drew := (Below.refl _ _).drew
    refine (bclone_any b a cap w.drew (hbytes.out.reads.below hdr) hca (by omega)).mono ?_
    rintro e w1 ⟨v1, rfl, hown1, hB0⟩
    replace hB0 := hdr.trans hB0
    obtain ⟨a1, q1, rfl, hn1, hl1, hm1, hby1⟩ := BytesAt.of_own (B := B) hown1
    refine hK _ _ ⟨L4 _ hB0, ?_⟩
    clear hK K hown1 hdr
    have hby0 := Lib.hid hby1
    clear hby1
    repeat (go_big_quiet_step (fail))
    refine wpQuiet_nil ?_
    refine wpOp_step (by simp only [List.getElem?_toArray, List.getElem?_cons_succ, List.getElem?_cons_zero]; rfl) (fun K hK => ?_)
    go_simp
    have hBW : Below w1.heap.size w1 (w1.alloc (.cells #[.iface 88 (.agg #[.slice a1 b.length q1])] 112)) := (Below.refl _ _).alloc (Nat.le_refl _) _
    have hB1 : Below w.heap.size w (w1.alloc (.cells #[.iface 88 (.agg #[.slice a1 b.length q1])] 112)) := hB0.trans (hBW.mono hB0.size)
    refine hK _ _ ⟨L4 _ hB1, ?_⟩
    clear hK K z1 z2 z3 z4
    have hnew : ∀ j u, [Value.iface 88 (.agg #[.slice a1 b.length q1])][j]? = some u → (w1.alloc (.cells #[.iface 88 (.agg #[.slice a1 b.length q1])] 112)).cell? ((⟨w1.heap.size, 0, none⟩ : Addr).add j) = some u := cell_one_new _ _ _
    have hw1 : w.heap.size ≤ (w1.alloc (.cells #[.iface 88 (.agg #[.slice a1 b.length q1])] 112)).heap.size := hB1.size
    generalize hW : (w1.alloc (.cells #[.iface 88 (.agg #[.slice a1 b.length q1])] 112)) = W at *
    clear hW
    refine wpQuiet_nil ?_
    refine wpOp_of_list (by simp only [List.getElem?_toArray, List.getElem?_cons_succ, List.getElem?_cons_zero]; rfl) ?_
    have hrow1 := owns_same hrow.out (fun r hr => by obtain ⟨cur, hh, _⟩ := owns_block hrow.out hr; exact hB1.block r (heap_lt hh))
    refine wpList_append_own_at W rfl (.tmp 11) (.tmp 16) 63 rfl B 112 i112 .nilIface 1 16 Tryd.underlying63 hi112 hz112 hs112 hy112 rfl (by decide) l0 D.f0.loose.length xs rfl hrow1 ⟨w1.heap.size, 0, none⟩ 1 1 [Value.iface 88 (.agg #[.slice a1 b.length q1])] rfl rfl hnew (by simp [Value.oneCell']) (by unfold maxLen; omega) (by omega) (Nat.le_trans hB hw1) ?_
    intro l' w2 hown2 hgr2 _ hat
    obtain ⟨hb, h4, h5, h6⟩ := hparts.out
    have hli1 := Lies.new hB1 hB
    have hby1 := hby0.out
    have hp := DiskAt.push0 (hb.below hB1 hb.lt) hg (h4.grown hB hB1) (h5.grown hB hB1) h6 (hch.out.rest hli1) (show ChgAt B W (.wr b) _ from ⟨a1, q1, rfl, hn1, hl1, hm1, hby1.rest (Lies.new hBW (Nat.le_trans hB hB0.size))⟩) hgr2 hown2 hat
    have hne : ∀ (b : Nat) (cs : Array Value) (t : TypeId), W.heap[b]? = some (.cells cs t (0, 0)) → t ≠ 112 → w2.heap[b]? = W.heap[b]? := fun b cs t hh ht =>
      hgr2.block b (heap_lt hh) (fun e => by
        obtain ⟨cur, hk, _⟩ := owns_block hrow1 e.symm
        exact type_ne hh hk ht rfl)
    have hbW := hb.below hB1 hb.lt
    have hb2 : Blk w2 g _ _ := (hne g _ _ hbW (by decide)).trans hbW
    have hl2 := lies_row (h4.grown hB hB1) (Nat.le_trans hB hw1) hgr2
    refine wpList_end ⟨⟨⟨w2, ?_, ?_, ?_, ?_⟩, rfl⟩, ?_⟩
    · exact ((k1.out.lies hli1).lies hl2).cell
    · exact ((k2.out.lies hli1).lies hl2).cell
    · exact ((k3.out.lies hli1).lies hl2).cell
    · exact hb2.cell 1
    have hfr := hb2.free 1
    have hc2 : w2.cell? ⟨g, 1, none⟩ = some l0 := hb2.cell 1
    obtain ⟨la', lc', rfl⟩ : ∃ la lc, l' = .slice la (D.f0.loose.length + 1) lc := by
      rcases hown2.2 with ⟨_, h0⟩ | ⟨r, c, cur, rfl, _⟩
      · omega
      · exact ⟨_, _, rfl⟩
    have hp0 := Lib.hid hp
    have hl1' := Lib.hid hli1
    clear hb h4 h5 h6 hb2 hbW hne hl2 hown2 hgr2 hat hrow1 hp hB1 hnew hli1 hby1 hBW
    go_frame
    repeat (go_big_quiet_step (fail))
    refine wpQuiet_nil ?_
    refine wpOp_step (by simp only [List.getElem?_toArray, List.getElem?_cons_succ, List.getElem?_cons_zero]; rfl) (fun K hK => ?_)
    go_simp
    refine hK _ _ ?_
    clear hK K
    go_wp2_with (fail)
    go_end0
    exact ⟨rfl, hp0.out.1, hl1'.out.trans hp0.out.2⟩
  · rw [show (1 : Int).toNat = 1 from rfl, file1]
    have hl : w.cell? ⟨g, 3, none⟩ = some l1 := hb.cell 3
    have hparts := And.intro hb (And.intro h4 (And.intro h5 h6))
    obtain ⟨_, xs, hrow, hch⟩ := h5
    have hlen := Nat.le_trans hok.n1 hok.cnt
    replace hparts := Lib.hid hparts
    replace hrow := Lib.hid hrow
    replace hch := Lib.hid hch
    clear hb h4 h6 h1 h2 hf hok h3
    go_enter Tryd.func52, Tryd.ntmps52
    go_wp2_with (fail)
    have L4 : ∀ wx, Below w.heap.size w wx → ∃ z : Four ⟨bd, 0, none⟩ (.pointer (some ⟨g, 0, none⟩)) ⟨bf, 0, none⟩ (.int .i64 1) ⟨bn, 0, none⟩ (.slice a b.length cap) ⟨g, 3, none⟩ l1, wx = z.1 := fun wx hx =>
      ⟨⟨wx, (hx.cell (p := ⟨bd, 0, none⟩) d1).trans c1, (hx.cell (p := ⟨bf, 0, none⟩) d2).trans c2, (hx.cell (p := ⟨bn, 0, none⟩) d3).trans c3, (hx.cell (p := ⟨g, 3, none⟩) dg).trans hl⟩, rfl⟩
    haveI : Nonempty (Four ⟨bd, 0, none⟩ (.pointer (some ⟨g, 0, none⟩)) ⟨bf, 0, none⟩ (.int .i64 1) ⟨bn, 0, none⟩ (.slice a b.length cap) ⟨g, 3, none⟩ l1) := ⟨⟨w, c1, c2, c3, hl⟩⟩
    have z1 := fun z : Four ⟨bd, 0, none⟩ (.pointer (some ⟨g, 0, none⟩)) ⟨bf, 0, none⟩ (.int .i64 1) ⟨bn, 0, none⟩ (.slice a b.length cap) ⟨g, 3, none⟩ l1 => z.2.1
    have z2 := fun z : Four ⟨bd, 0, none⟩ (.pointer (some ⟨g, 0, none⟩)) ⟨bf, 0, none⟩ (.int .i64 1) ⟨bn, 0, none⟩ (.slice a b.length cap) ⟨g, 3, none⟩ l1 => z.2.2.1
    have z3 := fun z : Four ⟨bd, 0, none⟩ (.pointer (some ⟨g, 0, none⟩)) ⟨bf, 0, none⟩ (.int .i64 1) ⟨bn, 0, none⟩ (.slice a b.length cap) ⟨g, 3, none⟩ l1 => z.2.2.2.1
    have z4 := fun z : Four ⟨bd, 0, none⟩ (.pointer (some ⟨g, 0, none⟩)) ⟨bf, 0, none⟩ (.int .i64 1) ⟨bn, 0, none⟩ (.slice a b.length cap) ⟨g, 3, none⟩ l1 => z.2.2.2.2
    refine wp_region_waysL (S := fun w' => ∃ x : Four ⟨bd, 0, none⟩ (.pointer (some ⟨g, 0, none⟩)) ⟨bf, 0, none⟩ (.int .i64 1) ⟨bn, 0, none⟩ (.slice a b.length cap) ⟨g, 3, none⟩ l1, w' = x.1) 19 (.one [0, 1, 2, 3, 4, 5, 6, 7, 8, 9, 15, 16] 10 (.one [11, 12] 13 (.one [] 14 (.fin [17, 18] 19)))) (by kernel_rfl) (by kernel_rfl) (by intro c a d u w h; cases d <;> exact h) (L4 _ (Below.refl _ _).drew) ?_
    simp only [wpWaysL, picks, List.getElem?_toArray, List.getElem?_cons_succ, List.getElem?_cons_zero]
    repeat (go_big_quiet_step (fail))
    refine wpQuiet_nil ?_
    refine wpOp_step (by simp only [List.getElem?_toArray, List.getElem?_cons_succ, List.getElem?_cons_zero]; rfl) (fun K hK => ?_)
    go_simp
    have hdr : Below w.heap.size w w.drew := (Below.refl _ _).drew
    refine (bclone_any b a cap w.drew (hbytes.out.reads.below hdr) hca (by omega)).mono ?_
    rintro e w1 ⟨v1, rfl, hown1, hB0⟩
    replace hB0 := hdr.trans hB0
    obtain ⟨a1, q1, rfl, hn1, hl1, hm1, hby1⟩ := BytesAt.of_own (B := B) hown1
    refine hK _ _ ⟨L4 _ hB0, ?_⟩
    clear hK K hown1 hdr
    have hby0 := Lib.hid hby1
    clear hby1
    repeat (go_big_quiet_step (fail))
    refine wpQuiet_nil ?_
    refine wpOp_step (by simp only [List.getElem?_toArray, List.getElem?_cons_succ, List.getElem?_cons_zero]; rfl) (fun K hK => ?_)
    go_simp
    have hBW : Below w1.heap.size w1 (w1.alloc (.cells #[.iface 88 (.agg #[.slice a1 b.length q1])] 112)) := (Below.refl _ _).alloc (Nat.le_refl _) _
    have hB1 : Below w.heap.size w (w1.alloc (.cells #[.iface 88 (.agg #[.slice a1 b.length q1])] 112)) := hB0.trans (hBW.mono hB0.size)
    refine hK _ _ ⟨L4 _ hB1, ?_⟩
    clear hK K z1 z2 z3 z4
    have hnew : ∀ j u, [Value.iface 88 (.agg #[.slice a1 b.length q1])][j]? = some u → (w1.alloc (.cells #[.iface 88 (.agg #[.slice a1 b.length q1])] 112)).cell? ((⟨w1.heap.size, 0, none⟩ : Addr).add j) = some u := cell_one_new _ _ _
    have hw1 : w.heap.size ≤ (w1.alloc (.cells #[.iface 88 (.agg #[.slice a1 b.length q1])] 112)).heap.size := hB1.size
    generalize hW : (w1.alloc (.cells #[.iface 88 (.agg #[.slice a1 b.length q1])] 112)) = W at *
    clear hW
    refine wpQuiet_nil ?_
    refine wpOp_of_list (by simp only [List.getElem?_toArray, List.getElem?_cons_succ, List.getElem?_cons_zero]; rfl) ?_
    have hrow1 := owns_same hrow.out (fun r hr => by obtain ⟨cur, hh, _⟩ := owns_block hrow.out hr; exact hB1.block r (heap_lt hh))
    refine wpList_append_own_at W rfl (.tmp 11) (.tmp 16) 63 rfl B 112 i112 .nilIface 1 16 Tryd.underlying63 hi112 hz112 hs112 hy112 rfl (by decide) l1 D.f1.loose.length xs rfl hrow1 ⟨w1.heap.size, 0, none⟩ 1 1 [Value.iface 88 (.agg #[.slice a1 b.length q1])] rfl rfl hnew (by simp [Value.oneCell']) (by unfold maxLen; omega) (by omega) (Nat.le_trans hB hw1) ?_
    intro l' w2 hown2 hgr2 _ hat
    obtain ⟨hb, h4, h5, h6⟩ := hparts.out
    have hli1 := Lies.new hB1 hB
    have hby1 := hby0.out
    have hp := DiskAt.push1 (hb.below hB1 hb.lt) hg (h4.grown hB hB1) (h5.grown hB hB1) h6 (hch.out.rest hli1) (show ChgAt B W (.wr b) _ from ⟨a1, q1, rfl, hn1, hl1, hm1, hby1.rest (Lies.new hBW (Nat.le_trans hB hB0.size))⟩) hgr2 hown2 hat
    have hne : ∀ (b : Nat) (cs : Array Value) (t : TypeId), W.heap[b]? = some (.cells cs t (0, 0)) → t ≠ 112 → w2.heap[b]? = W.heap[b]? := fun b cs t hh ht =>
      hgr2.block b (heap_lt hh) (fun e => by
        obtain ⟨cur, hk, _⟩ := owns_block hrow1 e.symm
        exact type_ne hh hk ht rfl)
    have hbW := hb.below hB1 hb.lt
    have hb2 : Blk w2 g _ _ := (hne g _ _ hbW (by decide)).trans hbW
    have hl2 := lies_row (h5.grown hB hB1) (Nat.le_trans hB hw1) hgr2
    refine wpList_end ⟨⟨⟨w2, ?_, ?_, ?_, ?_⟩, rfl⟩, ?_⟩
    · exact ((k1.out.lies hli1).lies hl2).cell
    · exact ((k2.out.lies hli1).lies hl2).cell
    · exact ((k3.out.lies hli1).lies hl2).cell
    · exact hb2.cell 3
    have hfr := hb2.free 3
    have hc2 : w2.cell? ⟨g, 3, none⟩ = some l1 := hb2.cell 3
    obtain ⟨la', lc', rfl⟩ : ∃ la lc, l' = .slice la (D.f1.loose.length + 1) lc := by
      rcases hown2.2 with ⟨_, h0⟩ | ⟨r, c, cur, rfl, _⟩
      · omega
      · exact ⟨_, _, rfl⟩
    have hp0 := Lib.hid hp
    have hl1' := Lib.hid hli1
    clear hb h4 h5 h6 hb2 hbW hne hl2 hown2 hgr2 hat hrow1 hp hB1 hnew hli1 hby1 hBW
    go_frame
    repeat (go_big_quiet_step (fail))
    refine wpQuiet_nil ?_
    refine wpOp_step (by simp only [List.getElem?_toArray, List.getElem?_cons_succ, List.getElem?_cons_zero]; rfl) (fun K hK => ?_)
    go_simp
    refine hK _ _ ?_
    clear hK K
    go_wp2_with (fail)
    go_end0
    exact ⟨rfl, hp0.out.1, hl1'.out.trans hp0.out.2⟩
end Go.Proofs.YtiidohaibbdgeaaDoor
