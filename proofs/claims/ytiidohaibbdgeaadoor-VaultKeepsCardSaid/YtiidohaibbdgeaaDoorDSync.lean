/-
  Calls of a disk: Sync, Write, Cut, On.
-/
import Derived.Test.YtiidohaibbdgeaaDoorDGoes
namespace Go.Proofs.YtiidohaibbdgeaaDoor
open Go Go.RowKit

theorem DiskAt.settle0 {B u : Nat} {w w' : World} {g : Nat} {D : DiskM} {v0 l0 v1 l1 : Value}
    (h1 : Blk w g 68 #[v0, l0, v1, l1, .int .i64 D.most, .bool D.off, .bool D.fused, .int .i64 D.left]) (h2 : B ≤ g) (h4 : FileAt B w D.f1 v1 l1) {e : Ending}
    (h : SettleRet g 0 68 #[v0, l0, v1, l1, .int .i64 D.most, .bool D.off, .bool D.fused, .int .i64 D.left] (keptL D.f0.sure D.f0.loose u) w e w') :
    DiskAt B w' g { D with f0 := D.f0.settle u } ∧ Lies B w w' := by
  obtain ⟨v, _, hown, hb, hg⟩ := h
  have hB := Nat.le_trans h2 (Nat.le_of_lt h1.lt)
  have hl : Lies B w w' := Lies.turn hg h2 hB (fun cs t fr h => by
    unfold Blk at h1
    rw [h1] at h
    injection h with h
    injection h with _ h3
    subst h3
    decide)
  obtain ⟨a, cap, rfl, e1, e2, e3, e4⟩ := BytesAt.of_own (B := B) hown
  refine ⟨⟨_, _, v1, l1, hb, h2, ⟨⟨a, cap, rfl, e1, e2, e3, e4⟩, [], World.ownsRow_nil _ _ _ _, trivial⟩, h4.lies hl fun r hr => ?_, .inl rfl⟩, hl⟩
  obtain ⟨cur, hh, _⟩ := h4.row hr
  exact hg.block r (heap_lt hh) (fun e => by cases e; exact type_ne h1 hh (by decide) rfl)
theorem DiskAt.settle1 {B u : Nat} {w w' : World} {g : Nat} {D : DiskM} {v0 l0 v1 l1 : Value}
    (h1 : Blk w g 68 #[v0, l0, v1, l1, .int .i64 D.most, .bool D.off, .bool D.fused, .int .i64 D.left]) (h2 : B ≤ g) (h3 : FileAt B w D.f0 v0 l0) {e : Ending}
    (h : SettleRet g 2 68 #[v0, l0, v1, l1, .int .i64 D.most, .bool D.off, .bool D.fused, .int .i64 D.left] (keptL D.f1.sure D.f1.loose u) w e w') :
    DiskAt B w' g { D with f1 := D.f1.settle u } ∧ Lies B w w' := by
  obtain ⟨v, _, hown, hb, hg⟩ := h
  have hB := Nat.le_trans h2 (Nat.le_of_lt h1.lt)
  have hl : Lies B w w' := Lies.turn hg h2 hB (fun cs t fr h => by
    unfold Blk at h1
    rw [h1] at h
    injection h with h
    injection h with _ h3
    subst h3
    decide)
  obtain ⟨a, cap, rfl, e1, e2, e3, e4⟩ := BytesAt.of_own (B := B) hown
  have hf0 : FileAt B w' D.f0 v0 l0 := h3.lies hl fun r hr => by
    obtain ⟨cur, hh, _⟩ := h3.row hr
    exact hg.block r (heap_lt hh) (fun e => by cases e; exact type_ne h1 hh (by decide) rfl)
  refine ⟨⟨v0, l0, _, _, hb, h2, hf0, ⟨⟨a, cap, rfl, e1, e2, e3, e4⟩, [], World.ownsRow_nil _ _ _ _, trivial⟩, ?_⟩, hl⟩
  cases hr : l0.ownBlock with
  | none => exact .inl rfl
  | some r => right; intro e; cases e

theorem settle_ret {B cnt : Nat} {w : World} {g : Nat} {D : DiskM} (h : DiskAt B w g D) (hok : D.ok cnt) (u : Int) (hu : u ≤ 9223372036854775807) :
    (Calls Tryd.prog 48 #[.pointer (some ⟨g, 0, none⟩), .int .i64 u] w fun e w' => e = .returned (.tuple #[]) ∧ DiskAt B w' g { D with f0 := D.f0.settle u.toNat } ∧ Lies B w w') ∧
    (Calls Tryd.prog 48 #[.pointer (some ⟨g, 2, none⟩), .int .i64 u] w fun e w' => e = .returned (.tuple #[]) ∧ DiskAt B w' g { D with f1 := D.f1.settle u.toNat } ∧ Lies B w w') := by
  obtain ⟨v0, l0, v1, l1, hb, h2, h3, h4, h5⟩ := h
  constructor
  · refine (settle_any B D.f0 D.most hok.most2 hok.ok0 g 0 _ _ v0 l0 u hu (Nat.le_trans hok.n0 hok.cnt) w hb rfl rfl h3).mono fun e w' hr => ?_
    have := DiskAt.settle0 hb h2 h4 hr
    obtain ⟨v, he, _⟩ := hr
    exact ⟨he, this⟩
  · refine (settle_any B D.f1 D.most hok.most2 hok.ok1 g 2 _ _ v1 l1 u hu (Nat.le_trans hok.n1 hok.cnt) w hb rfl rfl h4).mono fun e w' hr => ?_
    have := DiskAt.settle1 hb h2 h3 hr
    obtain ⟨v, he, _⟩ := hr
    exact ⟨he, this⟩

set_option maxRecDepth 100000 in
set_option maxHeartbeats 1000000 in
/-- Sync's closure. -/
theorem syncdo_any (B cnt : Nat) (D : DiskM) (hok : D.ok cnt) (g : Nat) (f : Int) (hf : ¬ (f < 0 ∨ 2 ≤ f)) (bd bf : Nat) (w : World) (h : DiskAt B w g D)
    (h1 : Box w bd 25 (.pointer (some ⟨g, 0, none⟩))) (h2 : Box w bf 3 (.int .i64 f)) :
    Calls Tryd.prog 65 #[.pointer (some ⟨bd, 0, none⟩), .pointer (some ⟨bf, 0, none⟩)] w
      fun e w' => e = .returned (.tuple #[]) ∧ DiskAt B w' g (D.with f.toNat ((D.file f.toNat).settle 9223372036854775807)) ∧ Lies B w w' := by
  have hB := h.base
  have c1 := h1.cell
  have c2 := h2.cell
  have d1 := h1.1.lt
  have d2 := h2.1.lt
  have hst := settle_ret (h.grown (Below.refl w.heap.size w).drew) hok 9223372036854775807 (by omega)
  rcases two_files hf with rfl | rfl
  · rw [show (0 : Int).toNat = 0 from rfl, file0]
    replace hst := Lib.hid hst.1
    clear h h1 h2 hf hok
    go_enter Tryd.func65, Tryd.ntmps65
    go_wp2_with (fail)
    have z1 := fun z : Grew w.heap.size w => Grew.cell c1 d1 z
    have z2 := fun z : Grew w.heap.size w => Grew.cell c2 d2 z
    refine wp_region_waysL (S := fun w' => ∃ x : Grew w.heap.size w, w' = x.1) 5 (.fin [0, 1, 2, 3, 4] 5) (by kernel_rfl) (by kernel_rfl) (by intro c a d u w h; cases d <;> exact h) ⟨⟨w.drew, (Below.refl _ _).drew⟩, rfl⟩ ?_
    simp only [wpWaysL, picks, List.getElem?_toArray, List.getElem?_cons_succ, List.getElem?_cons_zero]
    repeat (go_big_quiet_step (fail))
    refine wpQuiet_nil ?_
    refine wpOp_step (by simp only [List.getElem?_toArray, List.getElem?_cons_succ, List.getElem?_cons_zero]; rfl) (fun K hK => ?_)
    go_simp
    refine hst.out.mono ?_
    rintro e w1 ⟨rfl, hD, hL⟩
    refine hK _ _ ?_
    clear hK K
    go_wp2_with (fail)
    go_end0
    exact ⟨rfl, hD, (Lies.refl B w).drew.trans hL⟩
  · rw [show (1 : Int).toNat = 1 from rfl, file1]
    replace hst := Lib.hid hst.2
    clear h h1 h2 hf hok
    go_enter Tryd.func65, Tryd.ntmps65
    go_wp2_with (fail)
    have z1 := fun z : Grew w.heap.size w => Grew.cell c1 d1 z
    have z2 := fun z : Grew w.heap.size w => Grew.cell c2 d2 z
    refine wp_region_waysL (S := fun w' => ∃ x : Grew w.heap.size w, w' = x.1) 5 (.fin [0, 1, 2, 3, 4] 5) (by kernel_rfl) (by kernel_rfl) (by intro c a d u w h; cases d <;> exact h) ⟨⟨w.drew, (Below.refl _ _).drew⟩, rfl⟩ ?_
    simp only [wpWaysL, picks, List.getElem?_toArray, List.getElem?_cons_succ, List.getElem?_cons_zero]
    repeat (go_big_quiet_step (fail))
    refine wpQuiet_nil ?_
    refine wpOp_step (by simp only [List.getElem?_toArray, List.getElem?_cons_succ, List.getElem?_cons_zero]; rfl) (fun K hK => ?_)
    go_simp
    refine hst.out.mono ?_
    rintro e w1 ⟨rfl, hD, hL⟩
    refine hK _ _ ?_
    clear hK K
    go_wp2_with (fail)
    go_end0
    exact ⟨rfl, hD, (Lies.refl B w).drew.trans hL⟩

theorem DiskM.ok.left {D : DiskM} {cnt : Nat} (h : D.ok cnt) : DiskM.ok { D with left := RowKit.wrap64 (D.left - 1) } cnt :=
  ⟨h.most1, h.most2, h.ok0, h.ok1, h.n0, h.n1, h.cnt, by simp only [RowKit.wrap64]; omega, by simp only [RowKit.wrap64]; omega⟩
theorem may_cases (D : DiskM) (f : Int) : (D.may f ≠ 0) ∨ (D.may f = 0 ∧ ¬ (f < 0 ∨ 2 ≤ f)) := by
  unfold DiskM.may
  cases D.off with
  | true => left; simp
  | false =>
    by_cases h : f < 0 ∨ 2 ≤ f
    · left; simp [h]
    · right; simp [h]

set_option maxRecDepth 100000 in
set_option maxHeartbeats 1000000 in
theorem sync_any (B cnt : Nat) (D : DiskM) (hok : D.ok cnt) (g : Nat) (f : Int) (w : World) (h : DiskAt B w g D) :
    Calls Tryd.prog 33 #[.pointer (some ⟨g, 0, none⟩), .int .i64 f] w (DiskRet B g (D.sync f) w) := by
  have hB := h.base
  have hb1 : Below w.heap.size w (w.alloc (.cells #[.pointer (some ⟨g, 0, none⟩)] 25)) := (Below.refl _ _).alloc (Nat.le_refl _) _
  have hb2 : Below w.heap.size w ((w.alloc (.cells #[.pointer (some ⟨g, 0, none⟩)] 25)).alloc (.cells #[.int .i64 f] 3)) := hb1.alloc hb1.size _
  have x1 : Box ((w.alloc (.cells #[.pointer (some ⟨g, 0, none⟩)] 25)).alloc (.cells #[.int .i64 f] 3)) w.heap.size 25 (.pointer (some ⟨g, 0, none⟩)) := ⟨(Blk.new _ _ _).alloc _, by decide⟩
  have x2 : Box ((w.alloc (.cells #[.pointer (some ⟨g, 0, none⟩)] 25)).alloc (.cells #[.int .i64 f] 3)) (w.heap.size + 1) 3 (.int .i64 f) := ⟨by have := Blk.new (w.alloc (.cells #[.pointer (some ⟨g, 0, none⟩)] 25)) 3 #[.int .i64 f]; simpa using this, by decide⟩
  have hD2 := h.grown hb2
  have hm := may_any B D g f _ hD2
  have hL2 := Lies.new hb2 hB
  rcases may_cases D f with hk | ⟨hk, hf⟩
  · rw [show D.sync f = (D, D.may f) by simp [DiskM.sync, hk]]
    have hk' : (D.may f == 0) = false := by rw [beq_eq_false_iff_ne]; exact hk
    have hD0 := Lib.hid hD2
    have hL0 := Lib.hid hL2
    replace hm := Lib.hid hm
    clear h hb1 hb2 x1 x2 hD2 hL2 hk
    go_enter Tryd.func33, Tryd.ntmps33
    go_wp2_with (go_at_call 47; refine hm.out.mono ?_; rintro e w1 ⟨rfl, rfl⟩)
    go_ret
    exact ⟨rfl, hD0.out, hL0.out⟩
  · rw [show D.sync f = D.goes fun D => D.with f.toNat ((D.file f.toNat).settle 9223372036854775807) by simp [DiskM.sync, hk]]
    rw [hk] at hm
    have hgo := goes_any B D (fun D => D.with f.toNat ((D.file f.toNat).settle 9223372036854775807)) g 65 #[.pointer (some ⟨w.heap.size, 0, none⟩), .pointer (some ⟨w.heap.size + 1, 0, none⟩)] (fun w => by kernel_rfl) _ hD2
      (fun w1 hD1 hL1 => syncdo_any B cnt _ hok.left g f hf _ _ w1 hD1 (x1.lies hL1) (x2.lies hL1))
    have hL0 := Lib.hid hL2
    replace hm := Lib.hid hm
    replace hgo := Lib.hid hgo
    clear h hb1 hb2 x1 x2 hD2 hL2 hk hok hf
    go_enter Tryd.func33, Tryd.ntmps33
    go_wp2_with (first
      | (go_at_call 47; refine hm.out.mono ?_; rintro e w1 ⟨rfl, rfl⟩)
      | (go_at_call 50; refine hgo.out.mono ?_; rintro e w2 ⟨rfl, hD3, hL3⟩))
    go_ret
    exact ⟨rfl, hD3, hL0.out.trans hL3⟩

set_option maxRecDepth 100000 in
set_option maxHeartbeats 1000000 in
theorem write_any (B cnt : Nat) (D : DiskM) (hok : D.ok cnt) (g : Nat) (f : Int) (b : Bs) (a : Option Addr) (cap : Nat) (hca : a = none → cap = 0) (hbl : b.length ≤ 70368744177664) (w : World) (h : DiskAt B w g D) (hby : BytesAt B w a b) :
    Calls Tryd.prog 22 #[.pointer (some ⟨g, 0, none⟩), .int .i64 f, .slice a b.length cap] w (DiskRet B g (D.write f b) w) := by
  have hB := h.base
  obtain ⟨W, hW⟩ : ∃ W, W = ((w.alloc (.cells #[.pointer (some ⟨g, 0, none⟩)] 25)).alloc (.cells #[.int .i64 f] 3)).alloc (.cells #[.slice a b.length cap] 35) := ⟨_, rfl⟩
  have hb3 : Below w.heap.size w W := by rw [hW]; exact (((Below.refl _ _).alloc (Nat.le_refl _) _).alloc (by simp) _).alloc (by simp; omega) _
  have x1 : Box W w.heap.size 25 (.pointer (some ⟨g, 0, none⟩)) := ⟨by rw [hW]; exact ((Blk.new _ _ _).alloc _).alloc _, by decide⟩
  have x2 : Box W (w.heap.size + 1) 3 (.int .i64 f) := ⟨by rw [hW]; have := (Blk.new (w.alloc (.cells #[.pointer (some ⟨g, 0, none⟩)] 25)) 3 #[.int .i64 f]).alloc (.cells #[.slice a b.length cap] 35); simpa using this, by decide⟩
  have x3 : Box W (w.heap.size + 2) 35 (.slice a b.length cap) := ⟨by rw [hW]; have := Blk.new ((w.alloc (.cells #[.pointer (some ⟨g, 0, none⟩)] 25)).alloc (.cells #[.int .i64 f] 3)) 35 #[.slice a b.length cap]; simpa using this, by decide⟩
  have hD3 := h.grown hb3
  have hm := may_any B D g f _ hD3
  have hL3 := Lies.new hb3 hB
  have hby3 := hby.rest hL3
  rcases may_cases D f with hk | ⟨hk, hf⟩
  · rw [show D.write f b = (D, D.may f) by simp [DiskM.write, hk]]
    have hk' : (D.may f == 0) = false := by rw [beq_eq_false_iff_ne]; exact hk
    have hD0 := Lib.hid hD3
    have hL0 := Lib.hid hL3
    replace hm := Lib.hid hm
    replace hW := Lib.hid hW
    have y1 := x1.cell
    have y2 := x2.cell
    clear h hb3 x1 x2 x3 hD3 hL3 hk hby hby3 hok hca
    go_enter Tryd.func22, Tryd.ntmps22
    go_upto_region 1 with (fail)
    rw [← hW.out]
    go_wp2_with (go_at_call 47; refine hm.out.mono ?_; rintro e w1 ⟨rfl, rfl⟩)
    go_ret
    exact ⟨rfl, hD0.out, hL0.out⟩
  · have hro := fun (z : Grew W.heap.size W) => room_any B cnt D hok g z.1 (hD3.grown z.2)
    rw [hk] at hm
    have y1 := x1.cell
    have y2 := x2.cell
    have y3 := x3.cell
    have d1 := x1.1.lt
    have d3 := x3.1.lt
    replace hm := Lib.hid hm
    replace hro := Lib.hid hro
    have hL0 := Lib.hid hL3
    have hD0 := Lib.hid hD3
    replace hW := Lib.hid hW
    have z1 := fun z : Grew W.heap.size W => Grew.cell y1 d1 z
    have z3 := fun z : Grew W.heap.size W => Grew.cell y3 d3 z
    by_cases hr : D.room < b.length
    · rw [show D.write f b = (D, 7) by simp [DiskM.write, hk, hr]]
      have hr' : (D.room : Int) < (b.length : Int) := by omega
      clear h hb3 x1 x2 x3 hD3 hL3 hk hby hby3 hok hca hr
      go_enter Tryd.func22, Tryd.ntmps22
      go_upto_region 1 with (fail)
      rw [← hW.out]
      go_wp2_with (go_at_call 47; refine hm.out.mono ?_; rintro e w1 ⟨rfl, rfl⟩)
      refine wp_grow W.heap.size (by kernel_rfl) (by kernel_rfl) ?_
      repeat (go_big_quiet_step ((go_at_call 18; exact Grew.of_calls (hro.out _) (Nat.le_refl _))))
      refine wpQuiet_nil ?_
      rintro _ ⟨z, rfl⟩
      go_wp2
      go_ret
      exact ⟨rfl, hD0.out.grown z.2, hL0.out.trans (Lies.new z.2 (Nat.le_trans hB hL0.out.size))⟩
    · rw [show D.write f b = D.goes fun D => D.with f.toNat ((D.file f.toNat).put (.wr b)) by simp [DiskM.write, hk, hr]]
      have hr' : decide (D.room < b.length) = false := decide_eq_false hr
      have hgo := fun (z : Grew W.heap.size W) => goes_any B D (fun D => D.with f.toNat ((D.file f.toNat).put (.wr b))) g 52 #[.pointer (some ⟨w.heap.size, 0, none⟩), .pointer (some ⟨w.heap.size + 1, 0, none⟩), .pointer (some ⟨w.heap.size + 2, 0, none⟩)] (fun w => by kernel_rfl) z.1 (hD3.grown z.2)
        (fun w1 hD1 hL1 => by
          have hLz := Lies.new z.2 (Nat.le_trans hB hL3.size)
          exact writedo_any B cnt _ hok.left g f hf b a cap hca hbl _ _ _ w1 hD1 ((x1.lies hLz).lies hL1) ((x2.lies hLz).lies hL1) ((x3.lies hLz).lies hL1) ((hby3.rest hLz).rest hL1))
      replace hgo := Lib.hid hgo
      clear h hb3 x1 x2 x3 hD3 hL3 hk hby hby3 hok hca hr hf
      go_enter Tryd.func22, Tryd.ntmps22
      go_upto_region 1 with (fail)
      rw [← hW.out]
      go_wp2_with (go_at_call 47; refine hm.out.mono ?_; rintro e w1 ⟨rfl, rfl⟩)
      refine wp_grow W.heap.size (by kernel_rfl) (by kernel_rfl) ?_
      repeat (go_big_quiet_step ((go_at_call 18; exact Grew.of_calls (hro.out _) (Nat.le_refl _))))
      refine wpQuiet_nil ?_
      rintro _ ⟨z, rfl⟩
      go_wp2_with (go_at_call 50; refine (hgo.out z).mono ?_; rintro e w2 ⟨rfl, hD4, hL4⟩)
      go_ret
      exact ⟨rfl, hD4, (hL0.out.trans (Lies.new z.2 (Nat.le_trans hB hL0.out.size))).trans hL4⟩

set_option maxRecDepth 100000 in
set_option maxHeartbeats 1000000 in
theorem cut_any (B cnt : Nat) (D : DiskM) (hok : D.ok cnt) (g : Nat) (f n : Int) (hn : n ≤ 9223372036854775807) (w : World) (h : DiskAt B w g D) :
    Calls Tryd.prog 21 #[.pointer (some ⟨g, 0, none⟩), .int .i64 f, .int .i64 n] w (DiskRet B g (D.cut f n) w) := by
  have hB := h.base
  obtain ⟨W, hW⟩ : ∃ W, W = ((w.alloc (.cells #[.pointer (some ⟨g, 0, none⟩)] 25)).alloc (.cells #[.int .i64 f] 3)).alloc (.cells #[.int .i64 n] 3) := ⟨_, rfl⟩
  have hb3 : Below w.heap.size w W := by rw [hW]; exact (((Below.refl _ _).alloc (Nat.le_refl _) _).alloc (by simp) _).alloc (by simp; omega) _
  have x1 : Box W w.heap.size 25 (.pointer (some ⟨g, 0, none⟩)) := ⟨by rw [hW]; exact ((Blk.new _ _ _).alloc _).alloc _, by decide⟩
  have x2 : Box W (w.heap.size + 1) 3 (.int .i64 f) := ⟨by rw [hW]; have := (Blk.new (w.alloc (.cells #[.pointer (some ⟨g, 0, none⟩)] 25)) 3 #[.int .i64 f]).alloc (.cells #[.int .i64 n] 3); simpa using this, by decide⟩
  have x3 : Box W (w.heap.size + 2) 3 (.int .i64 n) := ⟨by rw [hW]; have := Blk.new ((w.alloc (.cells #[.pointer (some ⟨g, 0, none⟩)] 25)).alloc (.cells #[.int .i64 f] 3)) 3 #[.int .i64 n]; simpa using this, by decide⟩
  have hD3 := h.grown hb3
  have hm := may_any B D g f _ hD3
  have hL3 := Lies.new hb3 hB
  have y1 := x1.cell
  have y2 := x2.cell
  have y3 := x3.cell
  replace hW := Lib.hid hW
  rcases may_cases D f with hk | ⟨hk, hf⟩
  · rw [show D.cut f n = (D, D.may f) by simp [DiskM.cut, hk]]
    have hk' : (D.may f == 0) = false := by rw [beq_eq_false_iff_ne]; exact hk
    have hD0 := Lib.hid hD3
    have hL0 := Lib.hid hL3
    replace hm := Lib.hid hm
    clear h hb3 x1 x2 x3 hD3 hL3 hk hok y3
    go_enter Tryd.func21, Tryd.ntmps21
    go_upto_region 1 with (fail)
    rw [← hW.out]
    go_wp2_with (go_at_call 47; refine hm.out.mono ?_; rintro e w1 ⟨rfl, rfl⟩)
    go_ret
    exact ⟨rfl, hD0.out, hL0.out⟩
  · rw [hk] at hm
    have d1 := x1.1.lt
    have d2 := x2.1.lt
    have d3 := x3.1.lt
    replace hm := Lib.hid hm
    have hL0 := Lib.hid hL3
    have hD0 := Lib.hid hD3
    have z1 := fun z : Grew W.heap.size W => Grew.cell y1 d1 z
    have z2 := fun z : Grew W.heap.size W => Grew.cell y2 d2 z
    have z3 := fun z : Grew W.heap.size W => Grew.cell y3 d3 z
    have hlen : (D.file f.toNat).stands.length ≤ 4194304 := by
      have k0 := okL_all hok.ok0
      have k1 := okL_all hok.ok1
      have k2 := hok.most2
      change D.f0.stands.length ≤ _ at k0
      change D.f1.stands.length ≤ _ at k1
      rcases two_files hf with rfl | rfl
      · rw [show (0 : Int).toNat = 0 from rfl, file0]; omega
      · rw [show (1 : Int).toNat = 1 from rfl, file1]; omega
    by_cases hn0 : n < 0
    · rw [show D.cut f n = (D, 1) by simp [DiskM.cut, hk, hn0]]
      clear h hb3 x1 x2 x3 hD3 hL3 hk hok hf hlen
      go_enter Tryd.func21, Tryd.ntmps21
      go_upto_region 1 with (fail)
      rw [← hW.out]
      go_wp2_with (go_at_call 47; refine hm.out.mono ?_; rintro e w1 ⟨rfl, rfl⟩)
      refine wp_grow W.heap.size (by kernel_rfl) (by kernel_rfl) ?_
      repeat (go_big_quiet_step (fail))
      refine wpQuiet_nil ?_
      rintro _ ⟨z, rfl⟩
      go_wp2
      go_ret
      exact ⟨rfl, hD0.out.grown z.2, hL0.out.trans (Lies.new z.2 (Nat.le_trans hB hL0.out.size))⟩
    · obtain ⟨m, rfl⟩ : ∃ m : Nat, n = m := ⟨n.toNat, by omega⟩
      have hn0' : decide ((m : Int) < 0) = false := decide_eq_false hn0
      have hn1 : m ≤ 9223372036854775807 := by omega
      have hgo := fun (w0 : World) (h0 : Below W.heap.size W w0) => goes_any B D (fun D => D.with f.toNat ((D.file f.toNat).put (.cut m))) g 51 #[.pointer (some ⟨w.heap.size, 0, none⟩), .pointer (some ⟨w.heap.size + 1, 0, none⟩), .pointer (some ⟨w.heap.size + 2, 0, none⟩)] (fun w => by kernel_rfl) w0 (hD3.grown h0)
        (fun w1 hD1 hL1 => by
          have hLz := Lies.new h0 (Nat.le_trans hB hL3.size)
          exact cutdo_any B cnt _ hok.left g f hf m hn1 _ _ _ w1 hD1 ((x1.lies hLz).lies hL1) ((x2.lies hLz).lies hL1) ((x3.lies hLz).lies hL1))
      have hc : (D.cut f m = (D, 1) ∧ (D.file f.toNat).stands.length < m) ∨ (D.cut f m = D.goes (fun D => D.with f.toNat ((D.file f.toNat).put (.cut m))) ∧ ¬ (D.file f.toNat).stands.length < m) := by
        have hm0 : ¬ ((m : Int) < 0) := by omega
        by_cases hx : (D.file f.toNat).stands.length < m
        · exact .inl ⟨by simp [DiskM.cut, hk, hx, hm0], hx⟩
        · exact .inr ⟨by simp [DiskM.cut, hk, hx, hm0], hx⟩
      have hst : ∀ w0, Below W.heap.size W w0 → Calls Tryd.prog 49 #[.pointer (some ⟨g, 2 * f.toNat, none⟩)] w0 (OwnRet (D.file f.toNat).stands w0) := fun w0 h0 => by
        rcases two_files hf with rfl | rfl
        · exact stands0 (hD3.grown h0) hok
        · exact stands1 (hD3.grown h0) hok
      generalize hS : (D.file f.toNat).stands = S at *
      replace hgo := Lib.hid hgo
      replace hst := Lib.hid hst
      clear hS h hb3 x1 x2 x3 hD3 hL3 hk hok hn0
      rcases hc with ⟨hc, hx⟩ | ⟨hc, hx⟩
      · rw [hc]
        clear hc
        have hfz := two_files hf
        clear hf
        rcases hfz with rfl | rfl
        all_goals
          go_enter Tryd.func21, Tryd.ntmps21
          go_upto_region 1 with (fail)
          rw [← hW.out]
          go_wp2_with (go_at_call 47; refine hm.out.mono ?_; rintro e w1 ⟨rfl, rfl⟩)
          refine wp_region_ways (S := fun w' => ∃ x : Grew W.heap.size W, w' = x.1) (.one [0, 1, 2, 3, 4, 5, 6, 7, 8] 9 (.last [10, 11, 12])) (by kernel_rfl) (by kernel_rfl) (by intro c a d u w h; cases d <;> exact h) ⟨⟨W.drew, (Below.refl _ _).drew⟩, rfl⟩ ?_
          simp only [wpWays, picks, List.getElem?_toArray, List.getElem?_cons_succ, List.getElem?_cons_zero]
          repeat (go_big_quiet_step (fail))
          refine wpQuiet_nil ?_
          refine wpOp_step (by simp only [List.getElem?_toArray, List.getElem?_cons_succ, List.getElem?_cons_zero]; rfl) (fun K hK => ?_)
          go_simp
          refine (hst.out W.drew (Below.refl _ _).drew).mono ?_
          rintro e w1 ⟨v1, rfl, hown1, hB1⟩
          obtain ⟨a1, q1, rfl, _, _, _, _⟩ := BytesAt.of_own (B := B) hown1
          have hB1' := ((Below.refl W.heap.size W).drew).trans hB1
          refine hK _ _ ⟨⟨⟨w1, hB1'⟩, rfl⟩, ?_⟩
          clear hK K hown1 hB1
          repeat (go_big_quiet_step (fail))
          refine wpQuiet_nil ?_
          go_wp2_with (fail)
          go_ret
          exact ⟨rfl, hD0.out.grown hB1', hL0.out.trans (Lies.new hB1' (Nat.le_trans hB hL0.out.size))⟩
      · rw [hc]
        clear hc
        have hx' : decide (S.length < m) = false := decide_eq_false hx
        clear hx
        have hfz := two_files hf
        clear hf
        rcases hfz with rfl | rfl
        all_goals
          go_enter Tryd.func21, Tryd.ntmps21
          go_upto_region 1 with (fail)
          rw [← hW.out]
          go_wp2_with (go_at_call 47; refine hm.out.mono ?_; rintro e w1 ⟨rfl, rfl⟩)
          refine wp_region_ways (S := fun w' => ∃ x : Grew W.heap.size W, w' = x.1) (.one [0, 1, 2, 3, 4, 5, 6, 7, 8] 9 (.last [10, 11, 12])) (by kernel_rfl) (by kernel_rfl) (by intro c a d u w h; cases d <;> exact h) ⟨⟨W.drew, (Below.refl _ _).drew⟩, rfl⟩ ?_
          simp only [wpWays, picks, List.getElem?_toArray, List.getElem?_cons_succ, List.getElem?_cons_zero]
          repeat (go_big_quiet_step (fail))
          refine wpQuiet_nil ?_
          refine wpOp_step (by simp only [List.getElem?_toArray, List.getElem?_cons_succ, List.getElem?_cons_zero]; rfl) (fun K hK => ?_)
          go_simp
          refine (hst.out W.drew (Below.refl _ _).drew).mono ?_
          rintro e w1 ⟨v1, rfl, hown1, hB1⟩
          obtain ⟨a1, q1, rfl, _, _, _, _⟩ := BytesAt.of_own (B := B) hown1
          have hB1' := ((Below.refl W.heap.size W).drew).trans hB1
          have y1' := (hB1'.cell (p := ⟨w.heap.size, 0, none⟩) d1).trans y1
          refine hK _ _ ⟨⟨⟨w1, hB1'⟩, rfl⟩, ?_⟩
          clear hK K hown1 hB1
          repeat (go_big_quiet_step (fail))
          refine wpQuiet_nil ?_
          go_wp2_with (go_at_call 50; refine (hgo.out w1 hB1').mono ?_; rintro e w2 ⟨rfl, hD4, hL4⟩)
          go_ret
          exact ⟨rfl, hD4, (hL0.out.trans (Lies.new hB1' (Nat.le_trans hB hL0.out.size))).trans hL4⟩
end Go.Proofs.YtiidohaibbdgeaaDoor
