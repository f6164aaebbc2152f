/-
  Calls of a disk that read, or turn a plain cell: may, Read, Room, Off, Fuse, New.
-/
import Derived.Test.YtiidohaibbdgeaaDoorDDisk
namespace Go.Proofs.YtiidohaibbdgeaaDoor
open Go Go.RowKit

theorem may_off {D : DiskM} {f : Int} (h : D.off = true) : D.may f = 8 := by simp [DiskM.may, h]
theorem may_arg {D : DiskM} {f : Int} (h : D.off = false) (hf : f < 0 ∨ 2 ≤ f) : D.may f = 1 := by simp [DiskM.may, h, hf]
theorem may_ok {D : DiskM} {f : Int} (h : D.off = false) (hf : ¬ (f < 0 ∨ 2 ≤ f)) : D.may f = 0 := by simp [DiskM.may, h, hf]

set_option maxRecDepth 100000 in
set_option maxHeartbeats 1000000 in
theorem may_any (B : Nat) (D : DiskM) (g : Nat) (f : Int) (w : World) (h : DiskAt B w g D) :
    Calls Tryd.prog 47 #[.pointer (some ⟨g, 0, none⟩), .int .i64 f] w fun e w' => e = .returned (.int .i64 (D.may f)) ∧ w = w' := by
  obtain ⟨v0, l0, v1, l1, hb, _⟩ := h
  have hc : w.cell? ⟨g, 5, none⟩ = some (.bool D.off) := hb.cell 5
  clear hb
  cases ho : D.off with
  | true =>
    rw [ho] at hc
    rw [may_off ho]
    clear ho
    go_enter Tryd.func47, Tryd.ntmps47
    go_wp2
    go_ret
    exact ⟨rfl, rfl⟩
  | false =>
    rw [ho] at hc
    by_cases h1 : f < 0
    · rw [may_arg ho (.inl h1)]
      clear ho
      go_enter Tryd.func47, Tryd.ntmps47
      go_wp2
      go_ret
      exact ⟨rfl, rfl⟩
    · by_cases h2 : 2 ≤ f
      · rw [may_arg ho (.inr h2)]
        clear ho
        go_enter Tryd.func47, Tryd.ntmps47
        go_wp2
        go_ret
        exact ⟨rfl, rfl⟩
      · rw [may_ok ho (by omega)]
        clear ho
        go_enter Tryd.func47, Tryd.ntmps47
        go_wp2
        go_ret
        exact ⟨rfl, rfl⟩

/-- A disk turns. -/
def DiskRet (B g : Nat) (r : DiskM × Int) (w : World) (e : Ending) (w' : World) : Prop := e = .returned (.int .i64 r.2) ∧ DiskAt B w' g r.1 ∧ Lies B w w'

set_option maxRecDepth 100000 in
set_option maxHeartbeats 1000000 in
theorem off_any (B : Nat) (D : DiskM) (g : Nat) (w : World) (h : DiskAt B w g D) :
    Calls Tryd.prog 14 #[.pointer (some ⟨g, 0, none⟩)] w (DiskRet B g D.down w) := by
  have hm := may_any B D g 0 w h
  have h0 := Lib.hid h
  obtain ⟨v0, l0, v1, l1, hb, h2, h3, h4, h5⟩ := h
  have hc : w.cell? ⟨g, 5, none⟩ = some (.bool D.off) := hb.cell 5
  have hf := hb.free 5
  have hp := fun (D' : DiskM) (i : Nat) (u : Value) => DiskAt.plain (D' := D') (i := i) (u := u) hb h2 h3 h4 h5
  replace hp := Lib.hid hp
  clear hb h3 h4 h5
  cases ho : D.off with
  | true =>
    rw [may_off ho] at hm
    rw [show D.down = (D, 8) by simp [DiskM.down, ho]]
    clear ho hc
    replace hm := Lib.hid hm
    go_enter Tryd.func14, Tryd.ntmps14
    go_wp2_with (go_at_call 47; refine hm.out.mono ?_; rintro e w1 ⟨rfl, rfl⟩)
    go_ret
    exact ⟨rfl, h0.out, Lies.refl _ _⟩
  | false =>
    rw [may_ok ho (by omega)] at hm
    have he := hp.out { D with off := true } 5 (.bool true) rfl rfl rfl
    rw [show D.down = ({ D with off := true }, 0) by simp [DiskM.down, ho]]
    clear ho
    replace hm := Lib.hid hm
    replace he := Lib.hid he
    go_enter Tryd.func14, Tryd.ntmps14
    go_wp2_with (go_at_call 47; refine hm.out.mono ?_; rintro e w1 ⟨rfl, rfl⟩)
    go_ret
    exact ⟨rfl, he.out.1, he.out.2⟩

theorem DiskAt.plain2 {B : Nat} {w : World} {g : Nat} {D D' : DiskM} {v0 l0 v1 l1 u u' : Value} {i j : Nat}
    (h1 : Blk w g 68 #[v0, l0, v1, l1, .int .i64 D.most, .bool D.off, .bool D.fused, .int .i64 D.left]) (h2 : B ≤ g) (h3 : FileAt B w D.f0 v0 l0) (h4 : FileAt B w D.f1 v1 l1) (h5 : l0.ownBlock = none ∨ l0.ownBlock ≠ l1.ownBlock)
    (e0 : D'.f0 = D.f0) (e1 : D'.f1 = D.f1) (ec : (#[v0, l0, v1, l1, .int .i64 D.most, .bool D.off, .bool D.fused, .int .i64 D.left].setIfInBounds i u).setIfInBounds j u' = #[v0, l0, v1, l1, .int .i64 D'.most, .bool D'.off, .bool D'.fused, .int .i64 D'.left]) :
    DiskAt B ((w.setCell ⟨g, i, none⟩ u).setCell ⟨g, j, none⟩ u') g D' ∧ Lies B w ((w.setCell ⟨g, i, none⟩ u).setCell ⟨g, j, none⟩ u') :=
  ⟨⟨v0, l0, v1, l1, by rw [← ec]; exact (h1.set i u).set j u', h2, by rw [e0]; exact (h3.cell h1 h2 i u).cell (h1.set i u) h2 j u', by rw [e1]; exact (h4.cell h1 h2 i u).cell (h1.set i u) h2 j u', h5⟩, (lies_disk h1 h2 i u).trans (lies_disk (h1.set i u) h2 j u')⟩

set_option maxRecDepth 100000 in
set_option maxHeartbeats 1000000 in
theorem fuse_any (B : Nat) (D : DiskM) (g : Nat) (n : Int) (w : World) (h : DiskAt B w g D) :
    Calls Tryd.prog 16 #[.pointer (some ⟨g, 0, none⟩), .int .i64 n] w (DiskRet B g (D.fuse n) w) := by
  have hm := may_any B D g 0 w h
  have h0 := Lib.hid h
  obtain ⟨v0, l0, v1, l1, hb, h2, h3, h4, h5⟩ := h
  have hc6 : w.cell? ⟨g, 6, none⟩ = some (.bool D.fused) := hb.cell 6
  have hc7 : w.cell? ⟨g, 7, none⟩ = some (.int .i64 D.left) := hb.cell 7
  have hf6 := hb.free 6
  have hf7 := hb.free 7
  have hp := fun (D' : DiskM) (i j : Nat) (u u' : Value) => DiskAt.plain2 (D' := D') (i := i) (j := j) (u := u) (u' := u') hb h2 h3 h4 h5
  replace hp := Lib.hid hp
  clear hb h3 h4 h5
  cases ho : D.off with
  | true =>
    rw [may_off ho] at hm
    rw [show D.fuse n = (D, 8) by simp [DiskM.fuse, ho]]
    clear ho
    replace hm := Lib.hid hm
    go_enter Tryd.func16, Tryd.ntmps16
    go_wp2_with (go_at_call 47; refine hm.out.mono ?_; rintro e w1 ⟨rfl, rfl⟩)
    go_ret
    exact ⟨rfl, h0.out, Lies.refl _ _⟩
  | false =>
    rw [may_ok ho (by omega)] at hm
    have he := hp.out { D with fused := decide (0 ≤ n), left := n } 6 7 (.bool (decide (0 ≤ n))) (.int .i64 n) rfl rfl rfl
    rw [show D.fuse n = ({ D with fused := decide (0 ≤ n), left := n }, 0) by simp [DiskM.fuse, ho]]
    clear ho
    replace hm := Lib.hid hm
    replace he := Lib.hid he
    go_enter Tryd.func16, Tryd.ntmps16
    go_wp2_with (go_at_call 47; refine hm.out.mono ?_; rintro e w1 ⟨rfl, rfl⟩)
    go_ret
    exact ⟨rfl, he.out.1, he.out.2⟩

/-- A text of the call's own, and an error. -/
def ReadRet (xs : Bs) (n : Int) (w : World) (e : Ending) (w' : World) : Prop := ∃ v, e = .returned (.tuple #[v, .int .i64 n]) ∧ OwnBytes w' w.heap.size v xs ∧ Below w.heap.size w w'

theorem file0 (D : DiskM) : D.file 0 = D.f0 := rfl
theorem file1 (D : DiskM) : D.file 1 = D.f1 := rfl
theorem stands0 {B cnt : Nat} {w : World} {g : Nat} {D : DiskM} (h : DiskAt B w g D) (hok : D.ok cnt) : Calls Tryd.prog 49 #[.pointer (some ⟨g, 0, none⟩)] w (OwnRet D.f0.stands w) := by
  obtain ⟨v0, l0, v1, l1, hb, h2, h3, h4, h5⟩ := h
  exact stands_any B D.f0 D.most hok.most2 hok.ok0 g 0 v0 l0 (Nat.le_trans hok.n0 hok.cnt) w (hb.cell 0) (hb.cell 1) h3
theorem stands1 {B cnt : Nat} {w : World} {g : Nat} {D : DiskM} (h : DiskAt B w g D) (hok : D.ok cnt) : Calls Tryd.prog 49 #[.pointer (some ⟨g, 2, none⟩)] w (OwnRet D.f1.stands w) := by
  obtain ⟨v0, l0, v1, l1, hb, h2, h3, h4, h5⟩ := h
  exact stands_any B D.f1 D.most hok.most2 hok.ok1 g 2 v1 l1 (Nat.le_trans hok.n1 hok.cnt) w (hb.cell 2) (hb.cell 3) h4
theorem two_files {f : Int} (h : ¬ (f < 0 ∨ 2 ≤ f)) : f = 0 ∨ f = 1 := by omega

set_option maxRecDepth 100000 in
set_option maxHeartbeats 1000000 in
theorem read_any (B cnt : Nat) (D : DiskM) (hok : D.ok cnt) (g : Nat) (f : Int) (w : World) (h : DiskAt B w g D) :
    Calls Tryd.prog 20 #[.pointer (some ⟨g, 0, none⟩), .int .i64 f] w (ReadRet (D.read f).1 (D.read f).2 w) := by
  have hm := may_any B D g f w h
  have hs0 := Lib.hid (stands0 h hok)
  have hs1 := Lib.hid (stands1 h hok)
  have case1 : ∀ k : Int, D.may f = k → k ≠ 0 → Calls Tryd.prog 20 #[.pointer (some ⟨g, 0, none⟩), .int .i64 f] w (ReadRet (D.read f).1 (D.read f).2 w) := fun k hk hk0 => by
    rw [show D.read f = ([], k) by simp [DiskM.read, hk, hk0]]
    rw [hk] at hm
    clear h hk
    replace hm := Lib.hid hm
    go_enter Tryd.func20, Tryd.ntmps20
    go_wp2_with (go_at_call 47; refine hm.out.mono ?_; rintro e w1 ⟨rfl, rfl⟩)
    go_ret2
    exact ⟨_, rfl, OwnBytes.nothing _ _, Below.refl _ _⟩
  cases ho : D.off with
  | true => exact case1 8 (may_off ho) (by omega)
  | false =>
    by_cases hf : f < 0 ∨ 2 ≤ f
    · exact case1 1 (may_arg ho hf) (by omega)
    · rw [may_ok ho hf] at hm
      have hr : D.read f = ((D.file f.toNat).stands, 0) := by simp [DiskM.read, may_ok ho hf]
      rw [hr]
      clear case1 h ho hr hok
      replace hm := Lib.hid hm
      rcases two_files hf with rfl | rfl
      · rw [show (0 : Int).toNat = 0 from rfl, file0]
        clear hf
        go_enter Tryd.func20, Tryd.ntmps20
        go_wp2_with (first
          | (go_at_call 47; refine hm.out.mono ?_; rintro e w1 ⟨rfl, rfl⟩)
          | (go_at_call 49; refine hs0.out.mono ?_; rintro e w2 ⟨v2, rfl, hown2, hB2⟩))
        go_ret2
        exact ⟨_, rfl, hown2, hB2⟩
      · rw [show (1 : Int).toNat = 1 from rfl, file1]
        clear hf
        go_enter Tryd.func20, Tryd.ntmps20
        go_wp2_with (first
          | (go_at_call 47; refine hm.out.mono ?_; rintro e w1 ⟨rfl, rfl⟩)
          | (go_at_call 49; refine hs1.out.mono ?_; rintro e w2 ⟨v2, rfl, hown2, hB2⟩))
        go_ret2
        exact ⟨_, rfl, hown2, hB2⟩

theorem ret_int {k : IntKind} {a b : Int} (h : a = b) : Ending.returned (.int k a) = .returned (.int k b) := by rw [h]

set_option maxRecDepth 100000 in
set_option maxHeartbeats 1000000 in
theorem room_any (B cnt : Nat) (D : DiskM) (hok : D.ok cnt) (g : Nat) (w : World) (h : DiskAt B w g D) :
    Calls Tryd.prog 18 #[.pointer (some ⟨g, 0, none⟩)] w fun e w' => e = .returned (.int .i64 D.room) ∧ Below w.heap.size w w' := by
  have h0 := Lib.hid h
  have hok0 := Lib.hid hok
  obtain ⟨v0, l0, v1, l1, hb, _⟩ := h
  have hg := hb.lt
  have hc4 : w.cell? ⟨g, 4, none⟩ = some (.int .i64 D.most) := hb.cell 4
  have k0 := okL_all hok.ok0
  have k1 := okL_all hok.ok1
  have k2 := hok.most2
  change D.f0.stands.length ≤ _ at k0
  change D.f1.stands.length ≤ _ at k1
  clear hb hok
  go_enter Tryd.func18, Tryd.ntmps18
  go_wp2_with (fail)
  have hc4' := fun z : Grew w.heap.size w => Grew.cell hc4 hg z
  refine wp_region_ways (S := fun w' => ∃ x : Grew w.heap.size w, w' = x.1) (.one [0, 1, 2, 3, 4, 5, 6, 7, 11, 12, 13, 14] 8 (.one [9, 10] 15 (.last [16, 17, 18, 19]))) (by kernel_rfl) (by kernel_rfl) (by intro c a d u w h; cases d <;> exact h) ⟨⟨w.drew, (Below.refl _ _).drew⟩, rfl⟩ ?_
  simp only [wpWays, picks, List.getElem?_toArray, List.getElem?_cons_succ, List.getElem?_cons_zero]
  repeat (go_big_quiet_step (fail))
  refine wpQuiet_nil ?_
  refine wpOp_step (by simp only [List.getElem?_toArray, List.getElem?_cons_succ, List.getElem?_cons_zero]; rfl) (fun K hK => ?_)
  go_simp
  have hd : Below w.heap.size w w.drew := (Below.refl _ _).drew
  refine (stands0 (h0.out.grown hd) hok0.out).mono ?_
  rintro e w1 ⟨v1, rfl, hown1, hB1⟩
  obtain ⟨a1, c1, rfl, _, _, _, _⟩ := BytesAt.of_own (B := 0) hown1
  have hB1' : Below w.heap.size w w1 := hd.trans hB1
  refine hK _ _ ⟨⟨⟨w1, hB1'⟩, rfl⟩, ?_⟩
  clear hK K hown1 hB1
  have hL0 : D.f0.stands.length ≤ 4194304 := by omega
  have hL1 : D.f1.stands.length ≤ 4194304 := by omega
  have hri : D.room = D.most - D.f0.stands.length - D.f1.stands.length := rfl
  have hst0 := fun wz hz => stands1 (h0.out.grown (w' := wz) hz) hok0.out
  clear h0 hok0
  generalize D.f0.stands = X0 at *
  generalize D.f1.stands = X1 at *
  generalize D.most = M at *
  have hri0 := Lib.hid hri
  have hst1 := Lib.hid hst0
  clear hri hst0
  repeat (go_big_quiet_step (fail))
  refine wpQuiet_nil ?_
  refine wpOp_step (by simp only [List.getElem?_toArray, List.getElem?_cons_succ, List.getElem?_cons_zero]; rfl) (fun K hK => ?_)
  go_simp
  refine (hst1.out w1 hB1').mono ?_
  rintro e w2 ⟨v2, rfl, hown2, hB2⟩
  obtain ⟨a2, c2, rfl, _, _, _, _⟩ := BytesAt.of_own (B := 0) hown2
  have hB2' : Below w.heap.size w w2 := hB1'.trans (hB2.mono hB1'.size)
  refine hK _ _ ⟨⟨⟨w2, hB2'⟩, rfl⟩, ?_⟩
  clear hK K hown2 hB2
  repeat (go_big_quiet_step (fail))
  refine wpQuiet_nil ?_
  go_wp2_with (fail)
  all_goals
    go_ret
    exact ⟨ret_int (by have := hri0.out; omega), hB2'⟩
end Go.Proofs.YtiidohaibbdgeaaDoor
