/-
  The power comes back: disk.On; and what bounds a disk behind each call.
-/
import Derived.Test.YtiidohaibbdgeaaDoorDSync
namespace Go.Proofs.YtiidohaibbdgeaaDoor
open Go Go.RowKit

/-- The numbers of a slice, in a block that stays. -/
def IntsAt (B : Nat) (w : World) (a : Option Addr) (zs : List Int) : Prop :=
  0 < zs.length → ∃ b o, a = some ⟨b, o, none⟩ ∧ StaysT B w [3] b ∧ ∀ j, j < zs.length → w.cell? ⟨b, o + j, none⟩ = some (.int .i64 (zs.getD j 0))
theorem IntsAt.rest {B : Nat} {w w' : World} {a : Option Addr} {zs : List Int} (h : IntsAt B w a zs) (hr : Lies B w w') : IntsAt B w' a zs := fun hn => by
  obtain ⟨b, o, ha, hs, hc⟩ := h hn
  exact ⟨b, o, ha, hs.rest hr, fun j hj => (hs.cell hr).trans (hc j hj)⟩

theorem settle_ok {F : FileM} {M u : Nat} (h : F.ok M) : (F.settle u).ok M := okL_kept h
theorem put_wr_ok {F : FileM} {M : Nat} {b : Bs} (h : F.ok M) (hb : F.stands.length + b.length ≤ M) : (F.put (.wr b)).ok M :=
  okL_snoc h ⟨by change F.stands.length ≤ M; omega, by change (F.stands ++ b).length ≤ M; simp; omega⟩
theorem put_cut_ok {F : FileM} {M n : Nat} (h : F.ok M) : (F.put (.cut n)).ok M := by
  have := okL_all h
  exact okL_snoc h ⟨this, by change (List.take n F.stands).length ≤ M; change F.stands.length ≤ M at this; simp; omega⟩
theorem put_length (F : FileM) (c : Chg) : (F.put c).loose.length = F.loose.length + 1 := by simp [FileM.put]
theorem DiskM.ok.more {D : DiskM} {cnt : Nat} (h : D.ok cnt) (hc : cnt < 1099511627776) : D.ok (cnt + 1) :=
  ⟨h.most1, h.most2, h.ok0, h.ok1, Nat.le_succ_of_le h.n0, Nat.le_succ_of_le h.n1, hc, h.left0, h.left1⟩
theorem DiskM.ok.settle0 {D : DiskM} {cnt : Nat} (h : D.ok cnt) (u : Nat) : DiskM.ok { D with f0 := D.f0.settle u } cnt :=
  ⟨h.most1, h.most2, settle_ok h.ok0, h.ok1, by simp [FileM.settle], h.n1, h.cnt, h.left0, h.left1⟩
theorem DiskM.ok.settle1 {D : DiskM} {cnt : Nat} (h : D.ok cnt) (u : Nat) : DiskM.ok { D with f1 := D.f1.settle u } cnt :=
  ⟨h.most1, h.most2, h.ok0, settle_ok h.ok1, h.n0, by simp [FileM.settle], h.cnt, h.left0, h.left1⟩
theorem goes_ok {D : DiskM} {cnt : Nat} (h : D.ok cnt) {k : DiskM → DiskM} {c' : Nat} (hc : cnt ≤ c') (hc2 : c' ≤ 1099511627776) (hk : DiskM.ok (k { D with left := RowKit.wrap64 (D.left - 1) }) c') : (D.goes k).1.ok c' := by
  unfold DiskM.goes
  split
  · exact ⟨h.most1, h.most2, h.ok0, h.ok1, Nat.le_trans h.n0 hc, Nat.le_trans h.n1 hc, hc2, h.left0, h.left1⟩
  · exact hk
theorem write_ok {D : DiskM} {cnt : Nat} (h : D.ok cnt) (f : Int) (b : Bs) (hc : cnt < 1099511627776) : (D.write f b).1.ok (cnt + 1) := by
  have h1 := h.more hc
  unfold DiskM.write
  split
  · exact h1
  · split
    · exact h1
    · rename_i hr
      have hl := h.left
      refine goes_ok h (by omega) (by omega) ?_
      have hr' : b.length ≤ D.room := by omega
      unfold DiskM.room at hr'
      unfold DiskM.with DiskM.file
      by_cases hf : f.toNat = 0
      · simp only [hf, if_true]
        exact ⟨h.most1, h.most2, put_wr_ok h.ok0 (by have := okL_all h.ok0; change D.f0.stands.length ≤ _ at this; show D.f0.stands.length + b.length ≤ D.most; omega), h.ok1, by rw [put_length]; have := h.n0; omega, Nat.le_succ_of_le h.n1, hc, hl.left0, hl.left1⟩
      · simp only [hf, if_false]
        exact ⟨h.most1, h.most2, h.ok0, put_wr_ok h.ok1 (by have := okL_all h.ok1; change D.f1.stands.length ≤ _ at this; show D.f1.stands.length + b.length ≤ D.most; omega), Nat.le_succ_of_le h.n0, by rw [put_length]; have := h.n1; omega, hc, hl.left0, hl.left1⟩
theorem cut_ok {D : DiskM} {cnt : Nat} (h : D.ok cnt) (f n : Int) (hc : cnt < 1099511627776) : (D.cut f n).1.ok (cnt + 1) := by
  have h1 := h.more hc
  unfold DiskM.cut
  split
  · exact h1
  · split
    · exact h1
    · have hl := h.left
      refine goes_ok h (by omega) (by omega) ?_
      unfold DiskM.with DiskM.file
      by_cases hf : f.toNat = 0
      · simp only [hf, if_true]
        exact ⟨h.most1, h.most2, put_cut_ok h.ok0, h.ok1, by rw [put_length]; have := h.n0; omega, Nat.le_succ_of_le h.n1, hc, hl.left0, hl.left1⟩
      · simp only [hf, if_false]
        exact ⟨h.most1, h.most2, h.ok0, put_cut_ok h.ok1, Nat.le_succ_of_le h.n0, by rw [put_length]; have := h.n1; omega, hc, hl.left0, hl.left1⟩
theorem sync_ok {D : DiskM} {cnt : Nat} (h : D.ok cnt) (f : Int) : (D.sync f).1.ok cnt := by
  unfold DiskM.sync
  split
  · exact h
  · have hl := h.left
    refine goes_ok h (Nat.le_refl _) h.cnt ?_
    unfold DiskM.with DiskM.file
    by_cases hf : f.toNat = 0
    · simp only [hf, if_true]
      exact hl.settle0 _
    · simp only [hf, if_false]
      exact hl.settle1 _
theorem down_ok {D : DiskM} {cnt : Nat} (h : D.ok cnt) : D.down.1.ok cnt := by
  unfold DiskM.down
  split
  · exact h
  · exact ⟨h.most1, h.most2, h.ok0, h.ok1, h.n0, h.n1, h.cnt, h.left0, h.left1⟩
theorem fuse_ok {D : DiskM} {cnt : Nat} (h : D.ok cnt) (n : Int) (h0 : -9223372036854775808 ≤ n) (h1 : n ≤ 9223372036854775807) : (D.fuse n).1.ok cnt := by
  unfold DiskM.fuse
  split
  · exact h
  · exact ⟨h.most1, h.most2, h.ok0, h.ok1, h.n0, h.n1, h.cnt, h0, h1⟩
theorem on_ok {D : DiskM} {cnt : Nat} (h : D.ok cnt) (picks : List Int) : (D.on picks).1.ok cnt := by
  unfold DiskM.on
  split
  · exact h
  · have := (h.settle0 (pickAt picks 0)).settle1 (pickAt picks 1)
    exact ⟨this.most1, this.most2, this.ok0, this.ok1, this.n0, this.n1, this.cnt, this.left0, this.left1⟩
theorem new_ok {most : Nat} (h1 : 1 ≤ most) (h2 : most ≤ 4194304) : (DiskM.new most).ok 0 :=
  ⟨h1, h2, by simp [DiskM.new, FileM.ok, okL], by simp [DiskM.new, FileM.ok, okL], by simp [DiskM.new], by simp [DiskM.new], by omega, by simp [DiskM.new], by simp [DiskM.new]⟩

/-- Behind k files. -/
def onTo (D : DiskM) (picks : List Int) : Nat → DiskM
  | 0 => D
  | 1 => { D with f0 := D.f0.settle (pickAt picks 0) }
  | _ => { D with f0 := D.f0.settle (pickAt picks 0), f1 := D.f1.settle (pickAt picks 1) }
theorem onTo_ok {D : DiskM} {cnt : Nat} (h : D.ok cnt) (picks : List Int) (k : Nat) : (onTo D picks k).ok cnt := by
  match k with
  | 0 => exact h
  | 1 => exact h.settle0 _
  | _ + 2 => exact (h.settle0 (pickAt picks 0)).settle1 (pickAt picks 1)

set_option maxRecDepth 100000 in
set_option maxHeartbeats 1000000 in
theorem on_any (B cnt : Nat) (D : DiskM) (hok : D.ok cnt) (g : Nat) (picks : List Int) (hp : ∀ z ∈ picks, z ≤ 9223372036854775807) (hpl : picks.length ≤ 140737488355328) (a : Option Addr) (cap : Nat) (w : World) (h : DiskAt B w g D) (hpk : IntsAt B w a picks) :
    Calls Tryd.prog 15 #[.pointer (some ⟨g, 0, none⟩), .slice a picks.length cap] w (DiskRet B g (D.on picks) w) := by
  have hB := h.base
  have h0 := Lib.hid h
  have hpk0 := Lib.hid hpk
  have hp0 := Lib.hid hp
  have hok0 := Lib.hid hok
  have hc5 : w.cell? ⟨g, 5, none⟩ = some (.bool D.off) := by
    obtain ⟨_, _, _, _, hb, _⟩ := h
    exact hb.cell 5
  clear h hpk hp hok
  cases ho : D.off with
  | false =>
    rw [ho] at hc5
    rw [show D.on picks = (D, 3) by simp [DiskM.on, ho]]
    clear ho
    go_enter Tryd.func15, Tryd.ntmps15
    go_wp2
    go_ret
    exact ⟨rfl, h0.out, Lies.refl _ _⟩
  | true =>
    rw [ho] at hc5
    rw [show D.on picks = ({ D with f0 := D.f0.settle (pickAt picks 0), f1 := D.f1.settle (pickAt picks 1), off := false, fused := false }, 0) by simp [DiskM.on, ho]]
    clear ho
    go_enter Tryd.func15, Tryd.ntmps15
    go_wp2_with (fail)
    go_loopw [16] (fun i wr => ∃ k : Nat, k ≤ 2 ∧ i = .int .i64 k ∧ DiskAt B wr g (onTo D picks k) ∧ Lies B w wr) (fun i _ => 2 - (intOf i).toNat)
    case atStart => exact ⟨0, by omega, rfl, h0.out, Lies.refl _ _⟩
    case round =>
      obtain ⟨k, hk, rfl, hD, hL⟩ := hrel
      have hk3 : k = 0 ∨ k = 1 ∨ k = 2 := by omega
      rcases hk3 with rfl | rfl | rfl
      · have hz : picks.getD 0 0 ≤ 9223372036854775807 := by
          by_cases hx : 0 < picks.length
          · have : picks.getD 0 0 = picks[0] := by simp [List.getD, hx]
            rw [this]
            exact hp0.out _ (List.getElem_mem hx)
          · have : picks.getD 0 0 = 0 := by simp [List.getD, Nat.le_of_not_lt hx]
            rw [this]
            omega
        have hst := (settle_ret hD (onTo_ok hok0.out picks 0) (picks.getD 0 0) hz).1
        replace hst := Lib.hid hst
        have hpr := hpk0.out.rest hL
        by_cases hx : 0 < picks.length
        · obtain ⟨b, o, rfl, _, hc⟩ := hpr (by omega)
          have c0 : wr.cell? ⟨b, o, none⟩ = _ := hc 0 hx
          have hx' : (0 : Int) < (picks.length : Int) := by omega
          obtain ⟨z, hz0⟩ : ∃ z, z = picks.getD 0 0 := ⟨_, rfl⟩
          rw [← hz0] at c0 hst
          have hze : pickAt picks 0 = z.toNat := by rw [pickAt, hz0]
          clear hc hpr hz hD hc5 hz0
          replace hze := Lib.hid hze
          go_wp2_with (go_at_call 48; refine hst.out.mono ?_; rintro e w1 ⟨rfl, hD1, hL1⟩)
          go_roundw
          case rel => exact ⟨1, by omega, by go_num, by simp only [onTo] at hD1 ⊢; rw [hze.out]; exact hD1, hL.trans hL1⟩
          case measure => simp [intOf]
        · have hx' : decide ((0 : Int) < (picks.length : Int)) = false := decide_eq_false (by omega)
          have e0 : picks.getD 0 0 = 0 := by simp [List.getD, Nat.le_of_not_lt hx]
          rw [e0] at hst
          have hpe : pickAt picks 0 = (0 : Int).toNat := by rw [pickAt, e0]
          clear hz hD hc5 e0 hpr
          replace hpe := Lib.hid hpe
          replace hx := Lib.hid hx
          go_wp2_with (go_at_call 48; refine hst.out.mono ?_; rintro e w1 ⟨rfl, hD1, hL1⟩)
          go_roundw
          case rel => exact ⟨1, by omega, by go_num, by simp only [onTo]; rw [hpe.out]; exact hD1, hL.trans hL1⟩
          case measure => simp [intOf]
      · have hz : picks.getD 1 0 ≤ 9223372036854775807 := by
          by_cases hx : 1 < picks.length
          · have : picks.getD 1 0 = picks[1] := by simp [List.getD, hx]
            rw [this]
            exact hp0.out _ (List.getElem_mem hx)
          · have : picks.getD 1 0 = 0 := by simp [List.getD, Nat.le_of_not_lt hx]
            rw [this]
            omega
        have hst := (settle_ret hD (onTo_ok hok0.out picks 1) (picks.getD 1 0) hz).2
        replace hst := Lib.hid hst
        have hpr := hpk0.out.rest hL
        by_cases hx : 1 < picks.length
        · obtain ⟨b, o, rfl, _, hc⟩ := hpr (by omega)
          have c0 := hc 1 hx
          have hx' : (1 : Int) < (picks.length : Int) := by omega
          obtain ⟨z, hz0⟩ : ∃ z, z = picks.getD 1 0 := ⟨_, rfl⟩
          rw [← hz0] at c0 hst
          have hze : pickAt picks 1 = z.toNat := by rw [pickAt, hz0]
          clear hc hpr hz hD hc5 hz0
          replace hze := Lib.hid hze
          go_wp2_with (go_at_call 48; refine hst.out.mono ?_; rintro e w1 ⟨rfl, hD1, hL1⟩)
          go_roundw
          case rel => exact ⟨2, by omega, by go_num, by simp only [onTo] at hD1 ⊢; rw [hze.out]; exact hD1, hL.trans hL1⟩
          case measure => simp [intOf]
        · have hx' : decide ((1 : Int) < (picks.length : Int)) = false := decide_eq_false (by omega)
          have e0 : picks.getD 1 0 = 0 := by simp [List.getD, Nat.le_of_not_lt hx]
          rw [e0] at hst
          have hpe : pickAt picks 1 = (0 : Int).toNat := by rw [pickAt, e0]
          clear hz hD hc5 e0 hpr
          replace hpe := Lib.hid hpe
          replace hx := Lib.hid hx
          go_wp2_with (go_at_call 48; refine hst.out.mono ?_; rintro e w1 ⟨rfl, hD1, hL1⟩)
          go_roundw
          case rel => exact ⟨2, by omega, by go_num, by simp only [onTo] at hD1 ⊢; rw [hpe.out]; exact hD1, hL.trans hL1⟩
          case measure => simp [intOf]
      · obtain ⟨v0, l0, v1, l1, hb, h2, h3, h4, h5⟩ := hD
        have c5 := hb.cell 5
        have c6 := hb.cell 6
        have f5 := hb.free 5
        have f6 := hb.free 6
        have hpl := DiskAt.plain2 (D' := { D with f0 := D.f0.settle (pickAt picks 0), f1 := D.f1.settle (pickAt picks 1), off := false, fused := false }) (i := 5) (j := 6) (u := .bool false) (u' := .bool false) hb h2 h3 h4 h5 rfl rfl rfl
        replace hpl := Lib.hid hpl
        clear hb h3 h4 h5 hc5
        go_wp2_with (fail)
        go_ret
        exact ⟨rfl, hpl.out.1, hL.trans hpl.out.2⟩
end Go.Proofs.YtiidohaibbdgeaaDoor
