/-
  bytes.Equal; vault.cut; vault.all.
-/
import Derived.Test.YtiidohaibbdgeaaDoorVFrames
import Derived.Laws.IdiomStrings
import Derived.Laws.BytesArg
namespace Go.Proofs.YtiidohaibbdgeaaDoor
open Go Go.RowKit

/-- Bytes as a string. -/
def strL (xs : Bs) : ByteArray := ⟨(xs.map UInt8.ofBitVec).toArray⟩
theorem strL_inj {xs ys : Bs} (h : strL xs = strL ys) : xs = ys := by
  have h1 := congrArg (fun s : ByteArray => s.data.toList) h
  simp only [strL] at h1
  have h2 : ∀ a b : List (BitVec 8), a.map UInt8.ofBitVec = b.map UInt8.ofBitVec → a = b := by
    intro a
    induction a with
    | nil => intro b hb; cases b with
      | nil => rfl
      | cons y b => simp at hb
    | cons x a ih => intro b hb; cases b with
      | nil => simp at hb
      | cons y b =>
        simp only [List.map_cons, List.cons.injEq] at hb
        rw [ih b hb.2]
        have := congrArg UInt8.toBitVec hb.1
        simpa using this
  exact h2 _ _ h1
theorem strL_toList (xs : Bs) : (strL xs).toList = xs.map UInt8.ofBitVec := by
  simp [strL]
theorem strL_beq (xs ys : Bs) : ((strL xs).toList == (strL ys).toList) = decide (xs = ys) := by
  rw [strL_toList, strL_toList]
  by_cases h : xs = ys
  · subst h
    rw [decide_eq_true rfl, beq_self_eq_true]
  · rw [decide_eq_false h, beq_eq_false_iff_ne]
    intro e
    exact h (strL_inj (by unfold strL; rw [e]))
theorem conv_str {w : World} {B : Nat} {a : Option Addr} {xs : Bs} (hr : Reads w B a xs) (cap : Nat) : (convert 35 9 (.slice a xs.length cap)).run Tryd.prog w = .ok (.string (strL xs)) w := by
  cases a with
  | none =>
    have h0 : xs = [] := by
      by_cases hl : 0 < xs.length
      · obtain ⟨b, o, he, _⟩ := hr hl; cases he
      · exact List.eq_nil_of_length_eq_zero (by omega)
    subst h0
    exact run_convert_bytes_nil w 35 5 Tryd.underlying35 Tryd.underlying5 0 cap 9 Tryd.underlying9
  | some ad =>
    have := run_convert_bytes_back w 35 9 5 ad cap (xs.map UInt8.ofBitVec) Tryd.underlying35 Tryd.underlying5 Tryd.underlying9 (fun j hj => by
      rw [List.length_map] at hj
      obtain ⟨b, o, he, _, hc⟩ := hr (by omega)
      injection he with he
      subst he
      rw [addr_add, hc j hj]
      simp [List.getD, hj, B8])
    rw [List.length_map] at this
    exact this

theorem ret_bool {a b : Bool} (h : a = b) : Ending.returned (.bool a) = .returned (.bool b) := by rw [h]

set_option maxRecDepth 100000 in
set_option maxHeartbeats 1000000 in
theorem equal_any (xs ys : Bs) (a b : Option Addr) (c d : Nat) (w : World) (hx : Reads w w.heap.size a xs) (hy : Reads w w.heap.size b ys) :
    Calls Tryd.prog 57 #[.slice a xs.length c, .slice b ys.length d] w fun e w' => e = .returned (.bool (decide (xs = ys))) ∧ w = w' := by
  have h1 := conv_str hx c
  have h2 := conv_str hy d
  clear hx hy
  go_enter Tryd.func57, Tryd.ntmps57
  go_wp2
  go_ret
  exact ⟨ret_bool (strL_beq xs ys), rfl⟩

/-- A file is cut, unless it has no more. -/
def DiskM.vcut (D : DiskM) (f n : Int) : DiskM × Int := if (D.read f).2 ≠ 0 ∨ ((D.read f).1.length : Int) = n then (D, (D.read f).2) else D.cut f n

set_option maxRecDepth 100000 in
set_option maxHeartbeats 1000000 in
theorem vcut_any (B cnt : Nat) (D : DiskM) (hok : D.ok cnt) (g : Nat) (f n : Int) (hn : n ≤ 9223372036854775807) (w : World) (h : DiskAt B w g D) :
    Calls Tryd.prog 31 #[.pointer (some ⟨g, 0, none⟩), .int .i64 f, .int .i64 n] w (DiskRet B g (D.vcut f n) w) := by
  have hB := h.base
  have hrd := read_any B cnt D hok g f w h
  have hct := fun wx (hw : Below w.heap.size w wx) => cut_any B cnt D hok g f n hn wx (h.grown hw)
  have h0 := Lib.hid h
  have hcase : ((D.read f).2 ≠ 0 ∧ D.vcut f n = (D, (D.read f).2)) ∨ ((D.read f).2 = 0 ∧ ((D.read f).1.length : Int) = n ∧ D.vcut f n = (D, (D.read f).2)) ∨ ((D.read f).2 = 0 ∧ ((D.read f).1.length : Int) ≠ n ∧ D.vcut f n = D.cut f n) := by
    unfold DiskM.vcut
    by_cases h1 : (D.read f).2 = 0
    · by_cases h2 : ((D.read f).1.length : Int) = n
      · exact .inr (.inl ⟨h1, h2, by simp [h2]⟩)
      · exact .inr (.inr ⟨h1, h2, by simp [h1, h2]⟩)
    · exact .inl ⟨h1, by simp [h1]⟩
  generalize (D.read f).1 = X at *
  generalize (D.read f).2 = E at *
  replace hrd := Lib.hid hrd
  replace hct := Lib.hid hct
  clear h hok
  rcases hcase with ⟨h1, h2⟩ | ⟨h1, h3, h2⟩ | ⟨h1, h3, h2⟩
  · rw [h2]
    have h1' : (E == 0) = false := by rw [beq_eq_false_iff_ne]; exact h1
    clear h1 h2
    go_enter Tryd.func31, Tryd.ntmps31
    go_wp2_with (go_at_call 20; refine hrd.out.mono ?_; rintro e w1 ⟨v1, rfl, hown1, hB1⟩; obtain ⟨a1, c1, rfl, _, _, _, _⟩ := BytesAt.of_own (B := B) hown1)
    go_ret
    exact ⟨rfl, h0.out.grown hB1, Lies.new hB1 hB⟩
  · rw [h2]
    have h3' : ((X.length : Int) == n) = true := by rw [beq_iff_eq]; exact h3
    subst h1
    clear h2 h3
    go_enter Tryd.func31, Tryd.ntmps31
    go_wp2_with (go_at_call 20; refine hrd.out.mono ?_; rintro e w1 ⟨v1, rfl, hown1, hB1⟩; obtain ⟨a1, c1, rfl, _, _, _, _⟩ := BytesAt.of_own (B := B) hown1)
    go_ret
    exact ⟨rfl, h0.out.grown hB1, Lies.new hB1 hB⟩
  · rw [h2]
    have h3' : ((X.length : Int) == n) = false := by rw [beq_eq_false_iff_ne]; exact h3
    subst h1
    clear h2 h3
    go_enter Tryd.func31, Tryd.ntmps31
    go_wp2_with (first
      | (go_at_call 20; refine hrd.out.mono ?_; rintro e w1 ⟨v1, rfl, hown1, hB1⟩; obtain ⟨a1, c1, rfl, _, _, _, _⟩ := BytesAt.of_own (B := B) hown1)
      | (go_at_call 21; refine (hct.out w1 hB1).mono ?_; rintro e w2 ⟨rfl, hD2, hL2⟩))
    go_ret
    exact ⟨rfl, hD2, (Lies.new hB1 hB).trans hL2⟩

/-- All have been done, or one told an error. -/
def AllRet (I : Nat → World → Prop) (Fail : Int → World → Prop) (n : Nat) (e : Ending) (w' : World) : Prop :=
  (e = .returned (.int .i64 0) ∧ I n w') ∨ ∃ x : Int, x ≠ 0 ∧ e = .returned (.int .i64 x) ∧ Fail x w'
theorem AllRet.of {I : Nat → World → Prop} {Fail : Int → World → Prop} {n : Nat} {e : Ending} {w' : World} (h : AllRet I Fail n e w') : ∃ x : Int, e = .returned (.int .i64 x) ∧ ((x = 0 ∧ I n w') ∨ (x ≠ 0 ∧ Fail x w')) := by
  rcases h with ⟨h1, h2⟩ | ⟨x, h1, h2, h3⟩
  · exact ⟨0, h1, .inl ⟨rfl, h2⟩⟩
  · exact ⟨x, h2, .inr ⟨h1, h3⟩⟩

set_option maxRecDepth 100000 in
set_option maxHeartbeats 1000000 in
theorem all_any (fs : List (Nat × Array Value)) (hlen : fs.length ≤ 1000) (I : Nat → World → Prop) (Fail : Int → World → Prop) (b o cap : Nat) (w : World)
    (hfn : ∀ i, i < fs.length → ∀ wx, (callFunc (fs.getD i (0, #[])).1 (fs.getD i (0, #[])).2).run Tryd.prog wx = .ok (.enter (fs.getD i (0, #[])).1 (fs.getD i (0, #[])).2) wx)
    (hcell : ∀ i, i < fs.length → ∀ wx, I i wx → wx.cell? ⟨b, o + i, none⟩ = some (.func (.func (fs.getD i (0, #[])).1) #[] (fs.getD i (0, #[])).2))
    (h0 : I 0 w) (hstep : ∀ i, i < fs.length → ∀ wx, I i wx → Calls Tryd.prog (fs.getD i (0, #[])).1 (fs.getD i (0, #[])).2 wx (AllRet (fun _ => I (i + 1)) Fail 0)) :
    Calls Tryd.prog 29 #[.slice (some ⟨b, o, none⟩) fs.length cap] w (AllRet I Fail fs.length) := by
  replace hfn := Lib.hid hfn
  replace hcell := Lib.hid hcell
  replace hstep := Lib.hid hstep
  go_enter Tryd.func29, Tryd.ntmps29
  go_wp2_with (fail)
  go_loopw [8] (fun i wr => ∃ k : Nat, k ≤ fs.length ∧ i = .int .i64 k ∧ I k wr) (fun i _ => fs.length - (intOf i).toNat)
  case atStart => exact ⟨0, by omega, rfl, h0⟩
  case round =>
    obtain ⟨k, hk, rfl, hI⟩ := hrel
    by_cases hlt : k < fs.length
    · have hc := hcell.out k hlt wr hI
      have hf := hfn.out k hlt
      have hs := hstep.out k hlt wr hI
      have hkl : (k : Int) < (fs.length : Int) := by omega
      generalize fs.getD k (0, #[]) = q at *
      obtain ⟨fn, caps⟩ := q
      simp only at hc hf hs
      replace hs := Lib.hid hs
      clear h0
      go_wp2_with (fail)
      refine hs.out.mono ?_
      rintro e w1 h1
      obtain ⟨x, rfl, h2⟩ := h1.of
      rcases h2 with ⟨rfl, h2⟩ | ⟨h3, h2⟩
      · go_wp2_with (fail)
        go_roundw
        case rel => exact ⟨k + 1, by omega, by go_num, h2⟩
        case measure => simp [intOf]; omega
      · have h3' : (x == 0) = false := by rw [beq_eq_false_iff_ne]; exact h3
        have h4 := Lib.hid h3
        clear h3
        go_wp2_with (fail)
        go_ret
        exact .inr ⟨x, h4.out, rfl, h2⟩
    · obtain rfl : k = fs.length := by omega
      go_wp2_with (fail)
      go_ret
      exact .inl ⟨rfl, hI⟩
end Go.Proofs.YtiidohaibbdgeaaDoor
