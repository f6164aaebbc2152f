/-
  What a change does to bytes, and how many units it has (disk.write, disk.cut).
-/
import Derived.Test.YtiidohaibbdgeaaDoorDClone
import Derived.WalkLawsBesides
namespace Go.Proofs.YtiidohaibbdgeaaDoor
open Go Go.RowKit

theorem add_zero_addr (c : Prop) [Decidable c] (a : Option Addr) : (if c then a else a.map (·.add 0)) = a := by
  split
  · rfl
  · cases a with
    | none => rfl
    | some ad => simp [Addr.add]
set_option maxRecDepth 100000 in
theorem size_u8 (w : World) : (sizeOf (Tryd.prog.elem 35)).run Tryd.prog w = .ok 1 w := by kernel_rfl
set_option maxRecDepth 100000 in
theorem Reads.take {w : World} {B : Nat} {a : Option Addr} {xs : Bs} (h : Reads w B a xs) (n : Nat) : Reads w B a (xs.take n) := fun hn => by
  rw [List.length_take] at hn
  obtain ⟨b, o, ha, hb, hc⟩ := h (by omega)
  refine ⟨b, o, ha, hb, fun j hj => ?_⟩
  rw [List.length_take] at hj
  rw [hc j (by omega)]
  simp [List.getD, show j < n by omega]
/-- A row of bytes of the caller's is handed back. -/
def RowRet (base : Nat) (xs : Bs) (w : World) (e : Ending) (w' : World) : Prop := ∃ v, e = .returned v ∧ OwnBytes w' base v xs ∧ Below base w w'
set_option maxRecDepth 100000 in
/-- A slice's first bytes. -/
theorem slice_first (a : Option Addr) (len cap k : Nat) (hk : k ≤ cap) (kk : Int) (hkk : kk = k) (q : IntKind) (w : World) :
    (Instr.sliceAt 35 (.slice a len cap) none (some (.int q kk)) none).run Tryd.prog w = .ok (.slice a k cap) w := by
  subst hkk
  rw [run_sliceAt_slice w _ _ _ _ _ Tryd.underlying35, run_slice_h w _ _ _ _ Tryd.underlying35 q k (by omega) (by omega), size_u8]
  simp only [Result.andThen_ok, sliced, Int.toNat_natCast, Nat.zero_mul, Nat.sub_zero, add_zero_addr]
set_option maxRecDepth 100000 in
/-- .. and those behind. -/
theorem slice_rest (a : Option Addr) (len cap k : Nat) (hk : k ≤ len) (kk : Int) (hkk : kk = k) (q : IntKind) (w : World) :
    (Instr.sliceAt 35 (.slice a len cap) (some (.int q kk)) none none).run Tryd.prog w = .ok (.slice (cutAddr cap k a) (len - k) (cap - k)) w := by
  subst hkk
  rw [run_sliceAt_slice w _ _ _ _ _ Tryd.underlying35, run_slice_l w _ _ _ _ Tryd.underlying35 q k (by omega) (by omega), size_u8]
  simp only [Result.andThen_ok, sliced, Int.toNat_natCast, Nat.mul_one]
  rfl
set_option maxRecDepth 100000 in
/-- .. and those between. -/
theorem slice_mid (a : Option Addr) (len cap k m : Nat) (hk : k ≤ m) (hm : m ≤ cap) (kk mm : Int) (hkk : kk = k) (hmm : mm = m) (q r : IntKind) (w : World) :
    (Instr.sliceAt 35 (.slice a len cap) (some (.int q kk)) (some (.int r mm)) none).run Tryd.prog w = .ok (.slice (cutAddr cap k a) (m - k) (cap - k)) w := by
  subst hkk
  subst hmm
  rw [run_sliceAt_slice w _ _ _ _ _ Tryd.underlying35, run_slice_lh w _ _ _ _ Tryd.underlying35 q r k m (by omega) (by omega) (by omega), size_u8]
  simp only [Result.andThen_ok, sliced, Int.toNat_natCast, Nat.mul_one]
  rfl

set_option maxRecDepth 100000 in
set_option maxHeartbeats 1000000 in
theorem wunits_any (x : Bs) (xa : Option Addr) (cap : Nat) (w : World) :
    Calls Tryd.prog 113 #[.agg #[.slice xa x.length cap]] w fun e w' => e = .returned (.int .i64 x.length) ∧ Below w.heap.size w w' := by
  go_enter Tryd.func113, Tryd.ntmps113
  go_wp2
  go_ret
  exact ⟨rfl, (Below.refl _ _).alloc (Nat.le_refl _) _⟩

set_option maxRecDepth 100000 in
set_option maxHeartbeats 1000000 in
theorem cunits_any (n : Nat) (w : World) :
    Calls Tryd.prog 111 #[.agg #[.int .i64 n]] w fun e w' => e = .returned (.int .i64 1) ∧ Below w.heap.size w w' := by
  go_enter Tryd.func111, Tryd.ntmps111
  go_wp2
  go_ret
  exact ⟨rfl, (Below.refl _ _).alloc (Nat.le_refl _) _⟩

set_option maxRecDepth 100000 in
set_option maxHeartbeats 1000000 in
theorem wdone_any (x : Bs) (xa : Option Addr) (cap : Nat) (hc : xa = none → cap = 0) (hcap : x.length ≤ cap) (L : Bs) (v : Value) (base : Nat) (k : Nat) (w : World)
    (hx : Reads w base xa x) (hbase : base ≤ w.heap.size) (hown : OwnBytes w base v L) (hlen : L.length + x.length ≤ 70368744177664) :
    Calls Tryd.prog 112 #[.agg #[.slice xa x.length cap], v, .int .i64 k] w (RowRet base (L ++ x.take k) w) := by
  have hx0 := Lib.hid hx
  have hown0 := Lib.hid hown
  clear hx hown
  by_cases hk : k ≤ x.length
  · have hml : (x.take k).length = k := List.length_take_of_le hk
    have hsl := fun w => slice_first xa x.length cap k (by omega) k rfl .i64 w
    replace hml := Lib.hid hml
    go_enter Tryd.func112, Tryd.ntmps112
    go_wp2_with (
      at_builtin
      refine wpList_grow_bytes rfl (.tmp 7) (.tmp 15) rfl base v L rfl (hown0.out.alloc _) xa cap base (x.take k) (by rw [hml.out]; rfl) ((hx0.out.take k).below ((Below.refl _ _).alloc hbase _)) hc (by rw [hml.out]; omega) (by simp; omega) base w ((Below.refl _ _).alloc hbase _) (Nat.le_refl _) ?_
      intro v1 w1 hown1 _ hB1)
    go_ret
    exact ⟨_, rfl, hown1, hB1⟩
  · have hml : x.take k = x := List.take_of_length_le (by omega)
    rw [hml]
    have hsl := fun w => slice_first xa x.length cap x.length hcap x.length rfl .i64 w
    clear hml
    go_enter Tryd.func112, Tryd.ntmps112
    go_wp2_with (
      at_builtin
      refine wpList_grow_bytes rfl (.tmp 7) (.tmp 15) rfl base v L rfl (hown0.out.alloc _) xa cap base x rfl (hx0.out.below ((Below.refl _ _).alloc hbase _)) hc (by omega) (by simp; omega) base w ((Below.refl _ _).alloc hbase _) (Nat.le_refl _) ?_
      intro v1 w1 hown1 _ hB1)
    go_ret
    exact ⟨_, rfl, hown1, hB1⟩

/-- A row's beginning. -/
theorem OwnBytes.first {w : World} {base cap : Nat} {a : Option Addr} {L : Bs} (h : OwnBytes w base (.slice a L.length cap) L) (k : Nat) : OwnBytes w base (.slice a (L.take k).length cap) (L.take k) := by
  refine ⟨by simp, ?_⟩
  rcases h.2 with ⟨he, h0⟩ | ⟨g, c, cur, he, hg, hh, hc, hm, hs, ht⟩
  · injection he with h1 h2 h3
    subst h1
    subst h3
    have hl : L = [] := List.eq_nil_of_length_eq_zero h0
    subst hl
    exact .inl ⟨by simp, by simp⟩
  · injection he with h1 h2 h3
    subst h1
    subst h3
    refine .inr ⟨g, cap, cur, rfl, hg, hh, by rw [List.length_take]; omega, hm, hs, ?_⟩
    rw [List.map_take, ← ht, List.length_take, Nat.mul_one, Nat.mul_one, List.take_take]

set_option maxRecDepth 100000 in
set_option maxHeartbeats 1000000 in
theorem cdone_any (n : Nat) (L : Bs) (v : Value) (base : Nat) (k : Nat) (hk : 0 < k) (w : World)
    (hbase : base ≤ w.heap.size) (hown : OwnBytes w base v L) :
    Calls Tryd.prog 110 #[.agg #[.int .i64 n], v, .int .i64 k] w (RowRet base (L.take n) w) := by
  obtain ⟨a, cap, rfl, _, hcap, _, _⟩ := BytesAt.of_own (B := 0) hown
  have hown0 := Lib.hid hown
  clear hown
  by_cases hk : n ≤ L.length
  · have hml : (L.take n).length = n := List.length_take_of_le hk
    have hsl := fun w => slice_first a L.length cap n (by omega) n rfl .i64 w
    replace hml := Lib.hid hml
    go_enter Tryd.func110, Tryd.ntmps110
    go_wp2
    go_ret
    refine ⟨_, rfl, ?_, (Below.refl _ _).alloc hbase _⟩
    have := (hown0.out.alloc (.cells #[.int .i64 n] 85)).first n
    rwa [hml.out] at this
  · have hml : L.take n = L := List.take_of_length_le (by omega)
    rw [hml]
    have hsl := fun w => slice_first a L.length cap L.length hcap L.length rfl .i64 w
    clear hml
    go_enter Tryd.func110, Tryd.ntmps110
    go_wp2
    go_ret
    exact ⟨_, rfl, hown0.out.alloc _, (Below.refl _ _).alloc hbase _⟩
end Go.Proofs.YtiidohaibbdgeaaDoor
