/-
  The padded text: the document's (scantlingref01.text), and its table (scantlingref01.k).
-/
import Derived.Test.YtiidohaibbdgeaaDoorRefWords
import Derived.Laws.AppendOwnNone
namespace Go.Proofs.YtiidohaibbdgeaaDoor
open Go.RowKit

/-- What lies in a row of the call's own. -/
def OwnEnd (e : TypeId) (xs : List Value) (w : World) (en : Ending) (w' : World) : Prop :=
  ∃ v, en = .returned v ∧ w'.ownsRow w.heap.size e 1 v xs.length xs ∧ Below w.heap.size w w'

/-- 'append' of bytes that can be read, onto a row of the call's own. -/
theorem wpList_append_bytes {P : Program} {w : World} {ops : Array Oper} {rest : List Oper} {o : Oper} {a : Act} {Q : Exit → Act → World → Prop} (hgd : o.guard = none) (s x : Operand) (t : TypeId)
    (ho : o.op = .call { callee := .builtin .append, args := #[s, x], argTypes := #[t, t] })
    (base : Nat) (e : TypeId) (i : TypeInfo) (z : Value) (ht : P.underlying t = some (.slice e)) (hi : P.info? e = some i) (hz : i.zero = some z)
    (hsize : i.size = 1) (hby : i.bytes = 1) (hzs : z.cells.size = 1)
    (v : Value) (n : Nat) (xs : List Value) (hs : a.eval s = v) (hown : w.ownsRow base e 1 v n xs)
    (ad : Option Addr) (c B : Nat) (ys : List (BitVec 8)) (hx : a.eval x = .slice ad ys.length c) (hr : Reads w B ad ys) (hc : ad = none → c = 0)
    (hlen : n + ys.length ≤ 140737488355328) (hbase : base ≤ w.heap.size)
    (h : ∀ v' w', w'.ownsRow base e 1 v' (n + ys.length) (xs ++ ys.map B8) → w.grownBy w' v.ownBlock → wpList P ops Q rest (a.put o.dst v') w') : wpList P ops Q (o :: rest) a w := by
  cases ad with
  | none =>
    have h0 : ys = [] := by
      by_cases hl : 0 < ys.length
      · obtain ⟨b, o, he, _⟩ := hr hl; cases he
      · exact List.eq_nil_of_length_eq_zero (by omega)
    subst h0
    have hc' := hc rfl
    subst hc'
    exact wpList_append_own_none hgd s x t ho base e i 1 ht hi v n xs hs hown hx (h v w (by simpa using hown) ⟨rfl, rfl, rfl, Nat.le_refl _, fun _ _ _ => rfl⟩)
  | some ad =>
    refine wpList_append_own w hgd s x t ho base e i z 1 1 ht hi hz hsize hby hzs (by decide) v n xs hs hown ad ys.length c (ys.map B8) hx (by simp) ?_ ?_ (by unfold maxLen; omega) (by omega) hbase (fun v' w' h1 h2 _ => h v' w' h1 h2)
    · intro j u hu
      have hj : j < ys.length := by simpa using (List.getElem?_eq_some_iff.1 hu).1
      obtain ⟨b, o, he, _, hcell⟩ := hr (by omega)
      injection he with he
      subst he
      rw [addr_add, hcell j hj]
      simp only [List.getElem?_map, List.getElem?_eq_getElem hj, Option.map_some] at hu
      rw [← hu]
      simp [List.getD, List.getElem?_eq_getElem hj]
    · intro u hu
      simp only [List.mem_map] at hu
      obtain ⟨x, _, rfl⟩ := hu
      rfl

set_option maxRecDepth 100000 in
set_option maxHeartbeats 1000000 in
theorem ktab_any (w : World) : Calls Tryd.prog 83 #[] w (OwnEnd 115 ((List.range 64).map fun i => U (kk i)) w) := by
  go_enter Tryd.func83, Tryd.ntmps83
  go_wp2
  go_ret
  refine ⟨_, rfl, ?_, (Below.refl _ _).alloc (Nat.le_refl _) _⟩
  exact World.ownsRow_lit (base := w.heap.size) (e := 115) (size := 1) w (tabulate 64 fun i => U (kk i)) 64 (Nat.le_refl _) (by unfold maxLen; omega) (by rw [tabulate_size])

/-- A row of bytes of the call's own. -/
def OwnBytes (w : World) (base : Nat) (v : Value) (L : List (BitVec 8)) : Prop := w.ownsRow base 5 1 v L.length (L.map B8)
theorem OwnBytes.alloc {w : World} {base : Nat} {v : Value} {L : List (BitVec 8)} (h : OwnBytes w base v L) (o : Obj) : OwnBytes (w.alloc o) base v L := World.ownsRow.alloc h o
theorem OwnBytes.drew {w : World} {base : Nat} {v : Value} {L : List (BitVec 8)} (h : OwnBytes w base v L) : OwnBytes w.drew base v L := h
theorem OwnBytes.empty (w : World) : OwnBytes (w.alloc (.cells #[] 5)) w.heap.size (.slice (some ⟨w.heap.size, 0, none⟩) 0 0) [] :=
  World.ownsRow_lit (base := w.heap.size) (e := 5) (size := 1) w #[] 0 (Nat.le_refl _) (by unfold maxLen; omega) rfl

/-- .. with bytes that can be read put behind. -/
theorem wpList_grow_bytes {w : World} {ops : Array Oper} {rest : List Oper} {o : Oper} {a : Act} {Q : Exit → Act → World → Prop} (hgd : o.guard = none) (s x : Operand)
    (ho : o.op = .call { callee := .builtin .append, args := #[s, x], argTypes := #[35, 35] })
    (base : Nat) (v : Value) (L : List (BitVec 8)) (hs : a.eval s = v) (hown : OwnBytes w base v L)
    (ad : Option Addr) (c B : Nat) (ys : List (BitVec 8)) (hx : a.eval x = .slice ad ys.length c) (hr : Reads w B ad ys) (hc : ad = none → c = 0)
    (hlen : L.length + ys.length ≤ 140737488355328) (hbase : base ≤ w.heap.size) (B0 : Nat) (w0 : World) (hB : Below B0 w0 w) (hB0 : B0 ≤ base)
    (h : ∀ v' w', OwnBytes w' base v' (L ++ ys) → w.grownBy w' v.ownBlock → Below B0 w0 w' → wpList Tryd.prog ops Q rest (a.put o.dst v') w') : wpList Tryd.prog ops Q (o :: rest) a w := by
  obtain ⟨i5, hi5, hz5, hs5, hy5⟩ := info_parts Tryd.info_u8
  refine wpList_append_bytes hgd s x 35 ho base 5 i5 _ Tryd.underlying35 hi5 hz5 hs5 hy5 rfl v L.length (L.map B8) hs hown ad c B ys hx hr hc hlen hbase fun v' w' h1 h2 => ?_
  refine h v' w' ?_ h2 (hB.grown h2 (Nat.le_trans hB0 hbase) fun k hk => Nat.le_trans hB0 (own_ge hown k hk))
  unfold OwnBytes
  rw [List.length_append, List.map_append]
  exact h1

/-- .. with one byte, that has just been laid, put behind. -/
theorem wpList_push_byte {w : World} {ops : Array Oper} {rest : List Oper} {o : Oper} {a : Act} {Q : Exit → Act → World → Prop} (hgd : o.guard = none) (s x : Operand)
    (ho : o.op = .call { callee := .builtin .append, args := #[s, x], argTypes := #[35, 35] })
    (base : Nat) (v : Value) (L : List (BitVec 8)) (hs : a.eval s = v) (hown : OwnBytes w base v L)
    (t : TypeId) (u : Value) (y : BitVec 8) (hu : u = B8 y) (hx : a.eval x = .slice (some ⟨w.heap.size, 0, none⟩) 1 1)
    (hlen : L.length + 1 ≤ 140737488355328) (hbase : base ≤ w.heap.size) (B0 : Nat) (w0 : World) (hB : Below B0 w0 w) (hB0 : B0 ≤ base)
    (h : ∀ v' w', OwnBytes w' base v' (L ++ [y]) → Below B0 w0 w' → wpList Tryd.prog ops Q rest (a.put o.dst v') w') : wpList Tryd.prog ops Q (o :: rest) a (w.alloc (.cells #[u] t)) :=
  wpList_grow_bytes hgd s x ho base v L hs (hown.alloc _) (some ⟨w.heap.size, 0, none⟩) 1 (w.alloc (.cells #[u] t)).heap.size [y] hx (reads_one w t y u hu) (by simp) hlen (by simp; omega) B0 w0 (hB.alloc (Nat.le_trans hB0 hbase) _) hB0
    fun v' w' h1 _ h3 => h v' w' h1 h3

set_option maxRecDepth 100000 in
set_option maxHeartbeats 1000000 in
theorem rtext_any (m : List (BitVec 8)) (a : Option Addr) (cap : Nat) (w : World) (hr : Reads w w.heap.size a m) (hc : a = none → cap = 0) (hlen : m.length ≤ 100000000000000) :
    Calls Tryd.prog 82 #[.slice a m.length cap] w (OwnEnd 5 ((padded m).map B8) w) := by
  have hr0 := Lib.hid hr
  have hc0 := Lib.hid hc
  clear hr hc
  obtain ⟨M1, hM1⟩ : ∃ M1, M1 = m ++ [0x80] := ⟨_, rfl⟩
  replace hM1 := Lib.hid hM1
  go_enter Tryd.func82, Tryd.ntmps82
  go_upto_block 0 with (first
    | (at_builtin
       refine wpList_grow_bytes rfl (.tmp 6) (.tmp 7) rfl w.heap.size _ [] rfl (OwnBytes.empty w) a cap w.heap.size m rfl (hr0.out.below ((Below.refl _ _).alloc (Nat.le_refl _) _)) hc0.out (by simp; omega) (by simp) w.heap.size w ((Below.refl _ _).alloc (Nat.le_refl _) _) (Nat.le_refl _) ?_
       intro v1 w1 hown1 _ hB1
       rw [List.nil_append] at hown1)
    | (at_builtin
       refine wpList_push_byte rfl (.tmp 9) (.tmp 10) rfl w.heap.size _ m rfl hown1 5 _ 0x80 rfl rfl (by omega) hB1.size w.heap.size w hB1 (Nat.le_refl _) ?_
       intro v2 w2 hown2 hB2
       rw [← hM1.out] at hown2))
  have hl1 : M1.length = m.length + 1 := by rw [hM1.out]; simp
  have hz := noughts_fit m.length
  obtain ⟨Z, hZ⟩ : ∃ Z, Z = noughts m.length := ⟨_, rfl⟩
  rw [← hZ] at hz
  obtain ⟨hz1, hz2⟩ := hz
  have hzf : ∀ z, z < Z → (m.length + 1 + z) % 64 ≠ 56 := fun z h => noughts_first m.length z (by rw [← hZ]; exact h)
  replace hZ := Lib.hid hZ
  replace hzf := Lib.hid hzf
  replace hl1 := Lib.hid hl1
  replace hz1 := Lib.hid hz1
  go_wp2_with (fail)
  go_loopg [3] Z (fun k v wr => ∃ (z : Nat) (M : List (BitVec 8)), k = Z - z ∧ z ≤ Z ∧ Hid (M = M1 ++ List.replicate z 0) ∧ OwnBytes wr w.heap.size v M ∧ Below w.heap.size w wr)
  case atStart => exact ⟨0, M1, by omega, by omega, by show M1 = _; simp, hown2, hB2⟩
  case round =>
    obtain ⟨z, M, rfl, hzZ, hM, hown, hB⟩ := hrel
    clear hown1 hown2 hB1 hB2
    have hlM : M.length = m.length + 1 + z := by rw [hM.out, List.length_append, hl1.out]; simp
    obtain ⟨g, cp, rfl, hgB, hglt⟩ := own_form hown (by omega)
    have hlb : M.length ≤ 140737488355000 := by omega
    by_cases hzl : z < Z
    · have ht : ((M.length : Int) % 64 != 56) = true := by
        rw [bne_iff_ne]; have := hzf.out z hzl; omega
      replace hlM := Lib.hid hlM
      go_wp2_with (
        at_builtin
        refine wpList_push_byte rfl (.tmp 16) (.tmp 17) rfl w.heap.size _ M rfl hown 5 _ 0 rfl rfl (by omega) hB.size w.heap.size w hB (Nat.le_refl _) ?_
        intro v3 w3 hown3 hB3)
      go_roundg (Z - (z + 1))
      case measure => omega
      case rel => exact ⟨z + 1, M ++ [0], rfl, by omega, by show M ++ [0] = _; rw [hM.out, List.replicate_succ', List.append_assoc], hown3, hB3⟩
    · obtain rfl : z = Z := by omega
      have ht : ((M.length : Int) % 64 != 56) = false := by
        rw [bne_eq_false_iff_eq]; have := hz1.out; omega
      replace hlM := Lib.hid hlM
      go_upto_block 2 with (fail)
      go_wp2_with (fail)
      go_loopg [3, 5] 8 (fun k v i wr => ∃ (c : Nat), k = 8 - c ∧ c ≤ 8 ∧ i = .int .i64 (7 - (c : Int)) ∧ OwnBytes wr w.heap.size v (M ++ (bits8 m.length).take c) ∧ Below w.heap.size w wr)
      case atStart => exact ⟨0, by omega, by omega, rfl, by simpa using hown, hB⟩
      case round =>
        obtain ⟨c, rfl, hc8, rfl, hown, hB⟩ := hrel
        by_cases hcl : c < 8
        · have hb := bits8_get m.length c hcl
          have hbl := bits8_length m.length
          obtain ⟨y, hy⟩ : ∃ y, y = (bits8 m.length).getD c 0 := ⟨_, rfl⟩
          have hLL : (M ++ (bits8 m.length).take c) ++ [y] = M ++ (bits8 m.length).take (c + 1) := by
            rw [List.append_assoc, hy, List.take_succ_eq_append_getElem (by omega)]
            simp [List.getD, List.getElem?_eq_getElem (show c < (bits8 m.length).length by omega)]
          have hyv : Value.int .u8 ((m.length : Int) * 8 / 2 ^ (8 * (7 - c)) % 256) = B8 y := by
            have e : 8 * (7 - c) = 56 - 8 * c := by omega
            rw [hy, hb, e, byte_of]
          have hlq : (M ++ (bits8 m.length).take c).length ≤ 140737488355100 := by simp; omega
          generalize M ++ (bits8 m.length).take c = Q at *
          replace hLL := Lib.hid hLL
          replace hyv := Lib.hid hyv
          replace hy := Lib.hid hy
          clear hb hbl
          go_wp2_with (
            at_builtin
            refine wpList_push_byte rfl (.tmp 27) (.tmp 34) rfl w.heap.size _ Q rfl hown 5 _ y hyv.out rfl (by omega) hB.size w.heap.size w hB (Nat.le_refl _) ?_
            intro v4 w4 hown4 hB4)
          go_roundg (8 - (c + 1))
          case measure => omega
          case rel => exact ⟨c + 1, rfl, by omega, by refine congrArg (Value.int .i64) ?_; omega, by rw [← hLL.out]; exact hown4, hB4⟩
        · obtain rfl : c = 8 := by omega
          have hpad : M ++ (bits8 m.length).take 8 = padded m := by
            rw [List.take_of_length_le (by rw [bits8_length]; omega), hM.out, hM1.out, hZ.out]; rfl
          rw [hpad] at hown
          go_wp2
          go_ret
          exact ⟨_, rfl, by rw [List.length_map]; exact hown, hB⟩
end Go.Proofs.YtiidohaibbdgeaaDoor
