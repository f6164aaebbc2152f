/-
  Frames of records (vault.framed, vault.frames).
-/
import Derived.Test.YtiidohaibbdgeaaDoorVConcat
namespace Go.Proofs.YtiidohaibbdgeaaDoor
open Go Go.RowKit

set_option maxRecDepth 100000 in
set_option maxHeartbeats 1000000 in
theorem framed_any (B : Nat) (g k : Nat) (hk : k ≤ 9223372036854775807) (s : Bs) (hsl : s.length ≤ 1099511627776) (a : Option Addr) (cap : Nat) (hn : a = none → cap = 0) (hc : s.length ≤ cap) (w : World) (hB : B ≤ w.heap.size) (hs : BytesAt B w a s) (hT : Tab w) :
    Calls Tryd.prog 69 #[.int .u64 g, .int .i64 k, .slice a s.length cap] w (BytesRet (framedL g k s) w) := by
  have h1 := fun wx => low_any g 8 (by omega) wx
  have h2 := fun wx => low_any k 8 (by omega) wx
  have e1 := lowL_length g 8
  have e2 := lowL_length k 8
  have hT0 := Lib.hid hT
  have hs0 := Lib.hid hs
  have hh : framedL g k s = checkL (lowL g 8 ++ lowL k 8 ++ s) := rfl
  rw [hh]
  generalize lowL g 8 = A at *
  generalize lowL k 8 = C at *
  have hcat : [A, C, s].flatten = A ++ C ++ s := by simp
  have hbk : bulkL [A, C, s] = A.length + (C.length + s.length) := by simp [bulkL]
  have hco := fun (a : Option Addr) (cap : Nat) (wx : World) hB h => concat_any B [A, C, s] (by simp) (by omega) (by omega) a cap wx hB h
  rw [hcat] at hco
  have hDl : (A ++ C ++ s).length = A.length + C.length + s.length := by simp; omega
  generalize A ++ C ++ s = D at *
  have hck := fun (a : Option Addr) (cap : Nat) (wx : World) hr hc hT => check_any D a cap wx hr hc (by omega) hT
  have le1 : A.length ≤ 8 := by omega
  have le2 : C.length ≤ 8 := by omega
  replace h1 := Lib.hid h1
  replace h2 := Lib.hid h2
  replace hco := Lib.hid hco
  replace hck := Lib.hid hck
  clear hT hs hh hcat hbk hDl e1 e2
  go_enter Tryd.func69, Tryd.ntmps69
  go_wp2_with (first
    | (go_at_call_of 68 (Value.int .u64 g); refine (h1.out _).mono ?_; rintro e w1 ⟨v1, rfl, hown1, hB1⟩; obtain ⟨a1, c1, rfl, hn1, hl1, _, hb1⟩ := BytesAt.of_own (B := B) hown1; clear hown1)
    | (go_at_call 68
       refine (h2.out _).mono ?_
       rintro e w2 ⟨v2, rfl, hown2, hB2⟩
       obtain ⟨a2, c2, rfl, hn2, hl2, _, hb2⟩ := BytesAt.of_own (B := B) hown2
       clear hown2
       have hB2' := hB1.trans (hB2.mono hB1.size)
       have hL2 := Lies.new (B := B) hB2 (Nat.le_trans hB hB1.size)
       have hX : Blk (w2.alloc (.cells #[.slice a1 A.length c1, .slice a2 C.length c2, .slice a s.length cap] 35)) w2.heap.size 35 #[.slice a1 A.length c1, .slice a2 C.length c2, .slice a s.length cap] := Blk.new w2 _ _
       have hB3 : Below w.heap.size w (w2.alloc (.cells #[.slice a1 A.length c1, .slice a2 C.length c2, .slice a s.length cap] 35)) := hB2'.alloc hB2'.size _
       have hL3 := (Lies.refl B w2).alloc (Nat.le_trans hB hB2'.size) (.cells #[.slice a1 A.length c1, .slice a2 C.length c2, .slice a s.length cap] 35)
       have hrec : RecsAt B (w2.alloc (.cells #[.slice a1 A.length c1, .slice a2 C.length c2, .slice a s.length cap] 35)) (some ⟨w2.heap.size, 0, none⟩) [A, C, s] := fun _ => by
         refine ⟨w2.heap.size, 0, rfl, .of hX, fun j hj => ?_⟩
         match j, hj with
         | 0, _ => exact ⟨_, hX.cell 0, a1, c1, rfl, hn1, hl1, (hb1.rest hL2).rest hL3⟩
         | 1, _ => exact ⟨_, hX.cell 1, a2, c2, rfl, hn2, hl2, hb2.rest hL3⟩
         | 2, _ => exact ⟨_, hX.cell 2, a, cap, rfl, hn, hc, hs0.out.rest (Lies.new hB3 hB)⟩)
    | (go_at_call 77
       refine (hco.out _ _ _ (Nat.le_trans hB hB3.size) hrec).mono ?_
       rintro e w4 ⟨v4, rfl, hown4, hB4⟩
       obtain ⟨a4, c4, rfl, hn4, hl4, _, hb4⟩ := BytesAt.of_own (B := B) hown4
       have hB4' := hB3.trans (hB4.mono hB3.size))
    | (go_at_call 58
       refine (hck.out a4 c4 w4 hb4.reads hl4 (hT0.out.grown hB4')).mono ?_
       rintro e w5 ⟨a5, c5, rfl, hn5, hl5, hb5, hB5⟩))
  go_ret
  exact ⟨a5, c5, rfl, hn5, hl5, hb5, hB4'.trans (hB5.mono hB4'.size)⟩

theorem OwnBytes.apart {w w' : World} {base : Nat} {v : Value} {xs : Bs} {row : Option Nat} (h : OwnBytes w base v xs) (hg : w.grownBy w' row) (hr : ∀ r, row = some r → r < base) : OwnBytes w' base v xs := by
  refine World.ownsRow.kept h hg ?_
  cases hv : v.ownBlock with
  | none => exact .inl rfl
  | some k =>
    refine .inr fun e => ?_
    have h1 := own_ge h k hv
    have h2 := hr k e.symm
    omega
theorem OwnBytes.bytes {w : World} {base cap : Nat} {a : Option Addr} {xs : Bs} (h : OwnBytes w base (.slice a xs.length cap) xs) (B : Nat) : BytesAt B w a xs := by
  obtain ⟨a', c', he, _, _, _, hb⟩ := BytesAt.of_own (B := B) h
  injection he with h1 _ _
  rw [h1]
  exact hb
theorem sizesL_take (l : List Bs) (k : Nat) : sizesL (l.take k) ≤ sizesL l := by
  have := sizesL_append (l.take k) (l.drop k)
  rw [List.take_append_drop] at this
  omega
theorem framesL_snoc (g k : Nat) (l : List Bs) (r : Bs) : framesL g k (l ++ [r]) = framesL g k l ++ frameL g (k + l.length) r := by
  rw [framesL_append]; simp [framesL]

set_option maxRecDepth 100000 in
set_option maxHeartbeats 1000000 in
theorem frames_any (B : Nat) (g k0 : Nat) (l : List Bs) (hk0 : k0 + l.length ≤ 9223372036854775807) (hll : l.length ≤ 1099511627776) (hsz : sizesL l ≤ 1099511627776) (a : Option Addr) (cap : Nat) (w : World) (hB : B ≤ w.heap.size) (h : RecsAt B w a l) (hT : Tab w) :
    Calls Tryd.prog 36 #[.int .u64 g, .int .i64 k0, .slice a l.length cap] w (OwnRet (framesL g k0 l) w) := by
  have hr0 := Lib.hid h
  have hT0 := Lib.hid hT
  have hst := sizesL_take l
  replace hst := Lib.hid hst
  clear h hT
  go_enter Tryd.func36, Tryd.ntmps36
  go_wp2_with (fail)
  go_loopw [6, 12] (fun v i wr => ∃ k : Nat, k ≤ l.length ∧ i = .int .i64 k ∧ OwnBytes wr w.heap.size v (framesL g k0 (l.take k)) ∧ Below w.heap.size w wr) (fun _ i _ => l.length - (intOf i).toNat)
  case atStart => exact ⟨0, by omega, rfl, OwnBytes.nothing _ _, Below.refl _ _⟩
  case round =>
    obtain ⟨k, hk, rfl, hown, hBr⟩ := hrel
    by_cases hlt : k < l.length
    · obtain ⟨b, o, rfl, _, hc⟩ := (hr0.out.lies (Lies.new hBr hB)) (by omega)
      obtain ⟨v, hv, xa, xc, rfl, hx1, hx2, hx3⟩ := hc k hlt
      have hkl : (k : Int) < (l.length : Int) := by omega
      have ht := take_one hlt ([] : Bs)
      have hS : framesL g k0 (l.take (k + 1)) = framesL g k0 (l.take k) ++ frameL g (k0 + k) (l.getD k []) := by rw [ht, framesL_snoc, List.length_take_of_le hk]
      have hl1 := hst.out (k + 1)
      rw [← framesL_length g k0, hS, List.length_append, frameL_length] at hl1
      have hBr' := Nat.le_trans hB hBr.size
      generalize l.getD k [] = X at *
      have hlo := fun wx => low_any X.length 4 (by omega) wx
      have hlol := lowL_length X.length 4
      have hfr := fun (a : Option Addr) (cap : Nat) hn hc wx hB hs hT => framed_any B g (k0 + k) (by omega) (lowL X.length 4 ++ X) (by simp [lowL_length]; omega) a cap hn hc wx hB hs hT
      have hfl : (framedL g (k0 + k) (lowL X.length 4 ++ X)).length = 32 := checkL_length _
      have hfe : frameL g (k0 + k) X = (lowL X.length 4 ++ X) ++ framedL g (k0 + k) (lowL X.length 4 ++ X) := rfl
      rw [hfe] at hS
      generalize framedL g (k0 + k) (lowL X.length 4 ++ X) = C at *
      generalize lowL X.length 4 = A at *
      obtain ⟨S, hSe⟩ : ∃ S, S = A ++ X := ⟨_, rfl⟩
      rw [← hSe] at hfr hS
      have hSl : S.length = A.length + X.length := by rw [hSe]; simp
      obtain ⟨T, hTe⟩ : ∃ T, T = framesL g k0 (l.take k) := ⟨_, rfl⟩
      rw [← hTe] at hS hown hl1
      have le1 : A.length ≤ 4 := by omega
      have le2 : C.length ≤ 32 := by omega
      have le3 : S.length ≤ 1099511627780 := by omega
      have le4 : T.length ≤ 1099511627776 := by omega
      have le5 : X.length ≤ 1099511627776 := by omega
      have hS0 := Lib.hid hS
      have hSe0 := Lib.hid hSe
      replace hlo := Lib.hid hlo
      replace hfr := Lib.hid hfr
      have hk1 : (k0 : Int) + (k : Int) ≤ 9223372036854775807 := by omega
      have hk2 : IntKind.i64.wrap ((k0 : Int) + (k : Int)) = (k0 : Int) + (k : Int) := IntWalk.i64_in _ (by omega)
      clear hc ht hS hTe hfe hfl hlol hSe hSl hl1
      go_wp2_with (first
        | (go_at_call 68
           refine (hlo.out _).mono ?_
           rintro e w1 ⟨v1, rfl, hown1, hB1⟩
           have hL1 := Lies.new (B := B) hB1 hBr'
           have hx4 := hx3.rest hL1
           have hB1' := hBr.trans (hB1.mono hBr.size)
           have hownT := hown.on hB1)
        | (at_builtin
           refine wpList_grow_bytes rfl (.tmp 20) (.tmp 21) rfl wr.heap.size v1 A rfl hown1 xa xc w1.heap.size X rfl hx4.reads hx1 (by omega) hB1.size wr.heap.size wr hB1 (Nat.le_refl _) ?_
           intro v2 w2 hown2 hg2 hB2
           rw [← hSe0.out] at hown2
           obtain ⟨a2, c2, rfl, hn2, hl2, _, hb2⟩ := BytesAt.of_own (B := B) hown2
           have hB2' := hBr.trans (hB2.mono hBr.size)
           have hownT2 := hown.on hB2)
        | (at_builtin
           refine wpList_grow_bytes rfl (.tmp 23) (.tmp 24) rfl w.heap.size u6 T rfl hownT2 a2 c2 w2.heap.size S rfl hb2.reads hn2 (by omega) hB2'.size w.heap.size w hB2' (Nat.le_refl _) ?_
           intro v3 w3 hown3 hg3 hB3
           have hown2' := hown2.apart hg3 (fun r hr => by obtain ⟨cur, hh, _⟩ := owns_block hown hr; exact heap_lt hh))
        | (go_at_call 69
           refine (hfr.out a2 c2 hn2 hl2 w3 (Nat.le_trans hB hB3.size) (hown2'.bytes B) (hT0.out.grown hB3)).mono ?_
           rintro e w4 ⟨a4, c4, rfl, hn4, hl4, hb4, hB4⟩
           have hB4' := hB3.trans (hB4.mono hB3.size)
           have hown3' := hown3.on hB4)
        | (at_builtin
           refine wpList_grow_bytes rfl (.tmp 25) (.tmp 31) rfl w.heap.size v3 (T ++ S) rfl hown3' a4 c4 w4.heap.size C rfl (hb4 B).reads hn4 (by simp; omega) hB4'.size w.heap.size w hB4' (Nat.le_refl _) ?_
           intro v5 w5 hown5 _ hB5))
      go_roundw
      case rel => exact ⟨k + 1, by omega, by go_num, by rw [hS0.out, ← List.append_assoc]; exact hown5, hB5⟩
      case measure => simp [intOf]; omega
    · obtain rfl : k = l.length := by omega
      rw [List.take_length] at hown
      go_wp2_with (fail)
      go_ret
      exact ⟨_, rfl, hown, hBr⟩
end Go.Proofs.YtiidohaibbdgeaaDoor
