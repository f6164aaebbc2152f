/-
  A file's loose changes become sure (disk.file's settle).
-/
import Derived.Test.YtiidohaibbdgeaaDoorDKept
namespace Go.Proofs.YtiidohaibbdgeaaDoor
open Go Go.RowKit

/-- Behind a settle: the block's two cells. -/
def SettleRet (g o : Nat) (t : TypeId) (cs : Array Value) (xs : Bs) (w : World) (e : Ending) (w' : World) : Prop :=
  ∃ v, e = .returned (.tuple #[]) ∧ OwnBytes w' w.heap.size v xs ∧ Blk w' g t ((cs.setIfInBounds o v).setIfInBounds (o + 1) (.slice none 0 0)) ∧ w.grownBy w' (some g)

theorem grownBy_of_below {w w1 : World} {g : Nat} (h : Below w.heap.size w w1) : w.grownBy w1 (some g) := ⟨h.os, h.tape, h.output, h.size, fun k hk _ => h.block k hk⟩
theorem grownBy_set {w w1 : World} {g : Nat} (h : w.grownBy w1 (some g)) (o : Nat) (u : Value) : w.grownBy (w1.setCell ⟨g, o, none⟩ u) (some g) :=
  ⟨h.os, h.tape, h.output, by simpa using h.size, fun k hk hne => by
    rw [Below.heap_setCell _ _ _ _ (fun e => hne (by rw [e]))]
    exact h.block k hk hne⟩

theorem grownBy_setCell (w : World) (g o : Nat) (u : Value) : w.grownBy (w.setCell ⟨g, o, none⟩ u) (some g) := grownBy_set ⟨rfl, rfl, rfl, Nat.le_refl _, fun _ _ _ => rfl⟩ o u
theorem OwnBytes.far {w : World} {base g : Nat} {v : Value} {L : Bs} (h : OwnBytes w base v L) (hg : g < base) (o : Nat) (u : Value) : OwnBytes (w.setCell ⟨g, o, none⟩ u) base v L := by
  refine World.ownsRow.kept h (grownBy_setCell w g o u) ?_
  cases hv : v.ownBlock with
  | none => exact .inl rfl
  | some k =>
    refine .inr fun e => ?_
    cases e
    have := own_ge h g hv
    omega

set_option maxRecDepth 100000 in
set_option maxHeartbeats 1000000 in
theorem settle_any (B : Nat) (F : FileM) (M : Nat) (hM : M ≤ 4194304) (hF : F.ok M) (g o : Nat) (t : TypeId) (cs : Array Value) (vs vl : Value) (u : Int) (hu : u ≤ 9223372036854775807) (hlen : F.loose.length ≤ 1099511627776) (w : World)
    (hb : Blk w g t cs) (hs : cs[o]? = some vs) (hl : cs[o + 1]? = some vl) (hat : FileAt B w F vs vl) :
    Calls Tryd.prog 48 #[.pointer (some ⟨g, o, none⟩), .int .i64 u] w (SettleRet g o t cs (keptL F.sure F.loose u.toNat) w) := by
  have hk := kept_any B F M hM hF g o vs vl u hu hlen w (by rw [hb.cell]; exact hs) (by rw [hb.cell]; exact hl) hat
  replace hk := Lib.hid hk
  have hg := hb.lt
  have h1 : o < cs.size := (Array.getElem?_eq_some_iff.1 hs).1
  have h2 : o + 1 < cs.size := (Array.getElem?_eq_some_iff.1 hl).1
  have hb0 := Lib.hid hb
  have hs0 := Lib.hid hs
  have hl0 := Lib.hid hl
  clear hs hl hat hF hb
  go_enter Tryd.func48, Tryd.ntmps48
  go_wp2_with (go_at_call 70; refine hk.out.mono ?_; rintro e w1 ⟨v1, rfl, hown1, hB1⟩; obtain ⟨a1, c1, rfl, _, _, _, _⟩ := BytesAt.of_own (B := 0) hown1; have hb1 := hb0.out.below hB1 hg; have hf0 := hb1.free o; have hf1 := hb1.free (o + 1); have hc0 := (hb1.cell o).trans hs0.out; have hc1 := (hb1.cell (o + 1)).trans hl0.out)
  go_end0
  refine ⟨.slice a1 (keptL F.sure F.loose u.toNat).length c1, rfl, ?_, ?_, ?_⟩
  · exact (hown1.far hg o _).far hg (o + 1) _
  · exact (hb1.set o _).set (o + 1) _
  · exact grownBy_set (grownBy_set (grownBy_of_below hB1) o _) (o + 1) _
end Go.Proofs.YtiidohaibbdgeaaDoor
