/-
  A disk that is data: its files, what is sure, what is loose; its calls. Plain.
-/
import Derived.Test.YtiidohaibbdgeaaDoorTreeL
namespace Go.Proofs.YtiidohaibbdgeaaDoor
open Go

abbrev Bs := List (BitVec 8)

/-- What is not sure yet. -/
inductive Chg where
  | wr (b : Bs)
  | cut (n : Nat)
structure FileM where
  sure : Bs
  loose : List Chg
structure DiskM where
  f0 : FileM
  f1 : FileM
  most : Nat
  off : Bool
  fused : Bool
  left : Int

def Chg.units : Chg → Nat
  | .wr b => b.length
  | .cut _ => 1
/-- So many units of it are done to bytes. -/
def Chg.done (u : Nat) (b : Bs) : Chg → Bs
  | .wr x => b ++ x.take u
  | .cut n => b.take n
def keptL : Bs → List Chg → Nat → Bs
  | b, [], _ => b
  | b, c :: cs, u => if u = 0 then b else keptL (c.done u b) cs (u - c.units)
/-- All is done. -/
def allL : Bs → List Chg → Bs
  | b, [] => b
  | b, .wr x :: cs => allL (b ++ x) cs
  | b, .cut n :: cs => allL (b.take n) cs
def unitsL : List Chg → Nat
  | [] => 0
  | c :: cs => c.units + unitsL cs
theorem keptL_zero (b : Bs) (cs : List Chg) : keptL b cs 0 = b := by cases cs <;> simp [keptL]
theorem allL_none {b : Bs} {cs : List Chg} (h : unitsL cs = 0) : allL b cs = b := by
  induction cs generalizing b with
  | nil => rfl
  | cons c cs ih =>
    cases c with
    | wr x =>
      simp only [unitsL, Chg.units] at h
      have : x = [] := List.eq_nil_of_length_eq_zero (by omega)
      subst this
      rw [allL, List.append_nil]
      exact ih (by omega)
    | cut n => simp only [unitsL, Chg.units] at h; omega
theorem keptL_all {b : Bs} {cs : List Chg} {u : Nat} (h : unitsL cs ≤ u) : keptL b cs u = allL b cs := by
  induction cs generalizing b u with
  | nil => rfl
  | cons c cs ih =>
    by_cases h0 : u = 0
    · subst h0
      rw [keptL_zero, allL_none (by omega)]
    · rw [keptL, if_neg h0]
      simp only [unitsL] at h
      cases c with
      | wr x =>
        simp only [Chg.units] at h
        rw [Chg.done, List.take_of_length_le (by omega), allL, Chg.units]
        exact ih (by omega)
      | cut n =>
        simp only [Chg.units] at h
        rw [Chg.done, allL, Chg.units]
        exact ih (by omega)
theorem allL_append (b : Bs) (cs ds : List Chg) : allL b (cs ++ ds) = allL (allL b cs) ds := by
  induction cs generalizing b with
  | nil => rfl
  | cons c cs ih => cases c <;> simp [allL, ih]
theorem unitsL_append (cs ds : List Chg) : unitsL (cs ++ ds) = unitsL cs + unitsL ds := by
  induction cs with
  | nil => simp [unitsL]
  | cons c cs ih => simp [unitsL, ih]; omega

/-- No text on the way is longer than M. -/
def okL (M : Nat) : Bs → List Chg → Prop
  | b, [] => b.length ≤ M
  | b, .wr x :: cs => b.length ≤ M ∧ okL M (b ++ x) cs
  | b, .cut n :: cs => b.length ≤ M ∧ okL M (b.take n) cs
theorem okL_head {M : Nat} {b : Bs} {cs : List Chg} (h : okL M b cs) : b.length ≤ M := by
  cases cs with
  | nil => exact h
  | cons c cs => cases c <;> exact h.1
theorem okL_all {M : Nat} {b : Bs} {cs : List Chg} (h : okL M b cs) : (allL b cs).length ≤ M := by
  induction cs generalizing b with
  | nil => exact h
  | cons c cs ih => cases c <;> exact ih h.2
theorem okL_kept {M : Nat} {b : Bs} {cs : List Chg} {u : Nat} (h : okL M b cs) : (keptL b cs u).length ≤ M := by
  induction cs generalizing b u with
  | nil => exact h
  | cons c cs ih =>
    rw [keptL]
    split
    · exact okL_head h
    · cases c with
      | wr x =>
        rw [Chg.done, Chg.units]
        by_cases hx : x.length ≤ u
        · rw [List.take_of_length_le hx]; exact ih h.2
        · rw [show u - x.length = 0 by omega, keptL_zero]
          have := okL_head h.2
          simp only [List.length_append, List.length_take] at this ⊢
          omega
      | cut n => exact ih h.2
theorem okL_snoc {M : Nat} {b : Bs} {cs : List Chg} {c : Chg} (h : okL M b cs) (hc : okL M (allL b cs) [c]) : okL M b (cs ++ [c]) := by
  induction cs generalizing b with
  | nil => exact hc
  | cons d cs ih => cases d <;> exact ⟨h.1, ih h.2 hc⟩
theorem okL_units {M : Nat} {b : Bs} {cs : List Chg} (h : okL M b cs) : unitsL cs ≤ cs.length * (M + 1) := by
  induction cs generalizing b with
  | nil => simp [unitsL]
  | cons c cs ih =>
    have h2 : c.units ≤ M + 1 := by
      cases c with
      | wr x =>
        have := okL_head h.2
        simp only [List.length_append] at this
        simp only [Chg.units]; omega
      | cut n => simp only [Chg.units]; omega
    have h3 : unitsL cs ≤ cs.length * (M + 1) := by cases c <;> exact ih h.2
    simp only [unitsL, List.length_cons]
    rw [Nat.add_mul]
    omega

def FileM.stands (F : FileM) : Bs := allL F.sure F.loose
def FileM.settle (F : FileM) (u : Nat) : FileM := ⟨keptL F.sure F.loose u, []⟩
def FileM.put (F : FileM) (c : Chg) : FileM := ⟨F.sure, F.loose ++ [c]⟩
def FileM.ok (M : Nat) (F : FileM) : Prop := okL M F.sure F.loose
theorem FileM.stands_put (F : FileM) (c : Chg) : (F.put c).stands = allL F.stands [c] := allL_append _ _ _

def DiskM.file (D : DiskM) (f : Nat) : FileM := if f = 0 then D.f0 else D.f1
def DiskM.with (D : DiskM) (f : Nat) (F : FileM) : DiskM := if f = 0 then { D with f0 := F } else { D with f1 := F }
def DiskM.room (D : DiskM) : Nat := D.most - D.f0.stands.length - D.f1.stands.length
/-- What bounds all. -/
structure DiskM.ok (D : DiskM) (cnt : Nat) : Prop where
  most1 : 1 ≤ D.most
  most2 : D.most ≤ 4194304
  ok0 : D.f0.ok D.most
  ok1 : D.f1.ok D.most
  n0 : D.f0.loose.length ≤ cnt
  n1 : D.f1.loose.length ≤ cnt
  cnt : cnt ≤ 1099511627776
  left0 : -9223372036854775808 ≤ D.left
  left1 : D.left ≤ 9223372036854775807

def DiskM.new (most : Nat) : DiskM := ⟨⟨[], []⟩, ⟨[], []⟩, most, false, false, 0⟩
def DiskM.may (D : DiskM) (f : Int) : Int := if D.off then 8 else if f < 0 ∨ 2 ≤ f then 1 else 0
/-- A call that is counted. -/
def DiskM.goes (D : DiskM) (k : DiskM → DiskM) : DiskM × Int :=
  if D.fused = true ∧ D.left = 0 then ({ D with off := true }, 8) else (k { D with left := RowKit.wrap64 (D.left - 1) }, 0)
def DiskM.write (D : DiskM) (f : Int) (b : Bs) : DiskM × Int :=
  if D.may f ≠ 0 then (D, D.may f) else if D.room < b.length then (D, 7) else D.goes fun D => D.with f.toNat ((D.file f.toNat).put (.wr b))
def DiskM.cut (D : DiskM) (f n : Int) : DiskM × Int :=
  if D.may f ≠ 0 then (D, D.may f) else if n < 0 ∨ ((D.file f.toNat).stands.length : Int) < n then (D, 1) else D.goes fun D => D.with f.toNat ((D.file f.toNat).put (.cut n.toNat))
def DiskM.sync (D : DiskM) (f : Int) : DiskM × Int :=
  if D.may f ≠ 0 then (D, D.may f) else D.goes fun D => D.with f.toNat ((D.file f.toNat).settle 9223372036854775807)
def DiskM.read (D : DiskM) (f : Int) : Bs × Int :=
  if D.may f ≠ 0 then ([], D.may f) else ((D.file f.toNat).stands, 0)
def DiskM.fuse (D : DiskM) (n : Int) : DiskM × Int :=
  if D.off then (D, 8) else ({ D with fused := decide (0 ≤ n), left := n }, 0)
def DiskM.down (D : DiskM) : DiskM × Int :=
  if D.off then (D, 8) else ({ D with off := true }, 0)
def pickAt (picks : List Int) (f : Nat) : Nat := (picks.getD f 0).toNat
def DiskM.on (D : DiskM) (picks : List Int) : DiskM × Int :=
  if D.off = false then (D, 3) else ({ D with f0 := D.f0.settle (pickAt picks 0), f1 := D.f1.settle (pickAt picks 1), off := false, fused := false }, 0)
end Go.Proofs.YtiidohaibbdgeaaDoor
