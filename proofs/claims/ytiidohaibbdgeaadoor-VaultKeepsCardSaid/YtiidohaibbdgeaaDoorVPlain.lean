/-
  A vault's text, read back: frames that stand whole, frames that are cut, heads. Plain.
-/
import Derived.Test.YtiidohaibbdgeaaDoorVModel
namespace Go.Proofs.YtiidohaibbdgeaaDoor
open Go

theorem lowL_num8 {g : Nat} (h : g < 18446744073709551616) : numL (lowL g 8) = g := by
  rw [numL_lowL]; exact Nat.mod_eq_of_lt (by simpa using h)
theorem lowL_num4 {n : Nat} (h : n < 4294967296) : numL (lowL n 4) = n := by
  rw [numL_lowL]; exact Nat.mod_eq_of_lt (by simpa using h)

theorem take_app {α : Type} {x y : List α} {n : Nat} (h : x.length = n) : (x ++ y).take n = x := by subst h; simp
theorem drop_app {α : Type} {x y : List α} {n : Nat} (h : x.length = n) : (x ++ y).drop n = y := by subst h; simp

/-- What stands at the front, if a frame does. -/
theorem firstL_frame {g k : Nat} {r x : Bs} (hr : r.length ≤ 32768) : firstL (frameL g k r ++ x) g k = some r := by
  have h1 : (frameL g k r ++ x).take 4 = lowL r.length 4 := by
    unfold frameL
    rw [List.append_assoc, List.append_assoc]
    exact take_app (lowL_length _ _)
  have h2 : numL (lowL r.length 4) = r.length := lowL_num4 (by omega)
  have h3 : (frameL g k r ++ x).take (r.length + 4) = lowL r.length 4 ++ r := by
    unfold frameL
    rw [List.append_assoc]
    exact take_app (by simp [lowL_length]; omega)
  have h4 : ((frameL g k r ++ x).drop (r.length + 4)).take 32 = framedL g k (lowL r.length 4 ++ r) := by
    unfold frameL
    rw [List.append_assoc, drop_app (by simp [lowL_length]; omega)]
    exact take_app (by simp [framedL, checkL_length])
  have hl := frameL_length g k r
  unfold firstL
  rw [h1, h2, h3, h4]
  rw [if_neg (by simp [hl]; omega), if_neg (by simp [hl]; omega), if_pos rfl, drop_app (lowL_length _ _)]
theorem firstL_some {b : Bs} {g k : Nat} {r : Bs} (h : firstL b g k = some r) : r.length ≤ 32768 ∧ b = frameL g k r ++ b.drop (r.length + 36) := by
  unfold firstL at h
  split at h
  · cases h
  rename_i h1
  split at h
  · cases h
  rename_i h2
  split at h
  · rename_i h3
    injection h with h
    have hn : numL (b.take 4) + 36 ≤ b.length ∧ numL (b.take 4) ≤ 32768 := by omega
    generalize hN : numL (b.take 4) = n at *
    have hrl : r.length = n := by rw [← h]; simp; omega
    refine ⟨by omega, ?_⟩
    have hlow : lowL n 4 = b.take 4 := by
      have := lowL_numL (b.take 4)
      rw [hN, List.length_take, Nat.min_eq_left (by omega)] at this
      exact this
    have hfr : lowL r.length 4 ++ r = b.take (n + 4) := by
      rw [hrl, hlow, ← h]
      have := List.take_append_drop 4 (b.take (n + 4))
      rw [List.take_take, Nat.min_eq_left (by omega)] at this
      exact this
    unfold frameL
    rw [hfr, h3, hrl]
    have e1 := List.take_append_drop (n + 4) b
    have e2 := List.take_append_drop 32 (b.drop (n + 4))
    rw [List.drop_drop] at e2
    rw [List.append_assoc, show n + 36 = n + 4 + 32 by omega, e2, e1]
  · cases h
theorem firstL_nil (g k : Nat) : firstL [] g k = none := by simp [firstL]
/-- A frame that is cut is none. -/
theorem firstL_part {g k : Nat} {r x : Bs} {j : Nat} (hr : r.length ≤ 32768) (hj : j < r.length + 36) : firstL ((frameL g k r ++ x).take j) g k = none := by
  have hl := frameL_length g k r
  unfold firstL
  by_cases h36 : j < 36
  · rw [if_pos (by simp; omega)]
  · have h1 : ((frameL g k r ++ x).take j).take 4 = lowL r.length 4 := by
      rw [List.take_take, Nat.min_eq_left (by omega)]
      unfold frameL
      rw [List.append_assoc, List.append_assoc]
      exact take_app (lowL_length _ _)
    rw [h1, lowL_num4 (by omega)]
    split
    · rfl
    · rw [if_pos (by right; simp; omega)]

/-- The records at the front, from the k-th on. -/
def recsK (g k : Nat) (b : Bs) : List Bs := wholeL g (b.length + 1) b k
theorem recordsL_eq (g : Nat) (b : Bs) : recordsL g b = recsK g 0 b := rfl
theorem wholeL_fuel {g : Nat} : ∀ {d e : Nat} {b : Bs} {k : Nat}, b.length < d → b.length < e → wholeL g d b k = wholeL g e b k
  | 0, _, _, _, h, _ => by omega
  | _ + 1, 0, _, _, _, h => by omega
  | d + 1, e + 1, b, k, hd, he => by
    rw [wholeL, wholeL]
    cases hf : firstL b g k with
    | none => rfl
    | some r =>
      simp only
      congr 1
      have hb : 36 ≤ b.length := by
        have := congrArg List.length (firstL_some hf).2
        rw [List.length_append, frameL_length] at this
        omega
      exact wholeL_fuel (by simp; omega) (by simp; omega)
theorem recsK_none {g k : Nat} {b : Bs} (h : firstL b g k = none) : recsK g k b = [] := by unfold recsK; rw [wholeL, h]
theorem recsK_some {g k : Nat} {b r : Bs} (h : firstL b g k = some r) : recsK g k b = r :: recsK g (k + 1) (b.drop (r.length + 36)) := by
  unfold recsK
  rw [wholeL, h]
  simp only
  congr 1
  have hb : 36 ≤ b.length := by
    have := congrArg List.length (firstL_some h).2
    rw [List.length_append, frameL_length] at this
    omega
  exact wholeL_fuel (by simp; omega) (by simp)
theorem recsK_nil (g k : Nat) : recsK g k [] = [] := recsK_none (firstL_nil g k)
theorem recsK_frames {g : Nat} : ∀ {l : List Bs} {k : Nat} {x : Bs}, (∀ r ∈ l, r.length ≤ 32768) → recsK g k (framesL g k l ++ x) = l ++ recsK g (k + l.length) x
  | [], _, _, _ => by simp [framesL]
  | r :: l, k, x, h => by
    have hf := firstL_frame (g := g) (k := k) (x := framesL g (k + 1) l ++ x) (h r (by simp))
    rw [framesL, List.append_assoc, recsK_some hf, drop_app (frameL_length g k r), recsK_frames (fun q hq => h q (by simp [hq]))]
    rw [List.length_cons, List.cons_append, show k + 1 + l.length = k + (l.length + 1) by omega]
theorem recsK_inv {g : Nat} : ∀ (n : Nat) (b : Bs) (k : Nat), b.length ≤ n → ∃ rest, b = framesL g k (recsK g k b) ++ rest ∧ firstL rest g (k + (recsK g k b).length) = none ∧ ∀ r ∈ recsK g k b, r.length ≤ 32768
  | 0, b, k, h => by
    obtain rfl := List.eq_nil_of_length_eq_zero (Nat.le_zero.1 h)
    refine ⟨[], ?_⟩
    rw [recsK_nil]
    simp [framesL, firstL_nil]
  | n + 1, b, k, h => by
    cases hf : firstL b g k with
    | none =>
      refine ⟨b, ?_⟩
      rw [recsK_none hf]
      simp [framesL, hf]
    | some r =>
      obtain ⟨h1, h2⟩ := firstL_some hf
      have hb : 36 ≤ b.length := by
        have := congrArg List.length h2
        rw [List.length_append, frameL_length] at this
        omega
      obtain ⟨rest, k1, k2, k3⟩ := recsK_inv n (b.drop (r.length + 36)) (k + 1) (by simp; omega)
      rw [recsK_some hf]
      refine ⟨rest, ?_, ?_, ?_⟩
      · rw [framesL, List.append_assoc, ← k1]; exact h2
      · rw [List.length_cons, show k + ((recsK g (k + 1) (b.drop (r.length + 36))).length + 1) = k + 1 + (recsK g (k + 1) (b.drop (r.length + 36))).length by omega]; exact k2
      · intro q hq
        rcases List.mem_cons.1 hq with rfl | hq
        · exact h1
        · exact k3 q hq

/-- How many whole frames of these records so many bytes hold. -/
def fitL : List Bs → Nat → Nat
  | [], _ => 0
  | r :: l, j => if r.length + 36 ≤ j then 1 + fitL l (j - (r.length + 36)) else 0
theorem fitL_le : ∀ (l : List Bs) (j : Nat), fitL l j ≤ l.length
  | [], _ => Nat.le_refl _
  | r :: l, j => by
    unfold fitL
    split
    · have := fitL_le l (j - (r.length + 36)); simp; omega
    · omega
theorem fitL_all : ∀ {l : List Bs} {j : Nat}, sizesL l ≤ j → fitL l j = l.length
  | [], _, _ => rfl
  | r :: l, j, h => by
    rw [sizesL] at h
    unfold fitL
    rw [if_pos (by omega), fitL_all (by omega), List.length_cons]; omega
theorem fitL_lt : ∀ {l : List Bs} {j : Nat}, j < sizesL l → fitL l j < l.length
  | [], _, h => by simp [sizesL] at h
  | r :: l, j, h => by
    rw [sizesL] at h
    unfold fitL
    split
    · have := fitL_lt (l := l) (j := j - (r.length + 36)) (by omega); rw [List.length_cons]; omega
    · simp
theorem recsK_part {g : Nat} : ∀ {l : List Bs} {k j : Nat}, (∀ r ∈ l, r.length ≤ 32768) → recsK g k ((framesL g k l).take j) = l.take (fitL l j)
  | [], k, j, _ => by simp [framesL, fitL, recsK_nil]
  | r :: l, k, j, h => by
    unfold fitL
    rw [framesL]
    split
    · rename_i hj
      have hl := frameL_length g k r
      rw [List.take_append, List.take_of_length_le (by omega), hl, recsK_some (firstL_frame (h r (by simp))), drop_app hl, recsK_part (fun q hq => h q (by simp [hq])), show 1 + fitL l (j - (r.length + 36)) = fitL l (j - (r.length + 36)) + 1 by omega, List.take_succ_cons]
    · rename_i hj
      rw [recsK_none (firstL_part (h r (by simp)) (by omega)), List.take_zero]
theorem recsK_tail {g : Nat} {l m : List Bs} {k j : Nat} (hl : ∀ r ∈ l, r.length ≤ 32768) (hm : ∀ r ∈ m, r.length ≤ 32768) : recsK g k (framesL g k l ++ (framesL g (k + l.length) m).take j) = l ++ m.take (fitL m j) := by
  rw [recsK_frames hl, recsK_part hm]

theorem lookL_nil (f : Nat) : lookL f [] = none := by simp [lookL]
/-- Behind a head. -/
theorem lookL_head {f g n : Nat} {x : Bs} (h1 : 1 ≤ g) (h2 : g ≤ 4611686018427387904) (h3 : g % 2 = f) (hn : n < 4294967296) : lookL f (headL g n ++ x) = if (recsK g 0 x).length < n then none else some (g, recsK g 0 x) := by
  have hl := headL_length g n
  have e1 : (headL g n ++ x).take 12 = lowL g 8 ++ lowL n 4 := by
    unfold headL; rw [List.append_assoc]; exact take_app (by simp [lowL_length])
  have e2 : ((headL g n ++ x).drop 12).take 32 = checkL (lowL g 8 ++ lowL n 4) := by
    unfold headL; rw [List.append_assoc, drop_app (by simp [lowL_length])]; exact take_app (checkL_length _)
  have e3 : (headL g n ++ x).take 8 = lowL g 8 := by
    unfold headL; rw [List.append_assoc, List.append_assoc]; exact take_app (lowL_length _ _)
  have e4 : ((headL g n ++ x).drop 8).take 4 = lowL n 4 := by
    unfold headL; rw [List.append_assoc, List.append_assoc, drop_app (lowL_length _ _)]; exact take_app (lowL_length _ _)
  have e5 : (headL g n ++ x).drop 44 = x := drop_app hl
  unfold lookL
  rw [e1, e2, e3, e4, e5, lowL_num8 (by omega), lowL_num4 hn, recordsL_eq]
  rw [if_neg (by simp [hl]), if_neg (by simp), if_neg (by omega)]
theorem lookL_part_head {f g n j : Nat} {x : Bs} (hj : j < 44) : lookL f ((headL g n ++ x).take j) = none := by
  unfold lookL
  rw [if_pos (by simp; omega)]
/-- What a sound file is made of. -/
theorem lookL_some {f g : Nat} {b : Bs} {l : List Bs} (h : lookL f b = some (g, l)) : ∃ n rest, n ≤ l.length ∧ n < 4294967296 ∧ b = headL g n ++ (framesL g 0 l ++ rest) ∧ firstL rest g l.length = none ∧ (∀ r ∈ l, r.length ≤ 32768) ∧ 1 ≤ g ∧ g ≤ 4611686018427387904 ∧ g % 2 = f := by
  unfold lookL at h
  split at h
  · cases h
  rename_i h1
  split at h
  · cases h
  rename_i h2
  split at h
  · cases h
  rename_i h3
  split at h
  · cases h
  rename_i h4
  injection h with h
  injection h with hg hl
  rw [recordsL_eq] at h4 hl
  rw [hg] at h3 h4 hl
  have h2' := Classical.not_not.1 h2
  obtain ⟨rest, k1, k2, k3⟩ := recsK_inv (g := g) (b.drop 44).length (b.drop 44) 0 (Nat.le_refl _)
  rw [hl] at k1 k2 k3 h4
  have hlow8 : lowL g 8 = b.take 8 := by
    have := lowL_numL (b.take 8)
    rw [hg, List.length_take, Nat.min_eq_left (by omega)] at this
    exact this
  have hl4 : ((b.drop 8).take 4).length = 4 := by simp; omega
  have hlow4 : lowL (numL ((b.drop 8).take 4)) 4 = (b.drop 8).take 4 := by
    have := lowL_numL ((b.drop 8).take 4)
    rw [hl4] at this
    exact this
  have hn4 := numL_lt ((b.drop 8).take 4)
  rw [hl4] at hn4
  refine ⟨numL ((b.drop 8).take 4), rest, by omega, by simpa using hn4, ?_, by simpa using k2, k3, by omega, by omega, by omega⟩
  have h12 : b.take 8 ++ (b.drop 8).take 4 = b.take 12 := by
    have := List.take_append_drop 8 (b.take 12)
    rw [List.take_take, List.drop_take] at this
    simpa using this
  unfold headL
  rw [hlow8, hlow4, h12, h2', ← k1]
  have e1 := List.take_append_drop 12 b
  have e2 := List.take_append_drop 32 (b.drop 12)
  rw [List.drop_drop] at e2
  rw [List.append_assoc]
  simp only [Nat.reduceAdd] at e2
  rw [e2, e1]

/-- A sound file's text: its file's number, its generation, its records. -/
def Snd (f g : Nat) (l : List Bs) (s : Bs) : Prop := ∃ n, n ≤ l.length ∧ n < 4294967296 ∧ s = headL g n ++ framesL g 0 l ∧ (∀ r ∈ l, r.length ≤ 32768) ∧ 1 ≤ g ∧ g ≤ 4611686018427387904 ∧ g % 2 = f
theorem Snd.length {f g : Nat} {l : List Bs} {s : Bs} (h : Snd f g l s) : s.length = 44 + sizesL l := by
  obtain ⟨n, _, _, rfl, _⟩ := h
  rw [List.length_append, headL_length, framesL_length]
/-- Behind it a beginning of other frames. -/
theorem Snd.part {f g : Nat} {l m : List Bs} {s : Bs} (h : Snd f g l s) (hm : ∀ r ∈ m, r.length ≤ 32768) (j : Nat) : lookL f (s ++ (framesL g l.length m).take j) = some (g, l ++ m.take (fitL m j)) := by
  obtain ⟨n, h1, h2, rfl, h4, h5, h6, h7⟩ := h
  have := recsK_tail (g := g) (k := 0) (j := j) h4 hm
  rw [Nat.zero_add] at this
  rw [List.append_assoc, lookL_head h5 h6 h7 h2, this, if_neg (by simp; omega)]
theorem Snd.look {f g : Nat} {l : List Bs} {s : Bs} (h : Snd f g l s) : lookL f s = some (g, l) := by
  have := h.part (m := []) (fun _ h => by cases h) 0
  simpa [framesL] using this
theorem Snd.more {f g : Nat} {l m : List Bs} {s : Bs} (h : Snd f g l s) (hm : ∀ r ∈ m, r.length ≤ 32768) : Snd f g (l ++ m) (s ++ framesL g l.length m) := by
  obtain ⟨n, h1, h2, rfl, h4, h5⟩ := h
  refine ⟨n, by simp; omega, h2, ?_, ?_, h5⟩
  · rw [framesL_append, Nat.zero_add, List.append_assoc]
  · intro r hr
    rcases List.mem_append.1 hr with hr | hr
    · exact h4 r hr
    · exact hm r hr
theorem Snd.new {f g : Nat} {l : List Bs} (hl : l.length < 4294967296) (hm : ∀ r ∈ l, r.length ≤ 32768) (h1 : 1 ≤ g) (h2 : g ≤ 4611686018427387904) (h3 : g % 2 = f) : Snd f g l (headL g l.length ++ framesL g 0 l) :=
  ⟨l.length, Nat.le_refl _, hl, rfl, hm, h1, h2, h3⟩
/-- A file that is being made is none till it is whole. -/
theorem new_part {f g : Nat} {l : List Bs} {j : Nat} (hl : l.length < 4294967296) (hm : ∀ r ∈ l, r.length ≤ 32768) (h1 : 1 ≤ g) (h2 : g ≤ 4611686018427387904) (h3 : g % 2 = f) (hj : j < 44 + sizesL l) : lookL f ((headL g l.length ++ framesL g 0 l).take j) = none := by
  by_cases h44 : j < 44
  · exact lookL_part_head h44
  · rw [List.take_append, List.take_of_length_le (by rw [headL_length]; omega), headL_length, lookL_head h1 h2 h3 hl, recsK_part hm, if_pos]
    have := fitL_lt (l := l) (j := j - 44) (by omega)
    rw [List.length_take]
    omega
theorem look_snd {f g : Nat} {b : Bs} {l : List Bs} (h : lookL f b = some (g, l)) : Snd f g l (b.take (44 + sizesL l)) ∧ 44 + sizesL l ≤ b.length := by
  obtain ⟨n, rest, h1, h2, rfl, _, h4, h5⟩ := lookL_some h
  have hl : (headL g n ++ framesL g 0 l).length = 44 + sizesL l := by rw [List.length_append, headL_length, framesL_length]
  refine ⟨⟨n, h1, h2, ?_, h4, h5⟩, ?_⟩
  · rw [← List.append_assoc]; exact take_app hl
  · rw [← List.append_assoc, List.length_append, hl]; omega
/-- A sound file that is cut. -/
theorem Snd.cut {f g : Nat} {l : List Bs} {s : Bs} {k : Nat} (h : Snd f g l s) (hn : ∃ n, n = 0 ∧ s = headL g n ++ framesL g 0 l) : lookL f (s.take k) = if k < 44 then none else some (g, l.take (fitL l (k - 44))) := by
  obtain ⟨_, _, _, _, h4, h5, h6, h7⟩ := h
  obtain ⟨_, rfl, rfl⟩ := hn
  split
  · exact lookL_part_head (by omega)
  · rw [List.take_append, List.take_of_length_le (by rw [headL_length]; omega), headL_length, lookL_head h5 h6 h7 (by omega), recsK_part h4, if_neg (by omega)]

theorem keptL_snoc {b : Bs} {cs : List Chg} {c : Chg} {u : Nat} : keptL b (cs ++ [c]) u = if u ≤ unitsL cs then keptL b cs u else c.done (u - unitsL cs) (allL b cs) := by
  induction cs generalizing b u with
  | nil =>
    simp only [List.nil_append, keptL, unitsL, Nat.le_zero_eq, allL, Nat.sub_zero]
  | cons d cs ih =>
    rw [List.cons_append, keptL, keptL, unitsL]
    by_cases h0 : u = 0
    · subst h0
      simp
    · rw [if_neg h0, if_neg h0, ih]
      by_cases hu : u - d.units ≤ unitsL cs
      · rw [if_pos hu, if_pos (by omega)]
      · rw [if_neg hu, if_neg (by omega), show u - d.units - unitsL cs = u - (d.units + unitsL cs) by omega]
        congr 1
        cases d with
        | wr x =>
          simp only [Chg.units] at hu
          rw [Chg.done, allL, List.take_of_length_le (by omega)]
        | cut n => rw [Chg.done, allL]

/-- What a file may have behind a loss of power. -/
def FileM.res (F : FileM) (s : Bs) : Prop := ∃ u, s = keptL F.sure F.loose u
theorem res_firm {s t : Bs} (h : FileM.res ⟨s, []⟩ t) : t = s := h.elim fun _ h => h
theorem res_stands (F : FileM) : F.res F.stands := ⟨unitsL F.loose, (keptL_all (Nat.le_refl _)).symm⟩
theorem res_put_wr {F : FileM} {b t : Bs} (h : (F.put (.wr b)).res t) : F.res t ∨ ∃ j, t = F.stands ++ b.take j := by
  obtain ⟨u, rfl⟩ := h
  rw [FileM.put, keptL_snoc]
  split
  · exact .inl ⟨u, rfl⟩
  · exact .inr ⟨_, rfl⟩
theorem res_put_cut {F : FileM} {n : Nat} {t : Bs} (h : (F.put (.cut n)).res t) : F.res t ∨ t = F.stands.take n := by
  obtain ⟨u, rfl⟩ := h
  rw [FileM.put, keptL_snoc]
  split
  · exact .inl ⟨u, rfl⟩
  · exact .inr rfl
theorem stands_put_wr (F : FileM) (b : Bs) : (F.put (.wr b)).stands = F.stands ++ b := FileM.stands_put F _
theorem stands_put_cut (F : FileM) (n : Nat) : (F.put (.cut n)).stands = F.stands.take n := FileM.stands_put F _
theorem settle_all {F : FileM} {u : Nat} (h : unitsL F.loose ≤ u) : F.settle u = ⟨F.stands, []⟩ := by
  unfold FileM.settle FileM.stands
  rw [keptL_all h]
theorem settle_res (F : FileM) (u : Nat) : ∃ s, F.settle u = ⟨s, []⟩ ∧ F.res s := ⟨_, rfl, u, rfl⟩

/-- A disk whose main file is number f. -/
def mkD (f : Nat) (A O : FileM) (M : Nat) (off fu : Bool) (lf : Int) : DiskM := if f = 0 then ⟨A, O, M, off, fu, lf⟩ else ⟨O, A, M, off, fu, lf⟩
theorem mkD_of {f : Nat} (D : DiskM) (hf : f < 2) : D = mkD f (D.file f) (D.file (1 - f)) D.most D.off D.fused D.left := by
  match f, hf with
  | 0, _ => rfl
  | 1, _ => rfl
theorem mkD_flip {f : Nat} (hf : f < 2) {A O : FileM} {M : Nat} {off fu : Bool} {lf : Int} : mkD f A O M off fu lf = mkD (1 - f) O A M off fu lf := by
  match f, hf with
  | 0, _ => rfl
  | 1, _ => rfl
section
variable {f : Nat} (hf : f < 2) {A O : FileM} {M : Nat} {off fu : Bool} {lf : Int}
include hf
theorem mkD_file : (mkD f A O M off fu lf).file f = A := by
  match f, hf with
  | 0, _ => rfl
  | 1, _ => rfl
theorem mkD_other : (mkD f A O M off fu lf).file (1 - f) = O := by
  match f, hf with
  | 0, _ => rfl
  | 1, _ => rfl
omit hf in
theorem mkD_most : (mkD f A O M off fu lf).most = M := by unfold mkD; split <;> rfl
omit hf in
theorem mkD_off : (mkD f A O M off fu lf).off = off := by unfold mkD; split <;> rfl
omit hf in
theorem mkD_fused : (mkD f A O M off fu lf).fused = fu := by unfold mkD; split <;> rfl
omit hf in
theorem mkD_left : (mkD f A O M off fu lf).left = lf := by unfold mkD; split <;> rfl
theorem mkD_with (X : FileM) : (mkD f A O M off fu lf).with f X = mkD f X O M off fu lf := by
  match f, hf with
  | 0, _ => rfl
  | 1, _ => rfl
theorem mkD_room : (mkD f A O M off fu lf).room = M - A.stands.length - O.stands.length := by
  match f, hf with
  | 0, _ => rfl
  | 1, _ => simp only [mkD, DiskM.room]; simp; omega
theorem mkD_may : (mkD f A O M false fu lf).may f = 0 := by
  unfold DiskM.may
  rw [mkD_off]
  simp
  omega
theorem mkD_goes (k : DiskM → DiskM) : ((mkD f A O M off fu lf).goes k = (mkD f A O M true fu lf, 8) ∧ fu = true) ∨ ∃ z, (mkD f A O M off fu lf).goes k = (k (mkD f A O M off fu z), 0) := by
  unfold DiskM.goes
  rw [mkD_fused, mkD_left]
  split
  · rename_i h
    refine .inl ⟨?_, h.1⟩
    match f, hf with
    | 0, _ => rfl
    | 1, _ => rfl
  · refine .inr ⟨RowKit.wrap64 (lf - 1), ?_⟩
    match f, hf with
    | 0, _ => rfl
    | 1, _ => rfl
theorem mkD_write (b : Bs) (hb : b.length ≤ M - A.stands.length - O.stands.length) : ((mkD f A O M false fu lf).write f b = (mkD f A O M true fu lf, 8) ∧ fu = true) ∨ ∃ z, (mkD f A O M false fu lf).write f b = (mkD f (A.put (.wr b)) O M false fu z, 0) := by
  unfold DiskM.write
  rw [mkD_may hf, if_neg (by simp), if_neg (by rw [mkD_room hf]; omega)]
  rcases mkD_goes hf (A := A) (O := O) (M := M) (off := false) (fu := fu) (lf := lf) (fun D => D.with (f : Int).toNat ((D.file (f : Int).toNat).put (.wr b))) with h | ⟨z, h⟩
  · exact .inl h
  · refine .inr ⟨z, h.trans ?_⟩
    rw [Int.toNat_natCast, mkD_file hf, mkD_with hf]
theorem mkD_cut (n : Nat) (hn : n ≤ A.stands.length) : ((mkD f A O M false fu lf).cut f n = (mkD f A O M true fu lf, 8) ∧ fu = true) ∨ ∃ z, (mkD f A O M false fu lf).cut f n = (mkD f (A.put (.cut n)) O M false fu z, 0) := by
  unfold DiskM.cut
  rw [mkD_may hf, if_neg (by simp), if_neg (by rw [Int.toNat_natCast, mkD_file hf]; omega)]
  rcases mkD_goes hf (A := A) (O := O) (M := M) (off := false) (fu := fu) (lf := lf) (fun D => D.with (f : Int).toNat ((D.file (f : Int).toNat).put (.cut (n : Int).toNat))) with h | ⟨z, h⟩
  · exact .inl h
  · refine .inr ⟨z, h.trans ?_⟩
    rw [Int.toNat_natCast, Int.toNat_natCast, mkD_file hf, mkD_with hf]
theorem mkD_sync (hu : unitsL A.loose ≤ 9223372036854775807) : ((mkD f A O M false fu lf).sync f = (mkD f A O M true fu lf, 8) ∧ fu = true) ∨ ∃ z, (mkD f A O M false fu lf).sync f = (mkD f ⟨A.stands, []⟩ O M false fu z, 0) := by
  unfold DiskM.sync
  rw [mkD_may hf, if_neg (by simp)]
  rcases mkD_goes hf (A := A) (O := O) (M := M) (off := false) (fu := fu) (lf := lf) (fun D => D.with (f : Int).toNat ((D.file (f : Int).toNat).settle 9223372036854775807)) with h | ⟨z, h⟩
  · exact .inl h
  · refine .inr ⟨z, h.trans ?_⟩
    rw [Int.toNat_natCast, mkD_file hf, mkD_with hf, settle_all hu]
theorem mkD_read : (mkD f A O M false fu lf).read f = (A.stands, 0) := by
  unfold DiskM.read
  rw [mkD_may hf, if_neg (by simp), Int.toNat_natCast, mkD_file hf]
end
end Go.Proofs.YtiidohaibbdgeaaDoor
