/- The frames that stand in bytes (log), in plain words, as the program reads them. No program here. -/
import Derived.Test.YtkameiopahcacaaDoorLog15
import Derived.Test.YtkameiopahcacaaDoorRdr
set_option linter.unusedVariables false
set_option linter.unusedSimpArgs false
namespace Go.Proofs.YtkameiopahcacaaDoor

/-- A frame that stands: its payload, its number and check, where it ends. -/
structure Fm where
  pay : List Int
  num : Nat
  sum : Nat
  fin : Nat
/-- The readings at a place, in order. -/
def rd1 (bs : List Int) (f : Fm) := takeR (bs.drop f.fin) false 2
def rd2 (bs : List Int) (f : Fm) := takeR (rd1 bs f).2.1 (rd1 bs f).2.2 4
def rd3 (bs : List Int) (f : Fm) := takeR (rd2 bs f).2.1 (rd2 bs f).2.2 4
def rd4 (bs : List Int) (f : Fm) := takeR (rd3 bs f).2.1 (rd3 bs f).2.2 (numB (rd1 bs f).1).toNat
def badF (bs : List Int) (f : Fm) : Bool :=
  (rd4 bs f).2.2 || !decide ((numB (rd2 bs f).1).toNat = (f.num + 1) % 4294967296) || !decide ((numB (rd3 bs f).1).toNat = checkN f.sum (numB (rd2 bs f).1).toNat (rd4 bs f).1)
def nextF (bs : List Int) (f : Fm) : Fm := ⟨(rd4 bs f).1, (numB (rd2 bs f).1).toNat, (numB (rd3 bs f).1).toNat, f.fin + 10 + (numB (rd1 bs f).1).toNat⟩
def framesF (bs : List Int) : Nat → Fm → List Fm
  | 0, _ => []
  | k + 1, f => if badF bs f = true then [] else nextF bs f :: framesF bs k (nextF bs f)

theorem takeR_drop (t : List Int) (n : Nat) (h : (takeR t false n).2.2 = false) : n ≤ t.length ∧ takeR t false n = (t.take n, t.drop n, false) := by
  unfold takeR at h ⊢
  rw [if_neg (by simp)] at h ⊢
  by_cases hn : t.length < n
  · rw [if_pos hn] at h; simp at h
  · rw [if_neg hn]; exact ⟨by omega, rfl⟩
theorem takeR_st' {t : List Int} {sh : Bool} {n : Nat} (h : (takeR t sh n).2.2 = false) : sh = false := by
  cases sh with
  | false => rfl
  | true => unfold takeR at h; simp at h
theorem tkL (bs : List Int) (sh : Bool) (n : Nat) : (takeR bs sh n).2.1.length ≤ bs.length := by
  unfold takeR
  split
  · simp
  · split
    · simp
    · simp
theorem tkB {bs : List Int} (h : IsB bs) (sh : Bool) (n : Nat) : IsB (takeR bs sh n).2.1 ∧ IsB (takeR bs sh n).1 := by
  unfold takeR
  split
  · exact ⟨h, fun c hc => by simp at hc⟩
  · split
    · exact ⟨fun c hc => by simp at hc, fun c hc => by simp at hc⟩
    · exact ⟨fun c hc => h c (List.mem_of_mem_drop hc), fun c hc => h c (List.mem_of_mem_take hc)⟩
theorem tkN (bs : List Int) (sh : Bool) (n : Nat) : (takeR bs sh n).1.length ≤ n := by
  unfold takeR
  split
  · simp
  · split
    · simp
    · rw [List.length_take]; omega
/-- A frame that stands lies within the bytes. -/
theorem goodF {bs : List Int} {f : Fm} (h : badF bs f = false) : (nextF bs f).fin ≤ bs.length ∧ f.fin + 10 ≤ (nextF bs f).fin := by
  unfold badF at h
  simp only [Bool.or_eq_false_iff] at h
  have h4 := h.1.1
  have s3 : (rd3 bs f).2.2 = false := takeR_st' h4
  have s2 : (rd2 bs f).2.2 = false := takeR_st' s3
  have s1 : (rd1 bs f).2.2 = false := takeR_st' s2
  unfold rd4 at h4
  rw [s3] at h4
  obtain ⟨l4, e4⟩ := takeR_drop _ _ h4
  unfold rd3 at s3 l4
  rw [s2] at s3 l4
  obtain ⟨l3, e3⟩ := takeR_drop _ _ s3
  rw [e3] at l4
  unfold rd2 at s2 l3 l4
  rw [s1] at s2 l3 l4
  obtain ⟨l2, e2⟩ := takeR_drop _ _ s2
  rw [e2] at l3 l4
  unfold rd1 at s1 l2 l3 l4
  obtain ⟨l1, e1⟩ := takeR_drop _ _ s1
  unfold nextF rd1
  rw [e1] at l2 l3 l4 ⊢
  simp only [List.length_drop] at l1 l2 l3 l4 ⊢
  omega
theorem framesF_fuel (bs : List Int) : ∀ (k j : Nat) (f : Fm), bs.length < f.fin + 10 * k → bs.length < f.fin + 10 * j → framesF bs k f = framesF bs j f := by
  have hb : ∀ f : Fm, bs.length < f.fin → badF bs f = true := fun f h => by
    cases hc : badF bs f with
    | true => rfl
    | false => have := goodF hc; omega
  intro k
  induction k with
  | zero =>
    intro j f h1 h2
    cases j with
    | zero => rfl
    | succ j => rw [framesF, framesF, if_pos (hb f (by omega))]
  | succ k ih =>
    intro j f h1 h2
    cases j with
    | zero => rw [framesF, framesF, if_pos (hb f (by omega))]
    | succ j =>
      rw [framesF, framesF]
      cases hc : badF bs f with
      | true => rfl
      | false =>
        have := goodF hc
        rw [ih j (nextF bs f) (by omega) (by omega)]
/-- The frames from f on. -/
def framesFrom (bs : List Int) (f : Fm) : List Fm := framesF bs (bs.length + 1) f
theorem framesFrom_bad {bs : List Int} {f : Fm} (h : badF bs f = true) : framesFrom bs f = [] := by
  unfold framesFrom
  rw [framesF, if_pos h]
theorem framesFrom_good {bs : List Int} {f : Fm} (h : badF bs f = false) : framesFrom bs f = nextF bs f :: framesFrom bs (nextF bs f) := by
  unfold framesFrom
  rw [framesF, if_neg (by rw [h]; simp)]
  have := goodF h
  rw [framesF_fuel bs bs.length (bs.length + 1) (nextF bs f) (by omega) (by omega)]
def framesL (bs : List Int) : List Fm := framesFrom bs ⟨[], 0, 0, 0⟩

end Go.Proofs.YtkameiopahcacaaDoor
