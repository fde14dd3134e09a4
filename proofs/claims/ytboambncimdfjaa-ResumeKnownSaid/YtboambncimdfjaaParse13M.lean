/- Reading a form (layer 13), in plain words: as the program reads, as the document says; they agree. No program here. -/
import Derived.Test.YtboambncimdfjaaRForm13
set_option linter.unusedVariables false
set_option linter.unusedSimpArgs false
namespace Go.Proofs.Ytboambncimdfjaa

/-- One record, read; was its last byte odd; what is left. -/
def recP (s : List Int × Bool) : Hv × Bool × List Int × Bool :=
  let a := takeR s.1 s.2 4
  let b := takeR a.2.1 a.2.2 4
  let c := takeR b.2.1 b.2.2 4
  let d := takeR c.2.1 c.2.2 1
  (⟨numB a.1, numB b.1, numB c.1, numB d.1 == 1⟩, decide (numB d.1 > 1), d.2.1, d.2.2)
def iterP (s : List Int × Bool) : Nat → List Hv × Bool × List Int × Bool
  | 0 => ([], false, s.1, s.2)
  | k + 1 => ((iterP s k).1 ++ [(recP (iterP s k).2.2).1], (iterP s k).2.1 || (recP (iterP s k).2.2).2.1, (recP (iterP s k).2.2).2.2)
theorem iterP_length (s : List Int × Bool) (k : Nat) : (iterP s k).1.length = k := by
  induction k with
  | zero => rfl
  | succ k ih => simp [iterP, ih]
def finP (next : Int) (it : List Hv × Bool × List Int × Bool) : Int × List Hv × Int :=
  if it.2.2.2 = true then (0, [], 4) else if (0 < it.2.2.1.length ∨ it.2.1 = true) ∨ may next it.1 = false then (0, [], 5) else (next, it.1, 0)
def parseP (bs : List Int) : Int × List Hv × Int :=
  finP (numB (takeR bs false 4).1) (iterP (takeR (takeR bs false 4).2.1 (takeR bs false 4).2.2 1).2 (numB (takeR (takeR bs false 4).2.1 (takeR bs false 4).2.2 1).1).toNat)

theorem takeR_len (bs : List Int) (sh : Bool) (n : Nat) : (takeR bs sh n).2.1.length ≤ bs.length := by
  unfold takeR
  split
  · simp
  · split
    · simp
    · simp
theorem takeR_isB {bs : List Int} (h : IsB bs) (sh : Bool) (n : Nat) : IsB (takeR bs sh n).2.1 := by
  unfold takeR
  split
  · exact h
  · split
    · intro c hc; simp at hc
    · intro c hc; exact h c (List.mem_of_mem_drop hc)
theorem recP_isB {s : List Int × Bool} (h : IsB s.1) : IsB (recP s).2.2.1 := takeR_isB (takeR_isB (takeR_isB (takeR_isB h _ _) _ _) _ _) _ _
theorem recP_len (s : List Int × Bool) : (recP s).2.2.1.length ≤ s.1.length :=
  Nat.le_trans (takeR_len _ _ _) (Nat.le_trans (takeR_len _ _ _) (Nat.le_trans (takeR_len _ _ _) (takeR_len _ _ _)))
theorem iterP_isB {s : List Int × Bool} (h : IsB s.1) (k : Nat) : IsB (iterP s k).2.2.1 := by
  induction k with
  | zero => exact h
  | succ k ih => exact recP_isB ih
theorem iterP_len (s : List Int × Bool) (k : Nat) : (iterP s k).2.2.1.length ≤ s.1.length := by
  induction k with
  | zero => exact Nat.le_refl _
  | succ k ih => exact Nat.le_trans (recP_len _) ih
theorem recP_ok {s : List Int × Bool} (h : IsB s.1) : (recP s).1.ok := by
  have h1 := takeR_num s.1 s.2 4 h
  have h2 := takeR_num _ (takeR s.1 s.2 4).2.2 4 (takeR_isB h s.2 4)
  have h3 := takeR_num _ (takeR (takeR s.1 s.2 4).2.1 (takeR s.1 s.2 4).2.2 4).2.2 4 (takeR_isB (takeR_isB h s.2 4) (takeR s.1 s.2 4).2.2 4)
  exact ⟨h1.1, by have := h1.2; simpa [recP] using this, h2.1, by have := h2.2; simpa [recP] using this, h3.1, by have := h3.2; simpa [recP] using this⟩
theorem iterP_ok {s : List Int × Bool} (h : IsB s.1) (k : Nat) : ∀ x ∈ (iterP s k).1, x.ok := by
  induction k with
  | zero => intro x hx; simp [iterP] at hx
  | succ k ih =>
    intro x hx
    simp only [iterP, List.mem_append, List.mem_singleton] at hx
    rcases hx with hx | rfl
    · exact ih x hx
    · exact recP_ok (iterP_isB h k)

end Go.Proofs.Ytboambncimdfjaa
