/- What the document's own says of the missing numbers (layer 13), in plain words. No program here. -/
import Derived.Test.YtboambncimdfjaaIt13
namespace Go.Proofs.Ytboambncimdfjaa

theorem spanL_mem (f t : Nat) (x : Int) : x ∈ spanL f t ↔ (f : Int) ≤ x ∧ x < t := by
  unfold spanL
  simp only [List.mem_map, List.mem_range]
  constructor
  · rintro ⟨i, hi, rfl⟩; omega
  · rintro ⟨h1, h2⟩; exact ⟨(x - f).toNat, by omega, by omega⟩
theorem spanL_rising (f t : Nat) : (spanL f t).Pairwise (· < ·) := by
  unfold spanL
  rw [List.pairwise_map]
  exact List.pairwise_lt_range.imp (fun h => by omega)
theorem hasB_mem (l : List Hv) (x : Int) : hasB l x = true ↔ x ∈ l.map (·.id) := by
  unfold hasB
  simp only [List.any_eq_true, List.mem_map, beq_iff_eq]

/-- The ids above the last one. -/
def aboveL (l : List Hv) (last : Nat) : List Int := (l.map (·.id)).filter (fun x => decide ((last : Int) < x))
theorem above_eq {next : Nat} {l : List Hv} (last : Nat) (h : mayF next 1 l = true) : (spanL (last + 1) next).filter (fun x => hasB l x) = aboveL l last := by
  obtain ⟨h1, h2⟩ := mayF_rising _ _ _ h
  refine rising_ext ((spanL_rising _ _).filter _) (h1.filter _) (fun x => ?_)
  simp only [aboveL, List.mem_filter, spanL_mem, hasB_mem, decide_eq_true_eq]
  constructor
  · rintro ⟨⟨q1, q2⟩, q3⟩; exact ⟨q3, by omega⟩
  · rintro ⟨q1, q2⟩
    obtain ⟨g, hg, rfl⟩ := List.mem_map.1 q1
    have := h2 g hg
    exact ⟨⟨by omega, this.2⟩, q1⟩
theorem filter_all {α : Type} (l : List α) (p : α → Bool) : l.filter (fun x => !p x) = [] ↔ l.filter p = l := by
  rw [List.filter_eq_nil_iff, List.filter_eq_self]
  simp
theorem above_count {next : Nat} {l : List Hv} {last : Nat} (h : mayF next 1 l = true) (hlt : last < next) : (spanL (last + 1) next).filter (fun x => !hasB l x) = [] ↔ (aboveL l last).length = next - 1 - last := by
  rw [filter_all, ← above_eq last h]
  constructor
  · intro e; rw [e, spanL_length]; omega
  · intro e
    refine (List.filter_sublist).eq_of_length ?_
    rw [e, spanL_length]; omega
theorem may_mayF {next : Int} {l : List Hv} (h : may next l = true) : mayF next 1 l = true ∧ 0 < next ∧ l.length ≤ 16 := by
  unfold may at h
  simpa [Bool.and_eq_true, and_assoc] using h
theorem fits_zero {next : Nat} {l : List Hv} {last : Nat} (h : fits next l last = 0) : may next l = true ∧ last < next ∧ (spanL (last + 1) next).filter (fun x => !hasB l x) = [] := by
  have h1 := fits_lt h
  unfold fits at h
  by_cases hm : may next l = false
  · rw [if_pos hm] at h; omega
  · rw [if_neg hm, if_neg (by omega)] at h
    by_cases h2 : (spanL (last + 1) next).filter (fun x => !hasB l x) = []
    · exact ⟨by simpa using hm, h1, h2⟩
    · rw [if_neg h2] at h; omega
theorem again_above {next : Nat} {l : List Hv} {last : Nat} (h : fits next l last = 0) : againL next l last = aboveL l last := by
  obtain ⟨h1, h2, h3⟩ := fits_zero h
  unfold againL
  rw [if_pos h, ← above_eq last (may_mayF h1).1]
  exact ((filter_all _ _).1 h3).symm

end Go.Proofs.Ytboambncimdfjaa
