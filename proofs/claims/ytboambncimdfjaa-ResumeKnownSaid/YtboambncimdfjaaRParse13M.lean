/- Reading a form (layer 13), as the document says: in plain words; the program's way agrees. No program here. -/
import Derived.Test.YtboambncimdfjaaParse13M
set_option linter.unusedVariables false
set_option linter.unusedSimpArgs false
namespace Go.Proofs.Ytboambncimdfjaa

/-- One record of bytes. -/
def recQ (c : List Int) : Hv := ⟨numB (c.take 4), numB ((c.drop 4).take 4), numB ((c.drop 8).take 4), c.getD 12 0 == 1⟩
def oddQ (c : List Int) : Bool := decide (c.getD 12 0 > 1)
def itemsQ (t : List Int) (k : Nat) : List Hv := (List.range k).map (fun i => recQ (t.drop (13 * i)))
def oddsQ (t : List Int) (k : Nat) : Bool := (List.range k).any (fun i => oddQ (t.drop (13 * i)))
theorem itemsQ_succ (t : List Int) (k : Nat) : itemsQ t (k + 1) = itemsQ t k ++ [recQ (t.drop (13 * k))] := by simp [itemsQ, List.range_succ]
theorem oddsQ_succ (t : List Int) (k : Nat) : oddsQ t (k + 1) = (oddsQ t k || oddQ (t.drop (13 * k))) := by simp [oddsQ, List.range_succ]
theorem itemsQ_length (t : List Int) (k : Nat) : (itemsQ t k).length = k := by simp [itemsQ]
def parseQ (bs : List Int) : Int × List Hv × Int :=
  if bs.length < 5 ∨ (bs.length : Int) < 5 + 13 * bs.getD 4 0 then (0, [], 4)
  else if (bs.length : Int) > 5 + 13 * bs.getD 4 0 then (0, [], 5)
  else if oddsQ (bs.drop 5) (bs.getD 4 0).toNat = true ∨ may (numB (bs.take 4)) (itemsQ (bs.drop 5) (bs.getD 4 0).toNat) = false then (0, [], 5)
  else (numB (bs.take 4), itemsQ (bs.drop 5) (bs.getD 4 0).toNat, 0)

theorem takeR_ok (t : List Int) (n : Nat) (h : n ≤ t.length) : takeR t false n = (t.take n, t.drop n, false) := by
  unfold takeR
  rw [if_neg (by simp), if_neg (by omega)]
theorem takeR_no (t : List Int) (n : Nat) (h : t.length < n) : takeR t false n = ([], [], true) := by
  unfold takeR
  rw [if_neg (by simp), if_pos h]
theorem takeR_st (t : List Int) (n : Nat) : takeR t true n = ([], t, true) := by
  unfold takeR
  rw [if_pos rfl]
theorem numB_one (c : Int) : numB [c] = c := by simp [numB]
theorem take1_getD (t : List Int) (h : 0 < t.length) : t.take 1 = [t.getD 0 0] := by
  cases t with
  | nil => simp at h
  | cons a t => simp
theorem recP_good (t : List Int) (h : 13 ≤ t.length) : recP (t, false) = (recQ t, oddQ t, t.drop 13, false) := by
  have e12 : numB ((t.drop 12).take 1) = t.getD 12 0 := by
    rw [take1_getD _ (by simp; omega), numB_one, List.getD_eq_getElem?_getD, List.getElem?_drop, List.getD_eq_getElem?_getD]
  unfold recP
  simp only
  rw [takeR_ok t 4 (by omega)]
  simp only
  rw [takeR_ok _ 4 (by simp; omega)]
  simp only [List.drop_drop]
  rw [takeR_ok _ 4 (by simp; omega)]
  simp only [List.drop_drop]
  rw [takeR_ok _ 1 (by simp; omega)]
  simp only [List.drop_drop, Nat.reduceAdd, e12]
  rfl
theorem recP_short (t : List Int) (h : t.length < 13) : (recP (t, false)).2.2.2 = true := by
  unfold recP
  simp only
  by_cases h4 : 4 ≤ t.length
  · rw [takeR_ok t 4 h4]
    simp only
    by_cases h8 : 8 ≤ t.length
    · rw [takeR_ok _ 4 (by simp; omega)]
      simp only [List.drop_drop]
      by_cases h12 : 12 ≤ t.length
      · rw [takeR_ok _ 4 (by simp; omega)]
        simp only [List.drop_drop]
        rw [takeR_no _ 1 (by simp; omega)]
      · rw [takeR_no _ 4 (by simp; omega)]
        simp [takeR_st]
    · rw [takeR_no _ 4 (by simp; omega)]
      simp [takeR_st]
  · rw [takeR_no _ 4 (by omega)]
    simp [takeR_st]
theorem recP_st (t : List Int) : (recP (t, true)).2.2.2 = true := by
  unfold recP
  simp [takeR_st]
theorem iterP_good (t : List Int) (k : Nat) (h : 13 * k ≤ t.length) : iterP (t, false) k = (itemsQ t k, oddsQ t k, t.drop (13 * k), false) := by
  induction k with
  | zero => simp [iterP, itemsQ, oddsQ]
  | succ k ih =>
    have := ih (by omega)
    simp only [iterP, this]
    rw [recP_good _ (by simp; omega), itemsQ_succ, oddsQ_succ, List.drop_drop]
    rfl
theorem iterP_st (s : List Int × Bool) (k : Nat) (h : s.2 = true) : (iterP s k).2.2.2 = true := by
  induction k with
  | zero => exact h
  | succ k ih =>
    have e : (iterP s k).2.2 = ((iterP s k).2.2.1, true) := by rw [← ih]
    show (recP (iterP s k).2.2).2.2.2 = true
    rw [e]
    exact recP_st _
theorem iterP_short (t : List Int) (k : Nat) (h : t.length < 13 * k) : (iterP (t, false) k).2.2.2 = true := by
  induction k with
  | zero => omega
  | succ k ih =>
    show (recP (iterP (t, false) k).2.2).2.2.2 = true
    by_cases h1 : t.length < 13 * k
    · have e : (iterP (t, false) k).2.2 = ((iterP (t, false) k).2.2.1, true) := by rw [← ih h1]
      rw [e]
      exact recP_st _
    · rw [iterP_good t k (by omega)]
      exact recP_short _ (by simp; omega)

theorem parse_same (bs : List Int) (hb : IsB bs) : parseP bs = parseQ bs := by
  unfold parseP parseQ
  by_cases h4 : bs.length < 4
  · rw [if_pos (.inl (by omega)), takeR_no bs 4 h4]
    simp only [takeR_st]
    unfold finP
    rw [if_pos (iterP_st _ _ rfl)]
  · rw [takeR_ok bs 4 (by omega)]
    simp only
    by_cases h5 : bs.length < 5
    · rw [if_pos (.inl h5), takeR_no _ 1 (by simp; omega)]
      simp only
      unfold finP
      rw [if_pos (iterP_st _ _ rfl)]
    · rw [takeR_ok _ 1 (by simp; omega)]
      simp only [List.drop_drop, Nat.reduceAdd]
      have e4 : numB ((bs.drop 4).take 1) = bs.getD 4 0 := by
        rw [take1_getD _ (by simp; omega), numB_one, List.getD_eq_getElem?_getD, List.getElem?_drop, List.getD_eq_getElem?_getD]
      have hm := hb (bs.getD 4 0) (by rw [List.getD_eq_getElem?_getD, List.getElem?_eq_getElem (by omega)]; exact List.getElem_mem _)
      rw [e4]
      obtain ⟨m, hm'⟩ : ∃ m : Nat, bs.getD 4 0 = m := ⟨(bs.getD 4 0).toNat, by omega⟩
      rw [hm']
      simp only [Int.toNat_natCast]
      unfold finP
      by_cases hs : bs.length < 5 + 13 * m
      · rw [if_pos (iterP_short _ _ (by simp; omega))]
        rw [if_pos (Or.inr (show (bs.length : Int) < 5 + 13 * (m : Int) by omega))]
      · rw [iterP_good _ m (by simp; omega)]
        simp only [Bool.false_eq_true, if_false, List.length_drop]
        rw [if_neg (show ¬ (bs.length < 5 ∨ (bs.length : Int) < 5 + 13 * (m : Int)) by omega)]
        by_cases hg : bs.length > 5 + 13 * m
        · rw [if_pos (show (0 < bs.length - 5 - 13 * m ∨ oddsQ (bs.drop 5) m = true) ∨ may (numB (bs.take 4)) (itemsQ (bs.drop 5) m) = false from .inl (.inl (by omega)))]
          rw [if_pos (show (bs.length : Int) > 5 + 13 * (m : Int) by omega)]
        · rw [if_neg (show ¬ ((bs.length : Int) > 5 + 13 * (m : Int)) by omega)]
          have e0 : ¬ (0 < bs.length - 5 - 13 * m) := by omega
          simp only [e0, false_or]

end Go.Proofs.Ytboambncimdfjaa
