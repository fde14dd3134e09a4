/- A form read back (layer 13): in plain words. No program here. -/
import Derived.Test.YtboambncimdfjaaRParse13M
import Derived.Test.YtboambncimdfjaaForm13
set_option linter.unusedVariables false
set_option linter.unusedSimpArgs false
namespace Go.Proofs.Ytboambncimdfjaa

theorem numB_be4 {n : Int} (h0 : 0 ≤ n) (h1 : n < 4294967296) : numB (be4 n) = n := by
  simp only [be4, be2, numB, List.cons_append, List.nil_append, List.foldl_cons, List.foldl_nil]
  omega
theorem be4_numB {a b c d : Int} (ha : 0 ≤ a ∧ a ≤ 255) (hb : 0 ≤ b ∧ b ≤ 255) (hc : 0 ≤ c ∧ c ≤ 255) (hd : 0 ≤ d ∧ d ≤ 255) : be4 (numB [a, b, c, d]) = [a, b, c, d] := by
  simp only [be4, be2, numB, List.cons_append, List.nil_append, List.foldl_cons, List.foldl_nil, List.cons.injEq, and_true]
  refine ⟨?_, ?_, ?_, ?_⟩ <;> omega
theorem recQ_hvB {h : Hv} (ho : h.ok) (r : List Int) : recQ (hvB h ++ r) = h := by
  have e1 : (hvB h ++ r).take 4 = be4 h.id := rfl
  have e2 : ((hvB h ++ r).drop 4).take 4 = be4 h.out := rfl
  have e3 : ((hvB h ++ r).drop 8).take 4 = be4 h.err := rfl
  have e4 : (hvB h ++ r).getD 12 0 = if h.st then 1 else 0 := rfl
  unfold recQ
  rw [e1, e2, e3, e4, numB_be4 ho.i0 ho.i1, numB_be4 ho.o0 ho.o1, numB_be4 ho.e0 ho.e1]
  cases h with
  | mk a b c d => cases d <;> rfl
theorem oddQ_hvB (h : Hv) (r : List Int) : oddQ (hvB h ++ r) = false := by
  have e4 : (hvB h ++ r).getD 12 0 = if h.st then 1 else 0 := rfl
  unfold oddQ
  rw [e4]
  cases h.st <;> simp
theorem flat_drop (l : List Hv) (k : Nat) : (l.flatMap hvB).drop (13 * k) = (l.drop k).flatMap hvB := by
  induction k generalizing l with
  | zero => simp
  | succ k ih =>
    cases l with
    | nil => simp
    | cons a l =>
      rw [List.flatMap_cons, List.drop_succ_cons, show 13 * (k + 1) = (hvB a).length + 13 * k by rw [hvB_length]; omega, List.drop_append, List.drop_of_length_le (by omega), Nat.add_sub_cancel_left, ih, List.nil_append]
theorem flat_at (l : List Hv) (k : Nat) (h : k < l.length) : (l.flatMap hvB).drop (13 * k) = hvB l[k] ++ (l.drop (k + 1)).flatMap hvB := by
  rw [flat_drop, List.drop_eq_getElem_cons h, List.flatMap_cons]
theorem items_flat {l : List Hv} (hok : ∀ h ∈ l, h.ok) (k : Nat) (h : k ≤ l.length) : itemsQ (l.flatMap hvB) k = l.take k ∧ oddsQ (l.flatMap hvB) k = false := by
  induction k with
  | zero => simp [itemsQ, oddsQ]
  | succ k ih =>
    obtain ⟨h1, h2⟩ := ih (by omega)
    rw [itemsQ_succ, oddsQ_succ, h1, h2, flat_at l k (by omega), recQ_hvB (hok _ (List.getElem_mem _)), oddQ_hvB, List.take_succ_eq_append_getElem (by omega)]
    exact ⟨rfl, rfl⟩

theorem askB_at4 (next : Int) (l : List Hv) (r : List Int) : (askB next l ++ r).getD 4 0 = (l.length : Int) := rfl
theorem askB_drop5 (next : Int) (l : List Hv) : (askB next l).drop 5 = l.flatMap hvB := rfl
theorem askB_take4 (next : Int) (l : List Hv) : (askB next l).take 4 = be4 next := rfl
theorem parse_form {next : Int} {l : List Hv} (h0 : 0 ≤ next) (h1 : next < 4294967296) (hok : ∀ h ∈ l, h.ok) (hm : may next l = true) : parseQ (askB next l) = (next, l, 0) := by
  have e4 := askB_at4 next l []
  rw [List.append_nil] at e4
  obtain ⟨i1, i2⟩ := items_flat hok l.length (Nat.le_refl _)
  rw [List.take_length] at i1
  unfold parseQ
  rw [askB_length, e4, askB_drop5, askB_take4, numB_be4 h0 h1, Int.toNat_natCast, i1, i2, if_neg (by omega), if_neg (by omega), if_neg (by rw [hm]; simp)]
theorem parse_short {next : Int} {l : List Hv} (k : Nat) (hk : k < (askB next l).length) : parseQ ((askB next l).take k) = (0, [], 4) := by
  have hl : ((askB next l).take k).length = k := by rw [List.length_take]; omega
  rw [askB_length] at hk
  unfold parseQ
  by_cases h5 : k < 5
  · rw [if_pos (.inl (by omega))]
  · have e4 : ((askB next l).take k).getD 4 0 = (l.length : Int) := by
      rw [List.getD_eq_getElem?_getD, List.getElem?_take_of_lt (by omega), ← List.getD_eq_getElem?_getD]
      exact (by rw [← askB_at4 next l [], List.append_nil])
    rw [if_pos (.inr (by rw [hl, e4]; omega))]
theorem parse_long {next : Int} {l : List Hv} : parseQ (askB next l ++ [0]) = (0, [], 5) := by
  unfold parseQ
  rw [askB_at4, List.length_append, askB_length, List.length_singleton, if_neg (by omega), if_pos (by omega)]

theorem hvB_recQ {c : List Int} (h : 13 ≤ c.length) (hb : IsB c) (ho : oddQ c = false) : hvB (recQ c) = c.take 13 := by
  match c, h with
  | a0 :: a1 :: a2 :: a3 :: a4 :: a5 :: a6 :: a7 :: a8 :: a9 :: a10 :: a11 :: a12 :: r, _ =>
    have e12 : oddQ (a0 :: a1 :: a2 :: a3 :: a4 :: a5 :: a6 :: a7 :: a8 :: a9 :: a10 :: a11 :: a12 :: r) = decide (a12 > 1) := rfl
    rw [e12] at ho
    have h12 : a12 ≤ 1 := by simpa using ho
    have b12 := hb a12 (by simp)
    have e1 : recQ (a0 :: a1 :: a2 :: a3 :: a4 :: a5 :: a6 :: a7 :: a8 :: a9 :: a10 :: a11 :: a12 :: r) = ⟨numB [a0, a1, a2, a3], numB [a4, a5, a6, a7], numB [a8, a9, a10, a11], a12 == 1⟩ := rfl
    rw [e1]
    unfold hvB
    simp only
    rw [be4_numB (hb a0 (by simp)) (hb a1 (by simp)) (hb a2 (by simp)) (hb a3 (by simp)), be4_numB (hb a4 (by simp)) (hb a5 (by simp)) (hb a6 (by simp)) (hb a7 (by simp)), be4_numB (hb a8 (by simp)) (hb a9 (by simp)) (hb a10 (by simp)) (hb a11 (by simp))]
    have e2 : (if (a12 == 1) = true then (1 : Int) else 0) = a12 := by
      by_cases q : a12 = 1
      · rw [q]; rfl
      · rw [if_neg (by simpa using q)]; omega
    rw [e2]
    rfl
theorem flat_items {t : List Int} (hb : IsB t) (k : Nat) (h : 13 * k ≤ t.length) (ho : oddsQ t k = false) : (itemsQ t k).flatMap hvB = t.take (13 * k) := by
  induction k with
  | zero => simp [itemsQ]
  | succ k ih =>
    rw [oddsQ_succ, Bool.or_eq_false_iff] at ho
    rw [itemsQ_succ, List.flatMap_append, ih (by omega) ho.1, List.flatMap_singleton, hvB_recQ (by rw [List.length_drop]; omega) (fun c hc => hb c (List.mem_of_mem_drop hc)) ho.2, show 13 * (k + 1) = 13 * k + 13 by omega, List.take_add]

/-- What reading answers: an error and nothing; or what lays the same form. -/
theorem parse_back {bs : List Int} (hb : IsB bs) : (parseQ bs = (0, [], 4) ∨ parseQ bs = (0, [], 5)) ∨
    ∃ nx L, parseQ bs = (nx, L, 0) ∧ 0 ≤ nx ∧ nx < 4294967296 ∧ may nx L = true ∧ askB nx L = bs := by
  unfold parseQ
  split
  · exact .inl (.inl rfl)
  · rename_i h1
    split
    · exact .inl (.inr rfl)
    · rename_i h2
      split
      · exact .inl (.inr rfl)
      · rename_i h3
        have hl5 : 5 ≤ bs.length := by omega
        have hm := hb (bs.getD 4 0) (by rw [List.getD_eq_getElem?_getD, List.getElem?_eq_getElem (by omega)]; exact List.getElem_mem _)
        obtain ⟨m, hm'⟩ : ∃ m : Nat, bs.getD 4 0 = m := ⟨(bs.getD 4 0).toNat, by omega⟩
        rw [hm'] at h1 h2 h3 ⊢
        rw [Int.toNat_natCast] at h3 ⊢
        have hlen : bs.length = 5 + 13 * m := by omega
        have ho : oddsQ (bs.drop 5) m = false := by
          rcases Bool.eq_false_or_eq_true (oddsQ (bs.drop 5) m) with q | q
          · exact absurd (.inl q) h3
          · exact q
        have hmy : may (numB (bs.take 4)) (itemsQ (bs.drop 5) m) = true := by
          rcases Bool.eq_false_or_eq_true (may (numB (bs.take 4)) (itemsQ (bs.drop 5) m)) with q | q
          · exact q
          · exact absurd (.inr q) h3
        have hnb := numB_bound (bs.take 4) (fun c hc => hb c (List.mem_of_mem_take hc))
        rw [List.length_take, show min 4 bs.length = 4 by omega] at hnb
        refine .inr ⟨_, _, rfl, hnb.1, by have := hnb.2; omega, hmy, ?_⟩
        have e1 := flat_items (t := bs.drop 5) (fun c hc => hb c (List.mem_of_mem_drop hc)) m (by rw [List.length_drop]; omega) ho
        rw [List.take_of_length_le (by rw [List.length_drop]; omega)] at e1
        unfold askB
        rw [e1, itemsQ_length]
        match bs, hl5 with
        | a0 :: a1 :: a2 :: a3 :: a4 :: r, _ =>
          have e2 : (a0 :: a1 :: a2 :: a3 :: a4 :: r).take 4 = [a0, a1, a2, a3] := rfl
          have e3 : (a0 :: a1 :: a2 :: a3 :: a4 :: r).drop 5 = r := rfl
          have e4 : (a0 :: a1 :: a2 :: a3 :: a4 :: r).getD 4 0 = a4 := rfl
          rw [e4] at hm'
          rw [e2, e3, be4_numB (hb a0 (by simp)) (hb a1 (by simp)) (hb a2 (by simp)) (hb a3 (by simp)), ← hm']
          rfl

end Go.Proofs.Ytboambncimdfjaa
