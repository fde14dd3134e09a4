/- A frame that is torn (log): what may stand there by chance. Plain. No program here. -/
import Derived.Test.YtkameiopahcacaaDoorLf15
set_option linter.unusedVariables false
set_option linter.unusedSimpArgs false
set_option maxRecDepth 100000
namespace Go.Proofs.YtkameiopahcacaaDoor

/-- The last check of payloads. -/
def chainFrom : Nat → Nat → List (List Int) → Nat
  | _, s, [] => s
  | k, s, p :: ps => chainFrom (k + 1) (checkN s (k + 1) p) ps
def chainS (ps : List (List Int)) : Nat := chainFrom 0 0 ps
theorem chainFrom_snoc (ps : List (List Int)) (x : List Int) : ∀ (k s : Nat), chainFrom k s (ps ++ [x]) = checkN (chainFrom k s ps) (k + ps.length + 1) x := by
  induction ps with
  | nil => intro k s; rfl
  | cons p ps ih =>
    intro k s
    show chainFrom (k + 1) (checkN s (k + 1) p) (ps ++ [x]) = _
    rw [ih]
    show checkN (chainFrom (k + 1) _ ps) _ x = checkN (chainFrom (k + 1) _ ps) _ x
    rw [show k + 1 + ps.length + 1 = k + (p :: ps).length + 1 by simp only [List.length_cons]; omega]
theorem chainS_snoc (ps : List (List Int)) (x : List Int) : chainS (ps ++ [x]) = checkN (chainS ps) (ps.length + 1) x := by
  unfold chainS
  rw [chainFrom_snoc, Nat.zero_add]
theorem chainS_lt (ps : List (List Int)) : chainS ps < 4294967296 := by
  by_cases h : ps = []
  · subst h; decide
  · rw [← List.dropLast_concat_getLast h, chainS_snoc]; exact checkN_lt _ _ _

theorem be2_numB {t : List Int} (h : t.length = 2) (hb : IsB t) : be2 (numB t) = t := by
  match t, h with
  | [a, b], _ =>
    have ha := hb a (by simp)
    have hb' := hb b (by simp)
    simp only [be2, numB, List.foldl_cons, List.foldl_nil, List.cons.injEq, and_true]
    refine ⟨?_, ?_⟩ <;> omega
theorem be4_numB' {t : List Int} (h : t.length = 4) (hb : IsB t) : be4 (numB t) = t := by
  match t, h with
  | [a, b, c, d], _ =>
    have ha := hb a (by simp)
    have hb' := hb b (by simp)
    have hc := hb c (by simp)
    have hd := hb d (by simp)
    simp only [be4, be2, numB, List.cons_append, List.nil_append, List.foldl_cons, List.foldl_nil, List.cons.injEq, and_true]
    refine ⟨?_, ?_, ?_, ?_⟩ <;> omega
theorem numB_nat {t : List Int} (hb : IsB t) : ((numB t).toNat : Int) = numB t := by
  have := (numB_bound t hb).1
  omega
/-- Bytes that hold a whole frame's length are that frame, and what is behind. -/
theorem frame_of_whole {t : List Int} (hb : IsB t) (hw : whole t = true) : t = frameN (nbrB t) (sumB t) (payB t) ++ t.drop (10 + manyB t) ∧ (payB t).length = manyB t := by
  unfold whole at hw
  simp only [Bool.and_eq_true, decide_eq_true_eq] at hw
  have hpl : (payB t).length = manyB t := by
    unfold payB
    rw [List.length_take, List.length_drop]; omega
  refine ⟨?_, hpl⟩
  unfold frameN
  rw [hpl]
  have e1 : be2 (manyB t : Int) = t.take 2 := by
    unfold manyB
    rw [numB_nat (fun c hc => hb c (List.mem_of_mem_take hc))]
    exact be2_numB (by rw [List.length_take]; omega) (fun c hc => hb c (List.mem_of_mem_take hc))
  have e2 : be4 (nbrB t : Int) = (t.drop 2).take 4 := by
    have h : IsB ((t.drop 2).take 4) := fun c hc => hb c (List.mem_of_mem_drop (List.mem_of_mem_take hc))
    unfold nbrB
    rw [numB_nat h]
    exact be4_numB' (by rw [List.length_take, List.length_drop]; omega) h
  have e3 : be4 (sumB t : Int) = (t.drop 6).take 4 := by
    have h : IsB ((t.drop 6).take 4) := fun c hc => hb c (List.mem_of_mem_drop (List.mem_of_mem_take hc))
    unfold sumB
    rw [numB_nat h]
    exact be4_numB' (by rw [List.length_take, List.length_drop]; omega) h
  rw [e1, e2, e3]
  unfold payB
  have s1 : t = t.take 2 ++ t.drop 2 := (List.take_append_drop 2 t).symm
  have s2 : t.drop 2 = (t.drop 2).take 4 ++ t.drop 6 := by rw [show 6 = 2 + 4 from rfl, ← List.drop_drop, List.take_append_drop]
  have s3 : t.drop 6 = (t.drop 6).take 4 ++ t.drop 10 := by rw [show 10 = 6 + 4 from rfl, ← List.drop_drop, List.take_append_drop]
  have s4 : t.drop 10 = (t.drop 10).take (manyB t) ++ t.drop (10 + manyB t) := by rw [← List.drop_drop, List.take_append_drop]
  calc t = t.take 2 ++ ((t.drop 2).take 4 ++ ((t.drop 6).take 4 ++ ((t.drop 10).take (manyB t) ++ t.drop (10 + manyB t)))) := by rw [← s4, ← s3, ← s2, ← s1]
    _ = _ := by simp only [List.append_assoc]

/-- Torn bytes behind what stands: nothing more stands there, or just one frame, of as many bytes. -/
theorem torn_frame {c : List Int} {ps : List (List Int)} {sum : Nat} (h : LF c ps sum) (hps : ps.length + 1 < 256) {x : List Int} (hx : x.length < 256) (hxb : IsB x) (bits m : Nat) :
    let n := ps.length + 1
    let T := (frameN n (checkN sum n x) x).take bits ++ List.replicate m 0
    NoMore c T ∨ ∃ (g : List Int) (m' : Nat), g.length = x.length ∧ IsB g ∧ T = frameN n (checkN sum n g) g ++ List.replicate m' 0 ∧ (10 + x.length ≤ bits → g = x) := by
  intro n T
  have hFb : IsB (frameN n (checkN sum n x) x) := frameN_isB (by omega) (checkN_lt _ _ _) hxb (by omega)
  have hFl : (frameN n (checkN sum n x) x).length = 10 + x.length := frameN_length _ _ _
  have hTb : IsB T := isB_app2 (fun c hc => hFb c (List.mem_of_mem_take hc)) (zeros_isB m)
  by_cases hgood : whole T = true ∧ nbrB T = n ∧ sumB T = checkN sum (nbrB T) (payB T)
  · right
    obtain ⟨hw, hn, hs⟩ := hgood
    obtain ⟨hfr, hpl⟩ := frame_of_whole hTb hw
    have hlen10 : 10 ≤ T.length := by
      unfold whole at hw
      simp only [Bool.and_eq_true, decide_eq_true_eq] at hw
      exact hw.1
    have hTl : T.length = min bits (10 + x.length) + m := by show (_ ++ _ : List Int).length = _; rw [List.length_append, List.length_take, hFl, List.length_replicate]
    -- the length
    have hp := (frameN_parts (n := n) (s := checkN sum n x) (x := x) (t := []) (by omega) (checkN_lt _ _ _) (by omega))
    rw [List.append_nil] at hp
    have hmany : manyB T = x.length := by
      by_cases h2 : 2 ≤ bits
      · rw [← hp.2.1]
        show (numB (((frameN n (checkN sum n x) x).take bits ++ List.replicate m 0).take 2)).toNat = _
        rw [List.take_append_of_le_length (by rw [List.length_take, hFl]; omega), List.take_take, Nat.min_eq_left h2]
        rfl
      · exfalso
        have e : (T.drop 2).take 4 = List.replicate 4 0 := by
          show (((frameN n (checkN sum n x) x).take bits ++ List.replicate m 0).drop 2).take 4 = _
          rw [List.drop_append, List.drop_of_length_le (by rw [List.length_take]; omega), List.nil_append, List.drop_replicate, List.take_replicate, List.length_take, hFl]
          rw [show min 4 (m - (2 - min bits (10 + x.length))) = 4 by omega]
        have : nbrB T = 0 := by unfold nbrB; rw [e, numB_zeros]; rfl
        omega
    have hrest : ∃ m', T.drop (10 + x.length) = List.replicate m' 0 := by
      refine ⟨m - (10 + x.length - min bits (10 + x.length)), ?_⟩
      show ((frameN n (checkN sum n x) x).take bits ++ List.replicate m 0).drop (10 + x.length) = _
      rw [List.drop_append, List.drop_of_length_le (by rw [List.length_take, hFl]; omega), List.nil_append, List.drop_replicate, List.length_take, hFl]
    obtain ⟨m', hm'⟩ := hrest
    rw [hmany, hm', hs, hn] at hfr
    refine ⟨payB T, m', by rw [hpl, hmany], fun c hc => hTb c (by unfold payB at hc; exact List.mem_of_mem_drop (List.mem_of_mem_take hc)), hfr, ?_⟩
    intro hbits
    have e1 : T = frameN n (checkN sum n x) x ++ List.replicate m 0 := by
      show (frameN n (checkN sum n x) x).take bits ++ List.replicate m 0 = _
      rw [List.take_of_length_le (by rw [hFl]; exact hbits)]
    have hp2 := (frameN_parts (n := n) (s := checkN sum n x) (x := x) (t := List.replicate m 0) (by omega) (checkN_lt _ _ _) (by omega))
    rw [e1]
    exact hp2.2.2.2.2
  · left
    refine noMore_bad h (fun hw => ?_) (by omega)
    by_cases h1 : nbrB T = n
    · exact .inr (fun h2 => hgood ⟨hw, h1, h2⟩)
    · exact .inl h1

end Go.Proofs.YtkameiopahcacaaDoor
