/- The frames that stand in bytes (log): when one stands, what is laid behind them, what is cut. Plain. No program here. -/
import Derived.Test.YtkameiopahcacaaDoorRows15M
set_option linter.unusedVariables false
set_option linter.unusedSimpArgs false
namespace Go.Proofs.YtkameiopahcacaaDoor

def manyB (b : List Int) : Nat := (numB (b.take 2)).toNat
def nbrB (b : List Int) : Nat := (numB ((b.drop 2).take 4)).toNat
def sumB (b : List Int) : Nat := (numB ((b.drop 6).take 4)).toNat
def payB (b : List Int) : List Int := (b.drop 10).take (manyB b)
/-- The bytes hold a frame's length of bytes. -/
def whole (b : List Int) : Bool := decide (10 ≤ b.length) && decide (10 + manyB b ≤ b.length)

theorem takeR_ok {t : List Int} {n : Nat} (h : n ≤ t.length) : takeR t false n = (t.take n, t.drop n, false) := by
  unfold takeR
  rw [if_neg (by simp), if_neg (by omega)]
theorem takeR_sh {t : List Int} {sh : Bool} {n : Nat} (h : sh = true ∨ t.length < n) : (takeR t sh n).2.2 = true := by
  unfold takeR
  split
  · rfl
  · rename_i h1
    have h2 : t.length < n := by
      rcases h with h | h
      · exact absurd h h1
      · exact h
    rw [if_pos h2]
theorem takeR_len (t : List Int) (sh : Bool) (n : Nat) : (takeR t sh n).2.2 = true ∨ (takeR t sh n).2.1.length + n = t.length := by
  unfold takeR
  split
  · exact .inl rfl
  split
  · exact .inl rfl
  · right; simp only [List.length_drop]; omega

section
variable {bs : List Int} {f : Fm}
theorem rd_whole (h : whole (bs.drop f.fin) = true) :
    rd1 bs f = ((bs.drop f.fin).take 2, (bs.drop f.fin).drop 2, false) ∧ rd2 bs f = (((bs.drop f.fin).drop 2).take 4, (bs.drop f.fin).drop 6, false) ∧
    rd3 bs f = (((bs.drop f.fin).drop 6).take 4, (bs.drop f.fin).drop 10, false) ∧ rd4 bs f = (payB (bs.drop f.fin), (bs.drop f.fin).drop (10 + manyB (bs.drop f.fin)), false) := by
  generalize hb : bs.drop f.fin = b at h
  unfold whole at h
  simp only [Bool.and_eq_true, decide_eq_true_eq] at h
  have e1 : rd1 bs f = (b.take 2, b.drop 2, false) := by unfold rd1; rw [hb]; exact takeR_ok (by omega)
  have e2 : rd2 bs f = ((b.drop 2).take 4, b.drop 6, false) := by
    unfold rd2; rw [e1]; dsimp only; rw [takeR_ok (by simp; omega), List.drop_drop]
  have e3 : rd3 bs f = ((b.drop 6).take 4, b.drop 10, false) := by
    unfold rd3; rw [e2]; dsimp only; rw [takeR_ok (by simp; omega), List.drop_drop]
  refine ⟨e1, e2, e3, ?_⟩
  unfold rd4
  rw [e3, e1]
  dsimp only
  have e5 : (numB (b.take 2)).toNat = manyB b := rfl
  rw [e5, takeR_ok (by simp; omega), List.drop_drop]
  rfl
theorem badF_whole (h : whole (bs.drop f.fin) = true) :
    badF bs f = (!decide (nbrB (bs.drop f.fin) = (f.num + 1) % 4294967296) || !decide (sumB (bs.drop f.fin) = checkN f.sum (nbrB (bs.drop f.fin)) (payB (bs.drop f.fin)))) := by
  obtain ⟨e1, e2, e3, e4⟩ := rd_whole h
  unfold badF
  rw [e4, e2, e3]
  rfl
theorem nextF_whole (h : whole (bs.drop f.fin) = true) : nextF bs f = ⟨payB (bs.drop f.fin), nbrB (bs.drop f.fin), sumB (bs.drop f.fin), f.fin + 10 + manyB (bs.drop f.fin)⟩ := by
  obtain ⟨e1, e2, e3, e4⟩ := rd_whole h
  unfold nextF
  rw [e4, e2, e3, e1]
  rfl
theorem badF_short (h : whole (bs.drop f.fin) = false) : badF bs f = true := by
  have hs : (rd4 bs f).2.2 = true := by
    cases hc : (rd4 bs f).2.2 with
    | true => rfl
    | false =>
      exfalso
      have s3 : (rd3 bs f).2.2 = false := takeR_st' hc
      have s2 : (rd2 bs f).2.2 = false := takeR_st' s3
      have s1 : (rd1 bs f).2.2 = false := takeR_st' s2
      have l1 := (takeR_len (bs.drop f.fin) false 2).resolve_left (by rw [show takeR (bs.drop f.fin) false 2 = rd1 bs f from rfl, s1]; decide)
      have l2 := (takeR_len (rd1 bs f).2.1 (rd1 bs f).2.2 4).resolve_left (by rw [show takeR (rd1 bs f).2.1 (rd1 bs f).2.2 4 = rd2 bs f from rfl, s2]; decide)
      have l3 := (takeR_len (rd2 bs f).2.1 (rd2 bs f).2.2 4).resolve_left (by rw [show takeR (rd2 bs f).2.1 (rd2 bs f).2.2 4 = rd3 bs f from rfl, s3]; decide)
      have l4 := (takeR_len (rd3 bs f).2.1 (rd3 bs f).2.2 (numB (rd1 bs f).1).toNat).resolve_left (by rw [show takeR (rd3 bs f).2.1 (rd3 bs f).2.2 (numB (rd1 bs f).1).toNat = rd4 bs f from rfl, hc]; decide)
      rw [show takeR (bs.drop f.fin) false 2 = rd1 bs f from rfl] at l1
      rw [show takeR (rd1 bs f).2.1 (rd1 bs f).2.2 4 = rd2 bs f from rfl] at l2
      rw [show takeR (rd2 bs f).2.1 (rd2 bs f).2.2 4 = rd3 bs f from rfl] at l3
      have e1 : rd1 bs f = ((bs.drop f.fin).take 2, (bs.drop f.fin).drop 2, false) := takeR_ok (by omega)
      have e5 : (numB (rd1 bs f).1).toNat = manyB (bs.drop f.fin) := by rw [e1]; rfl
      rw [e5] at l4
      unfold whole at h
      simp only [Bool.and_eq_false_iff, decide_eq_false_iff_not] at h
      omega
  unfold badF
  rw [hs]
  rfl
theorem badF_false (h : badF bs f = false) : whole (bs.drop f.fin) = true := by
  cases hw : whole (bs.drop f.fin) with
  | true => rfl
  | false => rw [badF_short hw] at h; simp at h
end

theorem whole_app {b : List Int} (s : List Int) (h : whole b = true) : whole (b ++ s) = true ∧ manyB (b ++ s) = manyB b ∧ nbrB (b ++ s) = nbrB b ∧ sumB (b ++ s) = sumB b ∧ payB (b ++ s) = payB b := by
  unfold whole at h
  simp only [Bool.and_eq_true, decide_eq_true_eq] at h
  have em : manyB (b ++ s) = manyB b := by unfold manyB; rw [List.take_append_of_le_length (by omega)]
  refine ⟨?_, em, ?_, ?_, ?_⟩
  · unfold whole
    rw [em]
    simp only [List.length_append, Bool.and_eq_true, decide_eq_true_eq]
    omega
  · unfold nbrB
    rw [List.drop_append_of_le_length (by omega), List.take_append_of_le_length (by simp; omega)]
  · unfold sumB
    rw [List.drop_append_of_le_length (by omega), List.take_append_of_le_length (by simp; omega)]
  · unfold payB
    rw [em, List.drop_append_of_le_length (by omega), List.take_append_of_le_length (by simp; omega)]
/-- A frame that stands stands whatever is laid behind. -/
theorem good_app {bs : List Int} {f : Fm} (s : List Int) (hf : f.fin ≤ bs.length) (h : badF bs f = false) : badF (bs ++ s) f = false ∧ nextF (bs ++ s) f = nextF bs f := by
  have hw := badF_false h
  obtain ⟨w1, w2, w3, w4, w5⟩ := whole_app s hw
  have ed : (bs ++ s).drop f.fin = bs.drop f.fin ++ s := List.drop_append_of_le_length hf
  have hw' : whole ((bs ++ s).drop f.fin) = true := by rw [ed]; exact w1
  rw [badF_whole hw', nextF_whole hw', ed, w2, w3, w4, w5, ← badF_whole hw, nextF_whole hw]
  exact ⟨h, rfl⟩
theorem framesFrom_app (bs s : List Int) : ∀ (k : Nat) (f : Fm), bs.length < f.fin + 10 * k → f.fin ≤ bs.length → framesFrom (bs ++ s) f = framesFrom bs f ++ framesFrom (bs ++ s) ((framesFrom bs f).getLastD f) := by
  intro k
  induction k with
  | zero => intro f h1 h2; omega
  | succ k ih =>
    intro f h1 h2
    cases hc : badF bs f with
    | true => rw [framesFrom_bad hc]; rfl
    | false =>
      obtain ⟨g1, g2⟩ := good_app s h2 hc
      have hg := goodF hc
      rw [framesFrom_good hc, framesFrom_good g1, g2, ih (nextF bs f) (by omega) hg.1]
      simp only [List.cons_append, List.cons.injEq, true_and, List.append_cancel_left_eq]
      rw [List.getLastD_cons]
/-- What stands, and what stands behind it. -/
theorem framesL_app (bs s : List Int) : framesL (bs ++ s) = framesL bs ++ framesFrom (bs ++ s) (lastF (framesL bs)) :=
  framesFrom_app bs s (bs.length + 1) _ (by simp only; omega) (Nat.zero_le _)
theorem lastF_app (a b : List Fm) : lastF (a ++ b) = b.getLastD (lastF a) := by
  cases b with
  | nil => simp [lastF]
  | cons x t =>
    have e := List.dropLast_concat_getLast (List.cons_ne_nil x t)
    rw [← e, ← List.append_assoc, lastF_snoc]
    simp

/-! ### One more frame -/
theorem numB_be2 {n : Int} (h0 : 0 ≤ n) (h1 : n < 65536) : numB (be2 n) = n := by
  simp only [be2, numB, List.foldl_cons, List.foldl_nil]
  omega
theorem numB_be4' {n : Int} (h0 : 0 ≤ n) (h1 : n < 4294967296) : numB (be4 n) = n := by
  simp only [be4, be2, numB, List.cons_append, List.nil_append, List.foldl_cons, List.foldl_nil]
  omega
theorem frameN_parts {n s : Nat} {x t : List Int} (hn : n < 4294967296) (hs : s < 4294967296) (hx : x.length ≤ 65535) :
    whole (frameN n s x ++ t) = true ∧ manyB (frameN n s x ++ t) = x.length ∧ nbrB (frameN n s x ++ t) = n ∧ sumB (frameN n s x ++ t) = s ∧ payB (frameN n s x ++ t) = x := by
  have e0 : frameN n s x ++ t = be2 x.length ++ (be4 n ++ (be4 s ++ (x ++ t))) := by unfold frameN; simp only [List.append_assoc]
  have l2 : ∀ n : Int, (be2 n).length = 2 := fun n => rfl
  have l4 : ∀ n : Int, (be4 n).length = 4 := fun n => rfl
  have em : manyB (frameN n s x ++ t) = x.length := by
    unfold manyB
    rw [e0, List.take_left' (l2 _), numB_be2 (by omega) (by omega)]
    rfl
  have d2 : (frameN n s x ++ t).drop 2 = be4 n ++ (be4 s ++ (x ++ t)) := by rw [e0, List.drop_left' (l2 _)]
  have d6 : (frameN n s x ++ t).drop 6 = be4 s ++ (x ++ t) := by rw [show 6 = 2 + 4 from rfl, ← List.drop_drop, d2, List.drop_left' (l4 _)]
  have d10 : (frameN n s x ++ t).drop 10 = x ++ t := by rw [show 10 = 6 + 4 from rfl, ← List.drop_drop, d6, List.drop_left' (l4 _)]
  refine ⟨?_, em, ?_, ?_, ?_⟩
  · unfold whole
    rw [em]
    simp only [List.length_append, frameN_length, Bool.and_eq_true, decide_eq_true_eq]
    omega
  · unfold nbrB
    rw [d2, List.take_left' (l4 _), numB_be4' (by omega) (by omega)]
    rfl
  · unfold sumB
    rw [d6, List.take_left' (l4 _), numB_be4' (by omega) (by omega)]
    rfl
  · unfold payB
    rw [em, d10, List.take_left' rfl]
/-- A frame laid at the end of what stands. -/
theorem frame_next {bs : List Int} {f : Fm} {n : Nat} {x t : List Int} (hd : bs.drop f.fin = frameN n (checkN f.sum n x) x ++ t) (hn : n = (f.num + 1) % 4294967296) (hs : checkN f.sum n x < 4294967296) (hx : x.length ≤ 65535) :
    framesFrom bs f = ⟨x, n, checkN f.sum n x, f.fin + 10 + x.length⟩ :: framesFrom bs ⟨x, n, checkN f.sum n x, f.fin + 10 + x.length⟩ := by
  obtain ⟨w1, w2, w3, w4, w5⟩ := frameN_parts (t := t) (show n < 4294967296 by omega) hs hx
  rw [← hd] at w1 w2 w3 w4 w5
  have hb : badF bs f = false := by rw [badF_whole w1, w3, w4, w5]; simp [hn]
  rw [framesFrom_good hb, nextF_whole w1, w2, w3, w4, w5]
theorem framesFrom_short {bs : List Int} {f : Fm} (h : bs.length < f.fin + 10) : framesFrom bs f = [] := by
  refine framesFrom_bad (badF_short ?_)
  unfold whole
  simp only [List.length_drop, Bool.and_eq_false_iff, decide_eq_false_iff_not]
  omega

/-! ### What stands whole, up to its end -/
/-- The frames that stand in c end just where c ends. -/
def Full (c : List Int) : Prop := (lastF (framesL c)).fin = c.length
theorem Full.nil : Full [] := by unfold Full; rfl
theorem framesL_full {c : List Int} (h : Full c) {n : Nat} {x t : List Int} (hn : n = ((lastF (framesL c)).num + 1) % 4294967296) (hs : checkN (lastF (framesL c)).sum n x < 4294967296) (hx : x.length ≤ 65535) :
    framesL (c ++ frameN n (checkN (lastF (framesL c)).sum n x) x) = framesL c ++ [⟨x, n, checkN (lastF (framesL c)).sum n x, c.length + 10 + x.length⟩] ∧ Full (c ++ frameN n (checkN (lastF (framesL c)).sum n x) x) := by
  have e1 : framesL (c ++ frameN n (checkN (lastF (framesL c)).sum n x) x) = framesL c ++ [⟨x, n, checkN (lastF (framesL c)).sum n x, c.length + 10 + x.length⟩] := by
    rw [framesL_app, frame_next (n := n) (x := x) (t := []) (by rw [h, List.drop_left]; simp) hn hs hx, framesFrom_short (by rw [h]; simp only [List.length_append, frameN_length]; omega), h]
  refine ⟨e1, ?_⟩
  unfold Full
  rw [e1, lastF_snoc]
  simp only [List.length_append, frameN_length]
  omega

end Go.Proofs.YtkameiopahcacaaDoor
