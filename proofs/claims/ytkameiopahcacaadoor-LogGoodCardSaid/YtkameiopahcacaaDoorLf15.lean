/- A log's bytes, its payloads, and what may stand behind them: in plain words. No program here. -/
import Derived.Test.YtkameiopahcacaaDoorKn15M
set_option linter.unusedVariables false
set_option linter.unusedSimpArgs false
set_option maxRecDepth 100000
namespace Go.Proofs.YtkameiopahcacaaDoor

/-- In c stand the payloads ps, whole, up to c's end. -/
structure LF (c : List Int) (ps : List (List Int)) (sum : Nat) : Prop where
  full : Full c
  pays : (framesL c).map (·.pay) = ps
  sum : (lastF (framesL c)).sum = sum
  num : (lastF (framesL c)).num = ps.length
theorem LF.nil : LF [] [] 0 := ⟨Full.nil, rfl, rfl, rfl⟩
theorem LF.snoc {c : List Int} {ps : List (List Int)} {sum : Nat} (h : LF c ps sum) {x : List Int} (hx : x.length ≤ 65535) (hn : ps.length + 1 < 4294967296) :
    LF (c ++ frameN (ps.length + 1) (checkN sum (ps.length + 1) x) x) (ps ++ [x]) (checkN sum (ps.length + 1) x) := by
  have hf := framesL_full h.full (n := ps.length + 1) (x := x) (t := []) (by rw [h.num]; omega) (checkN_lt _ _ _) hx
  rw [h.sum] at hf
  refine ⟨hf.2, ?_, ?_, ?_⟩
  · rw [hf.1, List.map_append, h.pays]; rfl
  · rw [hf.1, lastF_snoc]
  · rw [hf.1, lastF_snoc]; simp
def lgF (c : List Int) (ps : List (List Int)) (sum : Nat) : Lg := ⟨c.length, sum, ps.length + 1⟩
/-- Behind c stands no frame. -/
def NoMore (c t : List Int) : Prop := framesFrom (c ++ t) (lastF (framesL c)) = []
theorem LF.endE {c t : List Int} {ps : List (List Int)} {sum : Nat} (h : LF c ps sum) (ht : NoMore c t) : recE (c ++ t) = lastF (framesL c) ∧ framesL (c ++ t) = framesL c := by
  have e : framesL (c ++ t) = framesL c := by rw [framesL_app, ht, List.append_nil]
  exact ⟨by unfold recE; rw [e], e⟩
theorem LF.endG {c t : List Int} {ps : List (List Int)} {sum : Nat} (h : LF c ps sum) (ht : NoMore c t) (hn : ps.length + 1 < 4294967296) : recG (c ++ t) = lgF c ps sum := by
  unfold recG lgF
  rw [(h.endE ht).1, h.full, h.sum, h.num, Nat.mod_eq_of_lt hn]
theorem numB_zeros (n : Nat) : numB (List.replicate n 0) = 0 := by
  induction n with
  | zero => rfl
  | succ n ih => rw [List.replicate_succ', numB_snoc, ih]; rfl
theorem noMore_bad {c t : List Int} {ps : List (List Int)} {sum : Nat} (h : LF c ps sum) (hb : whole t = true → nbrB t ≠ ps.length + 1 ∨ sumB t ≠ checkN sum (nbrB t) (payB t)) (hn : ps.length + 1 < 4294967296) : NoMore c t := by
  have ed : (c ++ t).drop (lastF (framesL c)).fin = t := by rw [h.full, List.drop_left]
  refine framesFrom_bad ?_
  cases hw : whole t with
  | false => exact badF_short (by rw [ed]; exact hw)
  | true =>
    rw [badF_whole (by rw [ed]; exact hw), ed, h.num, h.sum]
    rcases hb hw with h1 | h1
    · simp only [Bool.or_eq_true, Bool.not_eq_true', decide_eq_false_iff_not]
      exact .inl (by omega)
    · simp only [Bool.or_eq_true, Bool.not_eq_true', decide_eq_false_iff_not]
      exact .inr h1
theorem noMore_zeros {c : List Int} {ps : List (List Int)} {sum : Nat} (h : LF c ps sum) (hn : ps.length + 1 < 4294967296) (k : Nat) : NoMore c (List.replicate k 0) := by
  refine noMore_bad h (fun _ => .inl ?_) hn
  unfold nbrB
  rw [List.drop_replicate, List.take_replicate, numB_zeros]
  simp
theorem noMore_short {c t : List Int} {ps : List (List Int)} {sum : Nat} (h : LF c ps sum) (hn : ps.length + 1 < 4294967296) (hw : whole t = false) : NoMore c t :=
  noMore_bad h (fun h1 => by rw [hw] at h1; simp at h1) hn
/-- A frame's first bytes are no frame's length. -/
theorem whole_torn {n s : Nat} {x : List Int} (hn : n < 4294967296) (hs : s < 4294967296) (hx : x.length ≤ 65535) {k : Nat} (hk : k < 10 + x.length) : whole ((frameN n s x).take k) = false := by
  have hl := frameN_length n s x
  have hp := (frameN_parts (t := []) hn hs hx).2.1
  rw [List.append_nil] at hp
  unfold whole
  simp only [Bool.and_eq_false_iff, decide_eq_false_iff_not, List.length_take, hl]
  by_cases h10 : k < 10
  · exact .inl (by omega)
  · right
    have e : manyB ((frameN n s x).take k) = x.length := by
      rw [← hp]
      unfold manyB
      rw [List.take_take, Nat.min_eq_left (by omega)]
    rw [e]; omega

/-! ### The disk's calls where the log ends -/
theorem lay_tail {c t x : List Int} : layB (c ++ t) c.length x = c ++ (x ++ t.drop x.length) := by
  unfold layB
  rw [List.take_left, List.drop_append]
  simp
theorem Dsk.put_at {d : Dsk} {c t x : List Int} (hb : d.b = c ++ t) (hs : d.st = false) (hc : (c.length : Int) + x.length ≤ d.cap) :
    (¬ (d.is = true ∧ d.p = 0) → d.put c.length x = (0, { d with b := c ++ (x ++ t.drop x.length), puts := wr64 (d.puts + 1), p := wr64 (d.p - 1) })) ∧
    (d.is = true ∧ d.p = 0 → d.put c.length x = (10, { d with b := c ++ (x.take d.n.toNat ++ t.drop (x.take d.n.toNat).length), st := true, is := false, p := 0, n := 0 })) := by
  have h1 : ¬ d.st = true := by rw [hs]; decide
  have h2 : ¬ ((c.length : Int) < 0 ∨ (d.b.length : Int) < c.length) := by rw [hb, List.length_append]; omega
  have h3 : ¬ (d.cap - c.length < x.length) := by omega
  have hl : ∀ y : List Int, layB d.b (c.length : Int).toNat y = c ++ (y ++ t.drop y.length) := fun y => by
    have e : (c.length : Int).toNat = c.length := by omega
    rw [e, hb, lay_tail]
  constructor
  · intro h4
    unfold Dsk.put
    rw [if_neg h1, if_neg h2, if_neg h3, if_neg h4, hl]
  · intro h4
    unfold Dsk.put
    rw [if_neg h1, if_neg h2, if_neg h3, if_pos h4, hl]
/-- Recovered where behind c stands no frame, no plan being at hand. -/
theorem LF.recov {d : Dsk} {c t : List Int} {ps : List (List Int)} {sum : Nat} (h : LF c ps sum) (ht : NoMore c t) (hn : ps.length + 1 < 4294967296) (hb : d.b = c ++ t) (hs : d.st = false) (hok : d.ok) (hp : ¬ (d.is = true ∧ d.p = 0)) :
    recG d.b = lgF c ps sum ∧ d.recov.1 = 0 ∧ d.recov.2.b = c ++ List.replicate t.length 0 ∧ d.recov.2.st = false ∧ d.recov.2.is = d.is ∧ d.recov.2.n = d.n ∧ d.recov.2.cap = d.cap ∧ (d.recov.2.p = d.p ∨ d.recov.2.p = wr64 (d.p - 1)) := by
  refine ⟨by rw [hb]; exact h.endG ht hn, ?_⟩
  have hl : d.b.length = c.length + t.length := by rw [hb, List.length_append]
  have hcap := hok.len
  unfold Dsk.recov
  rw [if_neg (by rw [hs]; decide)]
  rw [show (recE d.b).fin = c.length by rw [hb, (h.endE ht).1, h.full], hl]
  by_cases ht0 : t = []
  · subst ht0
    rw [if_neg (by simp)]
    exact ⟨rfl, by simpa using hb, hs, rfl, rfl, rfl, .inl rfl⟩
  · have htl : 0 < t.length := List.length_pos_iff.2 ht0
    rw [if_pos (by omega), show c.length + t.length - c.length = t.length by omega]
    rw [(Dsk.put_at hb hs (x := List.replicate t.length 0) (by rw [List.length_replicate]; omega)).1 hp]
    refine ⟨rfl, ?_, hs, rfl, rfl, rfl, .inr rfl⟩
    show c ++ (List.replicate t.length 0 ++ t.drop (List.replicate t.length 0).length) = _
    rw [List.length_replicate, List.drop_length, List.append_nil]
/-- Append, a plan being at hand that stops just this put. -/
theorem LF.app_torn {d : Dsk} {c t : List Int} {ps : List (List Int)} {sum : Nat} (h : LF c ps sum) (hb : d.b = c ++ t) (hs : d.st = false) {x : List Int} (hx : x.length ≤ 65535) (hc : c.length + 10 + x.length ≤ d.cap) (hp : d.is = true ∧ d.p = 0) :
    (lgF c ps sum).app d x = ((0, 10), lgF c ps sum, { d with b := c ++ ((frameN (ps.length + 1) (checkN sum (ps.length + 1) x) x).take d.n.toNat ++ t.drop ((frameN (ps.length + 1) (checkN sum (ps.length + 1) x) x).take d.n.toNat).length), st := true, is := false, p := 0, n := 0 }) :=
  Lg.app_no (l := lgF c ps sum) (d := d) (sm := checkN sum (ps.length + 1) x) hx rfl
    ((Dsk.put_at hb hs (by rw [frameN_length]; omega)).2 hp) (by decide)
/-- Append, with room, no plan stopping it. -/
theorem LF.app_good {d : Dsk} {c t : List Int} {ps : List (List Int)} {sum : Nat} (h : LF c ps sum) (hb : d.b = c ++ t) (hs : d.st = false) {x : List Int} (hx : x.length ≤ 65535) (hn : ps.length + 2 < 4294967296) (hc : c.length + 10 + x.length ≤ d.cap) (hp : ¬ (d.is = true ∧ d.p = 0)) :
    (lgF c ps sum).app d x = ((ps.length + 1, 0), lgF (c ++ frameN (ps.length + 1) (checkN sum (ps.length + 1) x) x) (ps ++ [x]) (checkN sum (ps.length + 1) x),
      { d with b := (c ++ frameN (ps.length + 1) (checkN sum (ps.length + 1) x) x) ++ t.drop (10 + x.length), puts := wr64 (d.puts + 1), p := wr64 (d.p - 1) }) := by
  rw [Lg.app_yes (l := lgF c ps sum) (d := d) (sm := checkN sum (ps.length + 1) x) hx rfl ((Dsk.put_at hb hs (by rw [frameN_length]; omega)).1 hp)]
  have e1 : (ps.length + 1 + 1) % 4294967296 = ps.length + 1 + 1 := Nat.mod_eq_of_lt (by omega)
  unfold lgF
  simp only [e1, frameN_length, List.length_append, List.length_cons, List.length_nil, Prod.mk.injEq, Lg.mk.injEq, true_and, and_true]
  refine ⟨by omega, ?_⟩
  rw [List.append_assoc]

end Go.Proofs.YtkameiopahcacaaDoor
