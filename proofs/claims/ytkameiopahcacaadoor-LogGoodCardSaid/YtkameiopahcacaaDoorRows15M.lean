/- The frames' numbers (log), in plain words. No program here. -/
import Derived.Test.YtkameiopahcacaaDoorRec15M
set_option linter.unusedVariables false
set_option linter.unusedSimpArgs false
namespace Go.Proofs.YtkameiopahcacaaDoor

theorem nextF_num {bs : List Int} {f : Fm} (h : badF bs f = false) : (nextF bs f).num = (f.num + 1) % 4294967296 := by
  unfold badF at h
  simp only [Bool.or_eq_false_iff, Bool.not_eq_false', decide_eq_true_eq] at h
  exact h.1.2
/-- The frames' numbers: one behind the other; each frame takes ten bytes at least. -/
theorem framesF_num (bs : List Int) : ∀ (k : Nat) (f : Fm) (i : Nat) (x : Fm), (framesF bs k f)[i]? = some x → x.num = (f.num + 1 + i) % 4294967296 ∧ f.fin + 10 * (i + 1) ≤ x.fin := by
  intro k
  induction k with
  | zero => intro f i x hx; simp [framesF] at hx
  | succ k ih =>
    intro f i x hx
    rw [framesF] at hx
    cases hc : badF bs f with
    | true => rw [hc] at hx; simp at hx
    | false =>
      rw [hc] at hx
      simp only [Bool.false_eq_true, if_false] at hx
      have hg := goodF hc
      have hn := nextF_num hc
      cases i with
      | zero =>
        simp only [List.getElem?_cons_zero, Option.some.injEq] at hx
        subst hx
        exact ⟨by rw [hn], by omega⟩
      | succ i =>
        rw [List.getElem?_cons_succ] at hx
        have := ih _ _ _ hx
        rw [hn] at this
        omega
theorem framesL_num {bs : List Int} (hb : IsB bs) (hl : bs.length ≤ 1048576) {pre : List Fm} {x : Fm} (h : pre ++ [x] <+: framesL bs) : x.num = pre.length + 1 ∧ 10 * (pre.length + 1) ≤ bs.length := by
  obtain ⟨t, ht⟩ := h
  have hx : (framesL bs)[pre.length]? = some x := by rw [← ht]; simp
  have h1 := framesF_num bs _ _ _ _ hx
  have h2 := (framesL_mem hb (List.mem_of_getElem? hx)).1
  simp only at h1
  omega
/-- The payloads that stand. -/
def paysL (bs : List Int) : List (List Int) := (framesL bs).map (·.pay)

end Go.Proofs.YtkameiopahcacaaDoor
