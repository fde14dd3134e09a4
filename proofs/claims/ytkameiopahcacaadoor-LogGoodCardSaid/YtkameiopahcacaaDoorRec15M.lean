/- What Recover finds (log), in plain words. No program here. -/
import Derived.Test.YtkameiopahcacaaDoorFrm15M
import Derived.Test.YtkameiopahcacaaDoorDskM
set_option linter.unusedVariables false
set_option linter.unusedSimpArgs false
namespace Go.Proofs.YtkameiopahcacaaDoor

/-- The last frame that stands (none: the empty start). -/
def lastF (l : List Fm) : Fm := l.getLastD ⟨[], 0, 0, 0⟩
theorem lastF_nil : lastF [] = ⟨[], 0, 0, 0⟩ := rfl
theorem lastF_snoc (l : List Fm) (x : Fm) : lastF (l ++ [x]) = x := by simp [lastF]
/-- What Recover answers, and what it leaves of the disk. -/
def recE (b : List Int) : Fm := lastF (framesL b)
def Dsk.recov (d : Dsk) : Int × Dsk :=
  if d.st = true then (10, d) else if (recE d.b).fin < d.b.length then d.put ((recE d.b).fin : Int) (List.replicate (d.b.length - (recE d.b).fin) 0) else (0, d)
theorem nextF_lt {bs : List Int} (hb : IsB bs) (f : Fm) : (nextF bs f).num < 4294967296 ∧ (nextF bs f).sum < 4294967296 := by
  have b0 : IsB (bs.drop f.fin) := fun c hc => hb c (List.mem_of_mem_drop hc)
  have b1 : IsB (rd1 bs f).2.1 := (tkB b0 _ _).1
  have b2 : IsB (rd2 bs f).2.1 := (tkB b1 _ _).1
  have h2 := takeR_num (rd1 bs f).2.1 (rd1 bs f).2.2 4 b1
  have h3 := takeR_num (rd2 bs f).2.1 (rd2 bs f).2.2 4 b2
  have e2 : (nextF bs f).num = (numB (rd2 bs f).1).toNat := rfl
  have e3 : (nextF bs f).sum = (numB (rd3 bs f).1).toNat := rfl
  have e4 : rd2 bs f = takeR (rd1 bs f).2.1 (rd1 bs f).2.2 4 := rfl
  have e5 : rd3 bs f = takeR (rd2 bs f).2.1 (rd2 bs f).2.2 4 := rfl
  rw [← e4] at h2
  rw [← e5] at h3
  omega
theorem framesF_mem {bs : List Int} (hb : IsB bs) : ∀ (k : Nat) (f x : Fm), x ∈ framesF bs k f → x.fin ≤ bs.length ∧ x.num < 4294967296 ∧ x.sum < 4294967296 := by
  intro k
  induction k with
  | zero => intro f x hx; simp [framesF] at hx
  | succ k ih =>
    intro f x hx
    rw [framesF] at hx
    cases hc : badF bs f with
    | true => rw [hc] at hx; simp at hx
    | false =>
      rw [hc] at hx
      simp only [Bool.false_eq_true, if_false, List.mem_cons] at hx
      rcases hx with rfl | hx
      · exact ⟨(goodF hc).1, nextF_lt hb f⟩
      · exact ih _ _ hx
theorem framesL_mem {bs : List Int} (hb : IsB bs) {x : Fm} (h : x ∈ framesL bs) : x.fin ≤ bs.length ∧ x.num < 4294967296 ∧ x.sum < 4294967296 := framesF_mem hb _ _ _ h
theorem prefix_mem {α : Type} {pre L : List α} {x : α} (h : pre ++ [x] <+: L) : x ∈ L := h.subset (by simp)
theorem lastF_ok {bs : List Int} (hb : IsB bs) {pre : List Fm} (h : pre <+: framesL bs) : (lastF pre).fin ≤ bs.length ∧ (lastF pre).num < 4294967296 ∧ (lastF pre).sum < 4294967296 := by
  by_cases hp : pre = []
  · subst hp; rw [lastF_nil]; simp
  · have e := List.dropLast_concat_getLast hp
    rw [← e, lastF_snoc]
    exact framesL_mem hb (h.subset (List.getLast_mem hp))

end Go.Proofs.YtkameiopahcacaaDoor
