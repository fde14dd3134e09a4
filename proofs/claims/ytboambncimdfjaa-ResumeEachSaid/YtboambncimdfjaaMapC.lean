/- A map that holds 1 for each of some ids ('is[id]++', each id coming once). No condition. -/
import Derived.Test.YtboambncimdfjaaSeqIt
import Derived.Maps.OwnIn
import Derived.Maps.Views
import Derived.DataShut
set_option linter.unusedVariables false
set_option linter.unusedSimpArgs false
namespace Go.Proofs.Ytboambncimdfjaa
open Go.RowKit Go.Maps

theorem keyU : Keyed Try.prog 24 := int_keyed Try.underlying24
theorem u_mapi : Try.prog.underlying 28 = some (.map 24 3) := by kernel_rfl
def Z0 : DataW Unit := .lit (.int .i64 0)
/-- Block b is a map of at most n entries that holds 1 for each of ids, and nothing else. -/
def Cnt (W : World) (b n : Nat) (ids : List Int) : Prop :=
  ∃ D : DataW Unit, W.ownsMap Try.prog 24 (plainElem Try.prog 3) b n D ∧ Tidy D ∧ size D = ids.length ∧ (∀ x : Int, has D (.int .u32 x) = decide (x ∈ ids)) ∧ ∀ x ∈ ids, D.atKey (.int .u32 x) Z0 = .lit (.int .i64 1)

theorem Cnt.made (w : World) : Cnt (w.alloc (.map #[] 0)) w.heap.size 0 [] :=
  ⟨.map [], World.ownsMap_made w _ _ _, tidy_empty, rfl, fun x => rfl, fun x h => by simp at h⟩
theorem Cnt.lt {W : World} {b n : Nat} {ids : List Int} (h : Cnt W b n ids) : b < W.heap.size := by
  obtain ⟨D, h1, _⟩ := h
  exact h1.lt
theorem Cnt.kp {W W' : World} {b n : Nat} {ids : List Int} {S : Nat → Prop} (h : Cnt W b n ids) (hk : Kp W W' S) (hb : ¬ S b) : Cnt W' b n ids := by
  obtain ⟨D, h1, h2⟩ := h
  have hlt := h1.lt
  obtain ⟨es, clock, hh, F, hs, hD⟩ := h1
  exact ⟨D, ⟨es, clock, (hk.blk b hlt hb).trans hh, F, hs, hD⟩, h2⟩
theorem Cnt.notCells {W : World} {b n : Nat} {ids : List Int} (h : Cnt W b n ids) {cs : Array Value} {t : TypeId} {fr : Nat × Nat} : W.heap[b]? ≠ some (.cells cs t fr) := by
  obtain ⟨D, ⟨es, clock, hh, _⟩, _⟩ := h
  rw [hh]
  simp
theorem wf_u32 {x : Int} (h0 : 0 ≤ x) (h1 : x < 4294967296) : (Lit.int .u32 x).wf = true := by
  rw [Lit.wf_int_iff]
  exact ⟨h0, show x ≤ 4294967295 by omega⟩
theorem Cnt.look {W : World} {b n : Nat} {ids : List Int} (h : Cnt W b n ids) {x : Int} (h0 : 0 ≤ x) (h1 : x < 4294967296) :
    (Instr.lookup 28 (.map (some b)) (.int .u32 x) false).run Try.prog W = .ok (.int .i64 (if x ∈ ids then 1 else 0)) W := by
  obtain ⟨D, hD, hm, hs, hh, ha⟩ := h
  obtain ⟨c, hrun, hat, _⟩ := hD.lookup_int keyU u_mapi (q := .i64) Try.underlying3 (by kernel_rfl) (keyOf_int_mk Try.underlying24 (wf_u32 h0 h1))
  rw [hrun]
  by_cases hx : x ∈ ids
  · have e1 := ha x hx
    unfold Z0 at e1
    rw [e1] at hat
    simp only [DataW.lit.injEq, Lit.int.injEq, true_and] at hat
    rw [if_pos hx, ← hat]
  · have e1 : has D (.int .u32 x) = false := by rw [hh]; simpa using hx
    rw [atKey_of_not_has e1] at hat
    simp only [DataW.lit.injEq, Lit.int.injEq, true_and] at hat
    rw [if_neg hx, ← hat]
theorem Cnt.put {W : World} {b n : Nat} {ids : List Int} (h : Cnt W b n ids) {x : Int} (h0 : 0 ≤ x) (h1 : x < 4294967296) (hx : x ∉ ids) (hn : n < maxLen) :
    ∃ W', (Instr.mapUpdate 28 (.map (some b)) (.int .u32 x) (.int .i64 1)).run Try.prog W = .ok () W' ∧ Cnt W' b (n + 1) (ids ++ [x]) ∧ Kp W W' (fun k => k = b) := by
  obtain ⟨D, hD, hm, hs, hh, ha⟩ := h
  have hk : WideAt.IsKeyLit (.int .u32 x) := by trivial
  have e1 : has D (.int .u32 x) = false := by rw [hh]; simpa using hx
  obtain ⟨W', hrun, hown, hg⟩ := hD.update keyU u_mapi hn (keyOf_int_mk Try.underlying24 (wf_u32 h0 h1)) (val := .int .i64 1) (plainElem_int Try.underlying3 (by decide))
  refine ⟨W', hrun, ⟨_, hown, hm.put hk _, ?_, ?_, ?_⟩, (Kp.of_grown hg).mono (fun k h => by simpa using h.symm)⟩
  · rw [size_put hm, e1, hs]
    simp
  · intro y
    by_cases hy : y = x
    · subst hy
      rw [has_put_same hm.isMap hk]
      simp
    · rw [has_put_other (by simpa using hy), hh]
      simp [hy]
  · intro y hy
    by_cases he : y = x
    · subst he
      rw [atKey_put_same hm.isMap hk]
    · rw [atKey_put_other (by simpa using he)]
      refine ha y ?_
      rcases List.mem_append.1 hy with q | q
      · exact q
      · exact absurd (List.mem_singleton.1 q) he
theorem Cnt.len {W : World} {b n : Nat} {ids : List Int} (h : Cnt W b n ids) (ty : TypeId) : (Builtin.len_ #[28] ty #[.map (some b)]).run Try.prog W = .ok (.int .i64 ids.length) W := by
  obtain ⟨D, hD, hm, hs, _⟩ := h
  have := hD.len u_mapi ty
  rwa [hs] at this

end Go.Proofs.Ytboambncimdfjaa
