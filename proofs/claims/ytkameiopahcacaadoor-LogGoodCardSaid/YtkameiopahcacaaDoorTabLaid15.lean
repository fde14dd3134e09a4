/- The package's table stands in block 0, where the row's condition says what it reads as. No program here but the table. -/
import Derived.Test.YtkameiopahcacaaDoorRows
import Derived.Test.YtkameiopahcacaaDoorCrc15
import Derived.ProofKit
import Derived.LaidMore
import Derived.OpenShut
import Derived.Stop.Joined
set_option linter.unusedVariables false
set_option linter.unusedSimpArgs false
set_option maxRecDepth 100000
namespace Go.Proofs.YtkameiopahcacaaDoor
open Go.ChangeShapes Go.WideShapes Go.ChangeAt Go.RowKit

theorem gTab : Tryd.prog.globalNamed "longwire/scribe.table" = some 0 := by kernel_rfl
theorem tTab : (Tryd.prog.globals[0]?).map (·.type) = some 107 := by kernel_rfl
theorem uTab : Tryd.prog.underlying 107 = some (.array 16 24) := by kernel_rfl
theorem uU32 : Tryd.prog.underlying 24 = some (.int .u32) := by kernel_rfl
theorem c1Tab : Tryd.prog.cellsOf 24 = 1 := by kernel_rfl
theorem tab_of_laid {W : World} (h : laidMetH Tryd.prog [("longwire/scribe.table", Rows.laid_longwire_scribe_table)] W) : Tab W := by
  rw [MakeChecks.laidMetH_plain _ _ _ (by kernel_rfl)] at h
  obtain ⟨ps, ⟨g0, t0, cs0, f0, p0, q0, hg0, ht0, hv0, hd0, _⟩, _, _⟩ := h
  obtain rfl := Option.some.inj (gTab.symm.trans hg0)
  obtain rfl := Option.some.inj (tTab.symm.trans ht0)
  obtain ⟨xs, m1, rfl, hx1, hlen, hn3, hel⟩ := DataW.trod_array uTab hd0
  have hx2 : xs.map (fun x => x.1) = tab16.map (fun (v : Nat) => (DataW.lit (.int .u32 (v : Int)) : DataW Unit)) := by
    have e := congrArg Prod.fst hx1
    have e2 : (Rows.laid_longwire_scribe_table : DataW Unit) = .agg (tab16.map (fun (v : Nat) => (DataW.lit (.int .u32 (v : Int)) : DataW Unit))) := rfl
    rw [e2] at e
    simpa using e.symm
  intro i v hv
  have hi : i < 16 := (List.getElem?_eq_some_iff.1 hv).1
  have h1 := hel i hi
  rw [c1Tab, Nat.mul_one] at h1
  have h2 : (xs.map (fun x => x.1))[i]? = some (DataW.lit (.int .u32 (v : Int)) : DataW Unit) := by rw [hx2, List.getElem?_map, hv]; rfl
  obtain ⟨x, hx, hxv⟩ : ∃ x, xs[i]? = some x ∧ x.1 = (DataW.lit (.int .u32 (v : Int)) : DataW Unit) := by
    rw [List.getElem?_map] at h2
    cases hc : xs[i]? with
    | none => rw [hc] at h2; simp at h2
    | some x => rw [hc] at h2; exact ⟨x, rfl, by simpa using h2⟩
  rw [hx] at h1
  obtain ⟨n, hcs, hn, -⟩ := DataW.trod_int uU32 h1
  have hnv : n = (v : Int) := by
    rw [hn] at hxv
    simpa using hxv
  subst hnv
  have hc : cs0[i]? = some (.int .u32 (v : Int)) := by
    have h3 : ((cs0.toList.drop i).take 1)[0]? = some (.int .u32 (v : Int)) := by rw [hcs]; rfl
    rw [List.getElem?_take] at h3
    simpa using h3
  have := World.var?_cell hg0 hv0 i
  rw [hc] at this
  exact this

end Go.Proofs.YtkameiopahcacaaDoor
