/- slices.Equal of numbers: whether both are the same. Condition: both are read. -/
import Derived.Test.YtboambncimdfjaaFst13
import Derived.Deep.RegionHeld3
set_option linter.unusedVariables false
set_option linter.unusedSimpArgs false
namespace Go.Proofs.Ytboambncimdfjaa
open Go.RowKit

theorem take_eq_succ {α : Type} {x y : List α} {k : Nat} (hx : k < x.length) (hy : k < y.length) (h : x.take k = y.take k) (he : x[k] = y[k]) : x.take (k + 1) = y.take (k + 1) := by
  rw [List.take_succ_eq_append_getElem hx, List.take_succ_eq_append_getElem hy, h, he]
theorem ne_of_getElem {α : Type} {x y : List α} {k : Nat} (hx : k < x.length) (hy : k < y.length) (he : x[k] ≠ y[k]) : x ≠ y := by
  rintro rfl
  exact he rfl
theorem U32_at (l : List Int) (k : Nat) (h : k < l.length) : (U32 l)[k]? = some (.int .u32 l[k]) := by simp [U32, h]

set_option maxHeartbeats 1000000 in
theorem equ_any (w : World) (A1 A2 : Option Addr) (n1 n2 c1 c2 : Nat) (x y : List Int) (hx : x.length = n1) (hy : y.length = n2) (h1 : Rd w A1 n1 c1 (U32 x)) (h2 : Rd w A2 n2 c2 (U32 y)) :
    Calls Try.prog 23 #[.slice A1 n1 c1, .slice A2 n2 c2] w fun e w' => e = .returned (.bool (decide (x = y))) ∧ Kp w w' (fun _ => False) := by
  have b1 : n1 ≤ c1 ∧ c1 ≤ 9223372036854775807 := ⟨h1.1, by have := h1.2.1; simpa [maxLen] using this⟩
  by_cases hlen : n1 = n2
  · subst hlen
    go_enter Try.func23, Try.ntmps23
    go_wp2
    go_loopw [5, 13] (fun _ i wr => ∃ k : Nat, k ≤ n1 ∧ i = .int .i64 k ∧ V (x.take k = y.take k) ∧ Kp w wr (fun _ => False)) (fun _ i _ => n1 - (intOf i).toNat)
    case atStart => exact ⟨0, Nat.zero_le _, rfl, ⟨rfl⟩, Kp.refl _ _⟩
    case round =>
      obtain ⟨k, hk, rfl, htk, hkp⟩ := hrel
      by_cases hgo : k < n1
      · obtain ⟨ab, ao, rfl, hc1⟩ := (h1.kp hkp (fun _ _ _ h => h)).base (by omega) (by simp [U32]; omega)
        obtain ⟨bb, bo, rfl, hc2⟩ := (h2.kp hkp (fun _ _ _ h => h)).base (by omega) (by simp [U32]; omega)
        have x0 := hc1 k _ (U32_at x k (by omega))
        have y0 := hc2 k _ (U32_at y k (by omega))
        clear hc1 hc2
        obtain ⟨u, hu⟩ : ∃ u, x[k] = u := ⟨_, rfl⟩
        obtain ⟨v, hv⟩ : ∃ v, y[k] = v := ⟨_, rfl⟩
        have huV := V.mk hu
        have hvV := V.mk hv
        rw [hu] at x0
        rw [hv] at y0
        clear hu hv
        have hkd := hkp.drew
        by_cases he : u = v
        · have hts : V (x.take (k + 1) = y.take (k + 1)) := ⟨take_eq_succ (by omega) (by omega) htk.out (by rw [huV.out, hvV.out, he])⟩
          subst he
          clear htk huV hvV
          go_wp2
          go_region_held3 (fun W => W.cell? ⟨ab, ao + k, none⟩ = some (.int .u32 u) ∧ W.cell? ⟨bb, bo + k, none⟩ = some (.int .u32 u)) (exact ⟨by assumption, by assumption⟩) (fail)
          all_goals
            go_wp2
            go_roundw
            case rel => exact ⟨k + 1, by omega, by go_num, hts, hkd⟩
            case measure => simp [intOf]; omega
        · have hts : V (decide (x = y) = false) := ⟨by simpa using ne_of_getElem (k := k) (by omega) (by omega) (by rw [huV.out, hvV.out]; exact he)⟩
          have he' : (u != v) = true := by simpa using he
          clear htk huV hvV
          go_wp2
          go_region_held3 (fun W => W.cell? ⟨ab, ao + k, none⟩ = some (.int .u32 u) ∧ W.cell? ⟨bb, bo + k, none⟩ = some (.int .u32 v)) (exact ⟨by assumption, by assumption⟩) (fail)
          all_goals
            go_wp2
            go_ret
            exact ⟨ret_bool hts.out.symm, hkd⟩
      · have e1 : V (decide (x = y) = true) := ⟨by have := htk.out; rw [List.take_of_length_le (by omega), List.take_of_length_le (by omega)] at this; simpa using this⟩
        go_wp2
        go_ret
        exact ⟨ret_bool e1.out.symm, hkp⟩
  · have e1 : V (decide (x = y) = false) := ⟨by simp; rintro rfl; omega⟩
    have hne : ((n1 : Int) != (n2 : Int)) = true := by simp; omega
    go_enter Try.func23, Try.ntmps23
    go_wp2
    go_ret
    exact ⟨ret_bool e1.out.symm, Kp.refl _ _⟩

end Go.Proofs.Ytboambncimdfjaa
