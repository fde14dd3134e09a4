/- longwirelaw15.same: whether two lists of byte slices are the same. Condition: both are read. -/
import Derived.Test.YtkameiopahcacaaDoorRows15
import Derived.Test.YtkameiopahcacaaDoorEqBy
set_option linter.unusedVariables false
set_option linter.unusedSimpArgs false
set_option maxRecDepth 100000
namespace Go.Proofs.YtkameiopahcacaaDoor
open Go.RowKit

/-- A piece that is read. -/
structure Pc.Rd (w : World) (p : Pc) : Prop where
  rd : Go.Proofs.YtkameiopahcacaaDoor.Rd w p.A p.n p.c (B8 p.b)
  len : p.b.length = p.n
  by_ : IsB p.b
theorem pcs_at (l : List Pc) (k : Nat) (h : k < l.length) : (l.map Pc.val)[k]? = some (l[k]).val := by simp [h]
theorem take_ne {α β : Type} {f : α → β} {x y : List α} {k : Nat} (hx : k < x.length) (hy : k < y.length) (he : f x[k] ≠ f y[k]) : x.map f ≠ y.map f := by
  intro h
  have h1 : (x.map f)[k]? = (y.map f)[k]? := by rw [h]
  rw [List.getElem?_map, List.getElem?_map, List.getElem?_eq_getElem hx, List.getElem?_eq_getElem hy] at h1
  exact he (by simpa using h1)

set_option maxHeartbeats 2000000 in
theorem eqf_any (w : World) (A1 A2 : Option Addr) (n1 n2 c1 c2 : Nat) (x y : List Pc) (hx : x.length = n1) (hy : y.length = n2) (h1 : Rd w A1 n1 c1 (x.map Pc.val)) (h2 : Rd w A2 n2 c2 (y.map Pc.val)) (hxr : ∀ p ∈ x, p.Rd w) (hyr : ∀ p ∈ y, p.Rd w) :
    Calls Tryd.prog 46 #[.slice A1 n1 c1, .slice A2 n2 c2, .func (.func 17) #[] #[]] w fun e w' => e = .returned (.bool (decide (x.map (·.b) = y.map (·.b)))) ∧ w = w' := by
  have b1 : n1 ≤ c1 ∧ c1 ≤ 9223372036854775807 := ⟨h1.1, by have := h1.2.1; simpa [maxLen] using this⟩
  have b2 : n2 ≤ c2 ∧ c2 ≤ 9223372036854775807 := ⟨h2.1, by have := h2.2.1; simpa [maxLen] using this⟩
  by_cases hlen : n1 = n2
  · subst hlen
    go_enter Tryd.func46, Tryd.ntmps46
    go_wp2
    go_loopw [7, 8, 9, 17] (fun _ _ _ i wr => ∃ k : Nat, k ≤ n1 ∧ i = .int .i64 k ∧ V ((x.take k).map (·.b) = (y.take k).map (·.b)) ∧ wr = w) (fun _ _ _ i _ => n1 - (intOf i).toNat)
    case atStart => exact ⟨0, Nat.zero_le _, rfl, ⟨rfl⟩, rfl⟩
    case round =>
      obtain ⟨k, hk, rfl, htk, rfl⟩ := hrel
      by_cases hgo : k < n1
      · obtain ⟨ab, ao, rfl, hc1⟩ := h1.base (by omega) (by simp; omega)
        obtain ⟨bb, bo, rfl, hc2⟩ := h2.base (by omega) (by simp; omega)
        have x0 := hc1 k _ (pcs_at x k (by omega))
        have y0 := hc2 k _ (pcs_at y k (by omega))
        clear hc1 hc2
        have hxk := hxr x[k] (List.getElem_mem _)
        have hyk := hyr y[k] (List.getElem_mem _)
        obtain ⟨u, hu⟩ : ∃ u, x[k] = u := ⟨_, rfl⟩
        obtain ⟨v, hv⟩ : ∃ v, y[k] = v := ⟨_, rfl⟩
        have huV := V.mk hu
        have hvV := V.mk hv
        rw [hu] at x0 hxk
        rw [hv] at y0 hyk
        clear hu hv
        have hq := V.mk (eqb_any wr u.A v.A u.n v.n u.c v.c u.b v.b hxk.len hyk.len hxk.rd hyk.rd hxk.by_ hyk.by_)
        unfold Pc.val at x0 y0
        clear hxk hyk
        go_wp2_with fail
        refine hq.out.mono ?_
        rintro e w' ⟨rfl, hw'⟩
        subst hw'
        by_cases he : u.b = v.b
        · have hts : V ((x.take (k + 1)).map (·.b) = (y.take (k + 1)).map (·.b)) := ⟨by
            rw [List.take_succ_eq_append_getElem (by omega), List.take_succ_eq_append_getElem (by omega), List.map_append, List.map_append, htk.out]
            simp only [List.map_cons, List.map_nil, huV.out, hvV.out, he]⟩
          rw [decide_eq_true he]
          clear htk huV hvV hq
          go_wp2
          go_roundw
          case rel => exact ⟨k + 1, by omega, by go_num, hts, by first | rfl | trivial⟩
          case measure => simp [intOf]; omega
        · have hts : V (decide (x.map (·.b) = y.map (·.b)) = false) := ⟨by
            simp only [decide_eq_false_iff_not]
            exact take_ne (k := k) (by omega) (by omega) (by rw [huV.out, hvV.out]; exact he)⟩
          rw [decide_eq_false he]
          clear htk huV hvV hq
          go_wp2
          go_ret
          exact ⟨ret_bool hts.out.symm, rfl⟩
      · have e1 : V (decide (x.map (·.b) = y.map (·.b)) = true) := ⟨by have := htk.out; rw [List.take_of_length_le (by omega), List.take_of_length_le (by omega)] at this; simpa using this⟩
        go_wp2
        go_ret
        exact ⟨ret_bool e1.out.symm, rfl⟩
  · have e1 : V (decide (x.map (·.b) = y.map (·.b)) = false) := ⟨by
      simp only [decide_eq_false_iff_not]
      intro h
      have := congrArg List.length h
      simp only [List.length_map] at this
      omega⟩
    have hne : ((n1 : Int) != (n2 : Int)) = true := by simp; omega
    go_enter Tryd.func46, Tryd.ntmps46
    go_wp2
    go_ret
    exact ⟨ret_bool e1.out.symm, rfl⟩
theorem same_any (w : World) (A1 A2 : Option Addr) (n1 n2 c1 c2 : Nat) (x y : List Pc) (hx : x.length = n1) (hy : y.length = n2) (h1 : Rd w A1 n1 c1 (x.map Pc.val)) (h2 : Rd w A2 n2 c2 (y.map Pc.val)) (hxr : ∀ p ∈ x, p.Rd w) (hyr : ∀ p ∈ y, p.Rd w) :
    Calls Tryd.prog 25 #[.slice A1 n1 c1, .slice A2 n2 c2] w fun e w' => e = .returned (.bool (decide (x.map (·.b) = y.map (·.b)))) ∧ w = w' := by
  have hq := V.mk (eqf_any w A1 A2 n1 n2 c1 c2 x y hx hy h1 h2 hxr hyr)
  go_enter Tryd.func25, Tryd.ntmps25
  go_wp2_with fail
  refine hq.out.mono ?_
  rintro e w' ⟨rfl, rfl⟩
  go_wp2
  go_ret
  exact ⟨rfl, rfl⟩

end Go.Proofs.YtkameiopahcacaaDoor
