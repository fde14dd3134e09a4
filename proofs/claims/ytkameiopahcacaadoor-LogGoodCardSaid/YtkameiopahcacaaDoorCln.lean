/- bytes.Clone. Condition: the bytes are read. -/
import Derived.Test.YtkameiopahcacaaDoorBy
import Derived.Test.YtkameiopahcacaaDoorEqBy
import Derived.WalkKit
set_option linter.unusedVariables false
set_option linter.unusedSimpArgs false
set_option maxRecDepth 100000
namespace Go.Proofs.YtkameiopahcacaaDoor
open Go.RowKit

/-- bytes.Clone: nil, or new memory that reads the same. -/
theorem bclone_any (w : World) (A : Option Addr) (n c : Nat) (x : List Int) (hx : x.length = n) (hrd : Rd w A n c (B8 x)) (hn : n ≤ 1048576) :
    Calls Tryd.prog 29 #[.slice A n c] w fun e w' => ∃ A' c' r', e = .returned (.slice A' n c') ∧ Row w' 5 1 A' n c' (B8 x) r' ∧ New w r' ∧ Kp w w' (fun _ => False) := by
  obtain ⟨i0, hi, hz0, hz1, hz2⟩ := info_parts i_byte
  have hnil := fun (A : Option Addr) (n c : Nat) (w : World) => Lib.run_eql_slice_nil (P := Tryd.prog) w 38 5 A n c 0 0 u_bytes
  have hxV := V.mk hx
  clear hx
  cases A with
  | none =>
    have hc := hrd.2.2.1 rfl
    have hnc := hrd.1
    obtain rfl : n = 0 := by omega
    have hx0 : x = [] := List.eq_nil_of_length_eq_zero hxV.out
    clear hc
    go_enter Tryd.func29, Tryd.ntmps29
    go_wp2
    go_ret
    exact ⟨none, 0, none, rfl, by rw [hx0]; exact Row.nil _ _ _, New.none _, Kp.refl _ _⟩
  | some ad =>
    go_enter Tryd.func29, Tryd.ntmps29
    go_wp2_with (at_builtin; refine wpList_app rfl (.tmp 5) (.tmp 6) 38 rfl 5 i0 (.int .u8 0) 1 1 u_bytes hi hz0 hz1 hz2 rfl (by decide) _ 0 0 [] _ (by rfl) (Row.made0 w _ 1) (some ad) n c (B8 x) (by rfl) (hrd.alloc _) (by simp [hxV.out, B8]) (B8_one x) n (by omega) (by omega) (by simp only [maxLen]; omega) ?_)
    intro A' c' r' w' hrow hkp hfr _
    go_wp2
    go_ret
    refine ⟨A', c', r', rfl, hrow, ?_, ?_⟩
    · intro k hk
      rcases hfr.of_lt hk with h | h
      · simp only [Option.some.injEq] at h; omega
      · rw [World.size_alloc] at h; omega
    · exact ((Kp.refl w (fun _ => False)).alloc _).trans hkp (fun k hk => .inr (by cases hk; exact Nat.le_refl _))


end Go.Proofs.YtkameiopahcacaaDoor
