/- slices.Equal of bytes, of two slices that read the same: true. No condition beyond it. -/
import Derived.Test.YtihmkddnfceoiaaDsk
import Derived.Deep.RegionHeld3
set_option linter.unusedVariables false
set_option linter.unusedSimpArgs false
namespace Go.Proofs.Ytihmkddnfceoiaa
open Go.RowKit

theorem eq_bytes (w : World) (A A' : Option Addr) (n c c' : Nat) (x : List Int) (hx : x.length = n) (h1 : Rd w A n c (B8 x)) (h2 : Rd w A' n c' (B8 x)) (hn : n ≤ 1048576) :
    Calls Try.prog 23 #[.slice A n c, .slice A' n c'] w fun e w' => e = .returned (.bool true) ∧ Kp w w' (fun _ => False) := by
  have hxV := V.mk hx
  clear hx
  go_enter Try.func23, Try.ntmps23
  go_wp2
  go_loopw [13] (fun i wr => ∃ k : Nat, k ≤ n ∧ i = .int .i64 k ∧ Kp w wr (fun _ => False)) (fun i _ => n - (intOf i).toNat)
  case atStart => exact ⟨0, Nat.zero_le _, rfl, Kp.refl _ _⟩
  case round =>
    obtain ⟨k, hk, rfl, hkp⟩ := hrel
    by_cases hgo : k < n
    · have hkx : k < x.length := by rw [hxV.out]; exact hgo
      obtain ⟨b1, o1, rfl, q1⟩ := (h1.kp hkp (fun _ _ _ h => h)).base (by omega) (by simp; omega)
      obtain ⟨b2, o2, rfl, q2⟩ := (h2.kp hkp (fun _ _ _ h => h)).base (by omega) (by simp; omega)
      have p1 := q1 k (.int .u8 x[k]) (by simp [B8, hkx])
      have p2 := q2 k (.int .u8 x[k]) (by simp [B8, hkx])
      generalize x[k] = y at p1 p2
      clear q1 q2 hkx
      have hc1 := h1.1
      have hc2 := h2.1
      go_wp2_with fail
      go_region_held3 (fun W => W.cell? ⟨b1, o1 + k, none⟩ = some (.int .u8 y) ∧ W.cell? ⟨b2, o2 + k, none⟩ = some (.int .u8 y)) (exact ⟨by assumption, by assumption⟩) (fail)
      go_wp2_with fail
      go_roundw
      case rel => exact ⟨k + 1, by omega, by go_num, hkp.drew⟩
      case measure => simp [intOf]; omega
    · go_wp2_with fail
      go_ret
      exact ⟨rfl, hkp⟩

end Go.Proofs.Ytihmkddnfceoiaa
