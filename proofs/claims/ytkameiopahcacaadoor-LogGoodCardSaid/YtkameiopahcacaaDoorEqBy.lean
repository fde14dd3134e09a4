/- bytes.Equal: whether both are the same. Condition: both are read, and are bytes. -/
import Derived.Test.YtkameiopahcacaaDoorBy
set_option linter.unusedVariables false
set_option linter.unusedSimpArgs false
set_option maxRecDepth 100000
namespace Go.Proofs.YtkameiopahcacaaDoor
open Go.RowKit

def IsB (l : List Int) : Prop := ∀ c ∈ l, 0 ≤ c ∧ c ≤ 255
theorem strOf_inj {x y : List Int} (hx : IsB x) (hy : IsB y) (h : (strOfNums x).data.toList = (strOfNums y).data.toList) : x = y := by
  rw [strOfNums_data, strOfNums_data] at h
  induction x generalizing y with
  | nil => cases y with
    | nil => rfl
    | cons b y => simp at h
  | cons a x ih =>
    cases y with
    | nil => simp at h
    | cons b y =>
      simp only [List.map_cons, List.cons.injEq] at h
      have ha := hx a (by simp)
      have hb := hy b (by simp)
      have e1 : a.toNat = b.toNat := by
        have := congrArg UInt8.toNat h.1
        simp only [UInt8.toNat_ofNat'] at this
        omega
      rw [ih (fun c hc => hx c (by simp [hc])) (fun c hc => hy c (by simp [hc])) h.2]
      congr 1
      omega

set_option maxHeartbeats 1000000 in
theorem eqb_any (w : World) (A1 A2 : Option Addr) (n1 n2 c1 c2 : Nat) (x y : List Int) (hx : x.length = n1) (hy : y.length = n2) (h1 : Rd w A1 n1 c1 (B8 x)) (h2 : Rd w A2 n2 c2 (B8 y)) (bx : IsB x) (by_ : IsB y) :
    Calls Tryd.prog 17 #[.slice A1 n1 c1, .slice A2 n2 c2] w fun e w' => e = .returned (.bool (decide (x = y))) ∧ w = w' := by
  have hc1 := run_string_rd u_bytes u_byte u_string h1 hx
  have hc2 := run_string_rd u_bytes u_byte u_string h2 hy
  have he : V (((strOfNums x).toList == (strOfNums y).toList) = decide (x = y)) := ⟨by
    rw [Bool.eq_iff_iff, beq_iff_eq, decide_eq_true_eq]
    constructor
    · intro h; rw [ByteArray.toList_eq, ByteArray.toList_eq] at h; exact strOf_inj bx by_ h
    · rintro rfl; rfl⟩
  go_enter Tryd.func17, Tryd.ntmps17
  go_wp2
  go_ret
  refine ⟨?_, rfl⟩
  rw [← he.out]
  rfl

end Go.Proofs.YtkameiopahcacaaDoor
