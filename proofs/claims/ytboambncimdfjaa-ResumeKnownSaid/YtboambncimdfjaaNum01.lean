/- longwireref01.Number: a number in so many bytes. bytes.Equal. Condition: the number is one. -/
import Derived.Test.YtboambncimdfjaaScr
set_option linter.unusedVariables false
set_option linter.unusedSimpArgs false
set_option maxRecDepth 100000
namespace Go.Proofs.Ytboambncimdfjaa
open Go.RowKit

/-- The bytes of a number, the highest first. -/
def numBE (n : Int) : Nat → List Int
  | 0 => []
  | k + 1 => numBE (n / 256) k ++ [n % 256]
theorem numBE_length (n : Int) (k : Nat) : (numBE n k).length = k := by
  induction k generalizing n with
  | zero => rfl
  | succ k ih => simp [numBE, ih]
/-- .. behind k rounds. -/
theorem numBE_split (n : Int) (m k : Nat) (h : 0 ≤ n) : numBE n (m + k) = numBE (n / 256 ^ k) m ++ (numBE n (m + k)).drop m := by
  induction k generalizing n with
  | zero => simp [List.drop_of_length_le, numBE_length]
  | succ k ih =>
    have hp : (256 : Int) ^ (k + 1) = 256 * 256 ^ k := by rw [Int.pow_succ, Int.mul_comm]
    have := ih (n / 256) (by omega)
    rw [Int.ediv_ediv_of_nonneg (by omega), ← hp] at this
    show numBE (n / 256) (m + k) ++ [n % 256] = _ ++ (numBE (n / 256) (m + k) ++ [n % 256]).drop m
    rw [List.drop_append_of_le_length (by rw [numBE_length]; omega), ← List.append_assoc, ← this]
theorem numBE_step (n : Int) (m k : Nat) (h : 0 ≤ n) : (numBE n (m + 1 + k)).drop m = [n / 256 ^ k % 256] ++ (numBE n (m + 1 + k)).drop (m + 1) := by
  have h1 := numBE_split n (m + 1) k h
  have e : numBE (n / 256 ^ k) (m + 1) = numBE (n / 256 ^ k / 256) m ++ [n / 256 ^ k % 256] := rfl
  rw [e] at h1
  conv => lhs; rw [h1]
  rw [List.append_assoc, List.drop_append_of_le_length (by rw [numBE_length]; omega), List.drop_of_length_le (by rw [numBE_length]; omega)]
  simp
theorem numBE_four (n : Int) (h0 : 0 ≤ n) (h1 : n < 4294967296) : numBE n 4 = be4 n := by
  simp only [numBE, be4, be2, List.nil_append, List.cons_append]
  congr 1
  · omega
  · congr 1
    · omega
    · congr 1
      · omega
      · congr 1; omega
theorem numBE_two (n : Int) (h0 : 0 ≤ n) (h1 : n < 65536) : numBE n 2 = be2 n := by
  simp only [numBE, be2, List.nil_append, List.cons_append]
  congr 1
  omega

def BytesP (w : World) (L : List Int) (e : Ending) (w' : World) : Prop :=
  ∃ A n c r, e = .returned (.slice A n c) ∧ L.length = n ∧ Row w' 5 1 A n c (B8 L) r ∧ New w r ∧ Kp w w' (fun _ => False)

set_option maxHeartbeats 2000000 in
theorem number01_any (w : World) (n : Int) (h0 : 0 ≤ n) (h1 : n < 18446744073709551616) (many : Nat) (hm : many ≤ 8) (hm1 : 1 ≤ many) :
    Calls Try.prog 50 #[.int .u64 n, .int .i64 many] w (BytesP w (numBE n many)) := by
  obtain ⟨i0, hi, hz0, hz1, hz2⟩ := info_parts i_byte
  go_enter Try.func50, Try.ntmps50
  go_wp2_with (at_make; refine wpList_mk (by rfl) (.tmp 7) (.tmp 7) 57 rfl 5 i0 (.int .u8 0) u_bytes hi hz0 hz1 rfl .i64 .i64 many many many (by rfl) (by rfl) rfl rfl (by rw [hz2]; omega) (by simp only [maxLen]; omega) ?_)
  intro w1 hrow0 hk0
  go_wp2
  go_loopw [0, 6] (fun q i wr => ∃ k : Nat, k ≤ many ∧ i = .int .i64 ((many : Int) - k - 1) ∧ q = .int .u64 (n / 256 ^ k) ∧ Row wr 5 1 (some ⟨w.heap.size, 0, none⟩) many many (List.replicate (many - k) (.int .u8 0) ++ B8 ((numBE n many).drop (many - k))) (some w.heap.size) ∧ Kp w wr (fun _ => False)) (fun _ i _ => (intOf i + 1).toNat)
  case atStart => exact ⟨0, Nat.zero_le _, by simp, by simp, by rw [Nat.sub_zero, List.drop_of_length_le (by rw [numBE_length]; omega)]; simpa [B8] using hrow0, hk0⟩
  case round =>
    obtain ⟨k, hk', rfl, rfl, hrow, hkp⟩ := hrel
    have hq0 : 0 ≤ n / 256 ^ k := Int.ediv_nonneg h0 (Int.pow_nonneg (by omega))
    have hq1 : n / 256 ^ k < 18446744073709551616 := by
      have : n / 256 ^ k ≤ n := Int.ediv_le_self _ h0
      omega
    have hpw : V (n / 256 ^ (k + 1) = n / 256 ^ k / 256) := ⟨by rw [Int.pow_succ, Int.ediv_ediv_of_nonneg (Int.pow_nonneg (by omega))]⟩
    by_cases hgo : k < many
    · obtain ⟨m, hm2⟩ : ∃ m, many = m + 1 + k := ⟨many - k - 1, by omega⟩
      have hst := V.mk (numBE_step n m k h0)
      have hidx : ((many : Int) - k - 1).toNat = m := by omega
      have hi0 : (0 : Int) ≤ (many : Int) - k - 1 := by omega
      have hfree := hrow.free m
      have hx0 := hrow.at_ m (.int .u8 0) (by rw [show many - k = m + 1 by omega, List.getElem?_append_left (by simp), List.getElem?_replicate, if_pos (by omega)])
      have hrow2 := hrow.stored m (.int .u8 (n / 256 ^ k % 256))
      have hk2 := hkp.setCell (p := ⟨w.heap.size, m, none⟩) (.inr (Nat.le_refl _)) (.int .u8 (n / 256 ^ k % 256))
      have e1 : (List.replicate (many - k) (Value.int .u8 0) ++ B8 ((numBE n many).drop (many - k))).set m (.int .u8 (n / 256 ^ k % 256)) = List.replicate (many - (k + 1)) (.int .u8 0) ++ B8 ((numBE n many).drop (many - (k + 1))) := by
        rw [show many - k = m + 1 by omega, show many - (k + 1) = m by omega, hm2, hst.out, List.replicate_succ', List.append_assoc, List.set_append_right _ _ (by simp)]
        simp [B8]
      rw [e1] at hrow2
      clear e1 hm2 hrow
      generalize n / 256 ^ k = q at *
      go_wp2
      go_roundw
      case rel => exact ⟨k + 1, by omega, by congr 1; omega, by rw [hpw.out], hrow2, hk2⟩
      case measure => simp [intOf]; omega
    · have hend : many - k = 0 := by omega
      rw [hend] at hrow
      simp only [List.replicate_zero, List.nil_append, List.drop_zero] at hrow
      have hge : decide ((many : Int) - k - 1 ≥ 0) = false := by simp; omega
      go_wp2
      go_ret
      exact ⟨_, many, many, _, rfl, numBE_length _ _, hrow, fun k h => by simp at h; omega, hkp⟩

end Go.Proofs.Ytboambncimdfjaa
