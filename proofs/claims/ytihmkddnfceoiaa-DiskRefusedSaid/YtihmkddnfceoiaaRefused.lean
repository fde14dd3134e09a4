/- longwirelaw14.DiskRefused answers true, whatever its arguments. Condition: the arguments are data. -/
import Derived.Test.YtihmkddnfceoiaaL14
set_option linter.unusedVariables false
set_option linter.unusedSimpArgs false
namespace Go.Proofs.Ytihmkddnfceoiaa
open Go.RowKit

/-- What the refused put answers, and leaves. -/
theorem refused_put (m : Nat) (hm : m ≤ 79) (at_ : Int) (x : List Int) (D : Int × Dsk) (hD : D = Dsk.put ⟨m, List.replicate (m / 2) 0, 1, false, true, 0, 0⟩ at_ x) :
    (at_ < 0 ∨ ((m / 2 : Nat) : Int) < at_ → D.1 = 1 ∧ D.2.st = false) ∧ (0 ≤ at_ → at_ ≤ ((m / 2 : Nat) : Int) → (m : Int) < at_ + x.length → D.1 = 7 ∧ D.2.st = false) ∧
    (0 ≤ at_ → at_ ≤ ((m / 2 : Nat) : Int) → at_ + x.length ≤ (m : Int) → D.1 = 10 ∧ D.2.st = true) ∧ D.2.b = List.replicate (m / 2) 0 ∧ D.2.puts = 1 := by
  subst hD
  unfold Dsk.put
  simp only [Bool.false_eq_true, if_false, List.length_replicate]
  by_cases h1 : at_ < 0 ∨ ((m / 2 : Nat) : Int) < at_
  · rw [if_pos h1]
    exact ⟨fun _ => ⟨rfl, rfl⟩, fun a b => by omega, fun a b => by omega, rfl, rfl⟩
  rw [if_neg h1]
  by_cases h2 : (m : Int) - at_ < x.length
  · rw [if_pos h2]
    exact ⟨fun a => absurd a h1, fun _ _ _ => ⟨rfl, rfl⟩, fun a b c => by omega, rfl, rfl⟩
  rw [if_neg h2, if_pos ⟨trivial, trivial⟩]
  refine ⟨fun a => absurd a h1, fun a b c => by omega, fun _ _ _ => ⟨rfl, rfl⟩, ?_, rfl⟩
  simp [layB]
  omega

set_option maxHeartbeats 2000000 in
theorem refused_1 (w : World) (A : Option Addr) (n c : Nat) (x : List Int) (hx : x.length = n) (hrd : Rd w A n c (B8 x)) (hlt : ∀ ad, A = some ad → x ≠ [] → ad.block < w.heap.size) (at_ : Int) (ha0 : -9223372036854775808 ≤ at_) (ha1 : at_ ≤ 9223372036854775807) (room : Int) (hr0 : 0 ≤ room) (hr1 : room ≤ 255) (hn60 : n ≤ 60) :
    Calls Try.prog 3 #[.slice A n c, .int .i64 at_, .int .u8 room] w fun e w' => e = .returned (.bool true) ∧ Kp w w' (fun _ => False) := by
  obtain ⟨i0, hi, hz0, hz1, hz2⟩ := info_parts i_byte
  have hnc := hrd.1
  have hcm := hrd.2.1
  simp only [maxLen] at hcm
  have hrd1 : Rd w A n c (B8 x) := hrd
  have hx1 := V.mk (show (x).length = n by omega)
  have hlt1 : ∀ ad, A = some ad → x ≠ [] → ad.block < w.heap.size := fun ad ha hne => hlt ad ha (by rintro rfl; simp at hne)
  clear hx hrd hlt
  obtain ⟨m, hm⟩ : ∃ m : Nat, room % 80 = m := ⟨(room % 80).toNat, by omega⟩
  have hm79 : m ≤ 79 := by omega
  go_enter Try.func3, Try.ntmps3
  go_wp2_with fail
  refine (new_ok _ m (by omega) (by omega)).mono ?_
  rintro e w1 ⟨rfl, hd1, kp1, hs1⟩
  go_wp2_with (at_make; refine wpList_mk (by rfl) (.tmp 31) (.tmp 31) 22 rfl 5 i0 (.int .u8 0) u_bytes hi hz0 hz1 rfl .i64 .i64 ((m : Int) / 2) ((m : Int) / 2) (m / 2) (by rfl) (by rfl) (by omega) (by omega) (by rw [hz2]; omega) (by simp only [maxLen]; omega) ?_)
  intro w2 hrow2 kp2
  have hd2 := hd1.kp kp2 (fun h => h) (fun _ _ h => h)
  have KP2 := kp1.quiet kp2
  have b0 : (List.replicate (m / 2) (Value.int .u8 0)) = B8 (List.replicate (m / 2) 0) := by simp [B8]
  rw [b0] at hrow2
  clear b0
  have ok2 := Dsk.new_ok (cap := m) (by omega) (by omega)
  have haw2 : ∀ ad, some (⟨w1.heap.size, 0, none⟩ : Addr) = some ad → List.replicate (m / 2) (0 : Int) ≠ [] → ad.block ≠ w.heap.size ∧ (none : Option Nat) ≠ some ad.block := fun ad ha _ => by
    simp only [Option.some.injEq] at ha
    subst ha
    exact ⟨by simp only; omega, by simp⟩
  go_wp2_with fail
  refine (put_any _ _ _ _ hd2 ok2 0 _ (m / 2) (m / 2) (List.replicate (m / 2) 0) (by simp) hrow2.rd haw2).mono ?_
  rintro e w3 ⟨rfl, r3, hd3, hk3, hf3⟩
  have e3 : Dsk.put ⟨m, [], 0, false, false, 0, 0⟩ 0 (List.replicate (m / 2) 0) = (0, ⟨m, List.replicate (m / 2) 0, 1, false, false, -1, 0⟩) := by
    unfold Dsk.put
    simp only [Bool.false_eq_true, if_false, List.length_nil, List.length_replicate]
    have q1 : ¬ ((0 : Int) < 0 ∨ ((0 : Nat) : Int) < 0) := by omega
    have q2 : ¬ ((m : Int) - 0 < ((m / 2 : Nat) : Int)) := by omega
    rw [if_neg q1, if_neg q2]
    simp [layB, wr64]
  have KP3 : Kp w w3 (fun _ => False) := KP2.step hk3 (Nat.le_refl _) (New.none _)
  have nw3 : New w r3 := (New.none w).fr KP2.size hf3
  have ok3 := Dsk.put_ok ok2 0 (List.replicate (m / 2) 0)
  rw [e3] at hd3 ok3 ⊢
  clear e3 haw2 hrow2 kp2 hd2 ok2 hk3 hf3
  simp only at hd3 ok3
  go_wp2_with fail
  refine (plan_any _ _ _ _ hd3 0 0).mono ?_
  rintro e w4 ⟨rfl, r4, hd4, hk4, hf4⟩
  have e4 : Dsk.plan ⟨m, List.replicate (m / 2) 0, 1, false, false, -1, 0⟩ 0 0 = (0, ⟨m, List.replicate (m / 2) 0, 1, false, true, 0, 0⟩) := rfl
  have ok4 := Dsk.plan_ok ok3 0 0
  rw [e4] at hd4 ok4 ⊢
  clear e4
  simp only at hd4 ok4
  have KP4 : Kp w w4 (fun _ => False) := KP3.step hk4 (Nat.le_refl _) nw3
  have nw4 : New w r4 := nw3.fr KP3.size hf4
  have hrd4 := hrd1.kp KP4 (fun _ _ _ h => h)
  have haw4 : ∀ ad, A = some ad → x ≠ [] → ad.block ≠ w.heap.size ∧ r4 ≠ some ad.block := fun ad ha hne => by
    have := hlt1 ad ha hne
    exact ⟨by omega, fun e => by have := nw4 _ e; omega⟩
  obtain ⟨D, hD⟩ : ∃ D, D = Dsk.put ⟨m, List.replicate (m / 2) 0, 1, false, true, 0, 0⟩ at_ x := ⟨_, rfl⟩
  obtain ⟨c1, c2, c3, hDb, hDp⟩ := refused_put m hm79 at_ x D hD
  rw [hx1.out] at c2 c3
  have ok5 := Dsk.put_ok ok4 at_ x
  have HP := put_any _ _ _ _ hd4 ok4 at_ A n c x hx1.out hrd4 haw4
  rw [← hD] at HP ok5
  have HPV := V.mk HP
  have hDV := V.mk (And.intro hDb hDp)
  clear hD HP hDb hDp
  have hcase : (at_ < 0 ∨ ((m : Int) / 2) < at_) ∨ (0 ≤ at_ ∧ at_ ≤ (m : Int) / 2 ∧ (m : Int) < at_ + n) ∨ (0 ≤ at_ ∧ at_ ≤ (m : Int) / 2 ∧ at_ + n ≤ (m : Int)) := by omega
  have hres : ∃ (want : Int) (st : Bool), D.1 = want ∧ D.2.st = st ∧ ((want = 1 ∧ (at_ < 0 ∨ ((m : Int) / 2) < at_)) ∨ (want = 7 ∧ 0 ≤ at_ ∧ at_ ≤ (m : Int) / 2 ∧ (m : Int) < at_ + n) ∨ (want = 10 ∧ 0 ≤ at_ ∧ at_ ≤ (m : Int) / 2 ∧ at_ + n ≤ (m : Int))) ∧ st = (want == 10) := by
    rcases hcase with h | ⟨h1, h2, h3⟩ | ⟨h1, h2, h3⟩
    · obtain ⟨a, b⟩ := c1 (by omega)
      exact ⟨1, false, a, b, .inl ⟨rfl, h⟩, rfl⟩
    · obtain ⟨a, b⟩ := c2 h1 (by omega) (by omega)
      exact ⟨7, false, a, b, .inr (.inl ⟨rfl, h1, h2, h3⟩), rfl⟩
    · obtain ⟨a, b⟩ := c3 h1 (by omega) (by omega)
      exact ⟨10, true, a, b, .inr (.inr ⟨rfl, h1, h2, h3⟩), rfl⟩
  clear c1 c2 c3 hcase
  obtain ⟨want, st, hw1, hw2, hwc, hst⟩ := hres
  have hwV := V.mk (And.intro hw1 hw2)
  clear hw1 hw2
  subst hst
  rcases hwc with ⟨rfl, hc⟩ | ⟨rfl, hc0, hc1, hc2⟩ | ⟨rfl, hc0, hc1, hc2⟩
  all_goals
    go_wp2_with fail
    all_goals
      refine (HPV.out).mono ?_
      rintro e w5 ⟨rfl, r5, hd5, hk5, hf5⟩
      rw [hwV.out.1]
      have KP5 : Kp w w5 (fun _ => False) := KP4.step hk5 (Nat.le_refl _) nw4
      clear hk5 hf5 HPV
      go_wp2_with fail
      refine (end_any _ _ _ _ hd5).mono ?_
      rintro e w6 ⟨rfl, rfl⟩
      rw [hDV.out.1, List.length_replicate]
      go_wp2_with fail
      refine (puts_any _ _ _ _ hd5).mono ?_
      rintro e w6 ⟨rfl, rfl⟩
      rw [hDV.out.2]
      go_wp2_with fail
      refine (stopped_any _ _ _ _ hd5).mono ?_
      rintro e w6 ⟨rfl, rfl⟩
      rw [hwV.out.2]
      go_wp2_with fail
      refine (read_any _ _ _ _ hd5 ok5 0 100 (by omega)).mono ?_
      rintro e w6 ⟨A6, n6, c6, r6, rfl, hrow6, nw6, hk6⟩
      have er : D.2.read 0 100 = List.replicate (m / 2) 0 := by
        unfold Dsk.read
        rw [hDV.out.1, List.length_replicate]
        have q1 : ¬ ((0 : Int) < 0 ∨ (100 : Int) < 0 ∨ ((m / 2 : Nat) : Int) < 0) := by omega
        rw [if_neg q1]
        simp
        omega
      rw [er] at hrow6
      have hn6 : n6 = m / 2 := by have := hrow6.len; simpa using this.symm
      subst hn6
      have KP6 := KP5.quiet hk6
      clear er hd5 ok5
      go_wp2_with fail
      go_loop [85] (fun i => ∃ k : Nat, k ≤ m / 2 ∧ i = .int .i64 k) (fun i => m / 2 - (intOf i).toNat)
      case atStart => exact ⟨0, Nat.zero_le _, rfl⟩
      case round =>
        obtain ⟨k, hk, rfl⟩ := hrel
        by_cases hlt : k < m / 2
        · obtain ⟨gb, rfl, hgb⟩ := hrow6.addr (by omega)
          have hcell := hrow6.at_ k (.int .u8 0) (by simp [B8, hlt])
          go_wp2
          go_round
          case rel => exact ⟨k + 1, by omega, by go_num⟩
          case measure => simp [intOf]; omega
        · have KV := V.mk KP6
          go_wp2_with fail
          refine (tells_any _).mono ?_
          rintro e w7 ⟨rfl, hk7⟩
          go_wp2_with fail
          go_ret
          exact ⟨rfl, KV.out.quiet hk7⟩

set_option maxHeartbeats 2000000 in
theorem refused_2 (w : World) (A : Option Addr) (n c : Nat) (x : List Int) (hx : x.length = n) (hrd : Rd w A n c (B8 x)) (hlt : ∀ ad, A = some ad → x ≠ [] → ad.block < w.heap.size) (at_ : Int) (ha0 : -9223372036854775808 ≤ at_) (ha1 : at_ ≤ 9223372036854775807) (room : Int) (hr0 : 0 ≤ room) (hr1 : room ≤ 255) (hn60 : 60 < n) :
    Calls Try.prog 3 #[.slice A n c, .int .i64 at_, .int .u8 room] w fun e w' => e = .returned (.bool true) ∧ Kp w w' (fun _ => False) := by
  obtain ⟨i0, hi, hz0, hz1, hz2⟩ := info_parts i_byte
  have hnc := hrd.1
  have hcm := hrd.2.1
  simp only [maxLen] at hcm
  have hrd1 : Rd w A 60 c (B8 (x.take 60)) := (by have := hrd.pre 60 (by omega); rwa [← B8_take] at this)
  have hx1 := V.mk (show ((x.take 60)).length = 60 by simp; omega)
  have hlt1 : ∀ ad, A = some ad → (x.take 60) ≠ [] → ad.block < w.heap.size := fun ad ha hne => hlt ad ha (by rintro rfl; simp at hne)
  clear hx hrd hlt
  obtain ⟨m, hm⟩ : ∃ m : Nat, room % 80 = m := ⟨(room % 80).toNat, by omega⟩
  have hm79 : m ≤ 79 := by omega
  go_enter Try.func3, Try.ntmps3
  go_wp2_with fail
  refine (new_ok _ m (by omega) (by omega)).mono ?_
  rintro e w1 ⟨rfl, hd1, kp1, hs1⟩
  go_wp2_with (at_make; refine wpList_mk (by rfl) (.tmp 31) (.tmp 31) 22 rfl 5 i0 (.int .u8 0) u_bytes hi hz0 hz1 rfl .i64 .i64 ((m : Int) / 2) ((m : Int) / 2) (m / 2) (by rfl) (by rfl) (by omega) (by omega) (by rw [hz2]; omega) (by simp only [maxLen]; omega) ?_)
  intro w2 hrow2 kp2
  have hd2 := hd1.kp kp2 (fun h => h) (fun _ _ h => h)
  have KP2 := kp1.quiet kp2
  have b0 : (List.replicate (m / 2) (Value.int .u8 0)) = B8 (List.replicate (m / 2) 0) := by simp [B8]
  rw [b0] at hrow2
  clear b0
  have ok2 := Dsk.new_ok (cap := m) (by omega) (by omega)
  have haw2 : ∀ ad, some (⟨w1.heap.size, 0, none⟩ : Addr) = some ad → List.replicate (m / 2) (0 : Int) ≠ [] → ad.block ≠ w.heap.size ∧ (none : Option Nat) ≠ some ad.block := fun ad ha _ => by
    simp only [Option.some.injEq] at ha
    subst ha
    exact ⟨by simp only; omega, by simp⟩
  go_wp2_with fail
  refine (put_any _ _ _ _ hd2 ok2 0 _ (m / 2) (m / 2) (List.replicate (m / 2) 0) (by simp) hrow2.rd haw2).mono ?_
  rintro e w3 ⟨rfl, r3, hd3, hk3, hf3⟩
  have e3 : Dsk.put ⟨m, [], 0, false, false, 0, 0⟩ 0 (List.replicate (m / 2) 0) = (0, ⟨m, List.replicate (m / 2) 0, 1, false, false, -1, 0⟩) := by
    unfold Dsk.put
    simp only [Bool.false_eq_true, if_false, List.length_nil, List.length_replicate]
    have q1 : ¬ ((0 : Int) < 0 ∨ ((0 : Nat) : Int) < 0) := by omega
    have q2 : ¬ ((m : Int) - 0 < ((m / 2 : Nat) : Int)) := by omega
    rw [if_neg q1, if_neg q2]
    simp [layB, wr64]
  have KP3 : Kp w w3 (fun _ => False) := KP2.step hk3 (Nat.le_refl _) (New.none _)
  have nw3 : New w r3 := (New.none w).fr KP2.size hf3
  have ok3 := Dsk.put_ok ok2 0 (List.replicate (m / 2) 0)
  rw [e3] at hd3 ok3 ⊢
  clear e3 haw2 hrow2 kp2 hd2 ok2 hk3 hf3
  simp only at hd3 ok3
  go_wp2_with fail
  refine (plan_any _ _ _ _ hd3 0 0).mono ?_
  rintro e w4 ⟨rfl, r4, hd4, hk4, hf4⟩
  have e4 : Dsk.plan ⟨m, List.replicate (m / 2) 0, 1, false, false, -1, 0⟩ 0 0 = (0, ⟨m, List.replicate (m / 2) 0, 1, false, true, 0, 0⟩) := rfl
  have ok4 := Dsk.plan_ok ok3 0 0
  rw [e4] at hd4 ok4 ⊢
  clear e4
  simp only at hd4 ok4
  have KP4 : Kp w w4 (fun _ => False) := KP3.step hk4 (Nat.le_refl _) nw3
  have nw4 : New w r4 := nw3.fr KP3.size hf4
  have hrd4 := hrd1.kp KP4 (fun _ _ _ h => h)
  have haw4 : ∀ ad, A = some ad → (x.take 60) ≠ [] → ad.block ≠ w.heap.size ∧ r4 ≠ some ad.block := fun ad ha hne => by
    have := hlt1 ad ha hne
    exact ⟨by omega, fun e => by have := nw4 _ e; omega⟩
  obtain ⟨D, hD⟩ : ∃ D, D = Dsk.put ⟨m, List.replicate (m / 2) 0, 1, false, true, 0, 0⟩ at_ (x.take 60) := ⟨_, rfl⟩
  obtain ⟨c1, c2, c3, hDb, hDp⟩ := refused_put m hm79 at_ (x.take 60) D hD
  rw [hx1.out] at c2 c3
  have ok5 := Dsk.put_ok ok4 at_ (x.take 60)
  have HP := put_any _ _ _ _ hd4 ok4 at_ A 60 c (x.take 60) hx1.out hrd4 haw4
  rw [← hD] at HP ok5
  have HPV := V.mk HP
  have hDV := V.mk (And.intro hDb hDp)
  clear hD HP hDb hDp
  have hcase : (at_ < 0 ∨ ((m : Int) / 2) < at_) ∨ (0 ≤ at_ ∧ at_ ≤ (m : Int) / 2 ∧ (m : Int) < at_ + 60) ∨ (0 ≤ at_ ∧ at_ ≤ (m : Int) / 2 ∧ at_ + 60 ≤ (m : Int)) := by omega
  have hres : ∃ (want : Int) (st : Bool), D.1 = want ∧ D.2.st = st ∧ ((want = 1 ∧ (at_ < 0 ∨ ((m : Int) / 2) < at_)) ∨ (want = 7 ∧ 0 ≤ at_ ∧ at_ ≤ (m : Int) / 2 ∧ (m : Int) < at_ + 60) ∨ (want = 10 ∧ 0 ≤ at_ ∧ at_ ≤ (m : Int) / 2 ∧ at_ + 60 ≤ (m : Int))) ∧ st = (want == 10) := by
    rcases hcase with h | ⟨h1, h2, h3⟩ | ⟨h1, h2, h3⟩
    · obtain ⟨a, b⟩ := c1 (by omega)
      exact ⟨1, false, a, b, .inl ⟨rfl, h⟩, rfl⟩
    · obtain ⟨a, b⟩ := c2 h1 (by omega) (by omega)
      exact ⟨7, false, a, b, .inr (.inl ⟨rfl, h1, h2, h3⟩), rfl⟩
    · obtain ⟨a, b⟩ := c3 h1 (by omega) (by omega)
      exact ⟨10, true, a, b, .inr (.inr ⟨rfl, h1, h2, h3⟩), rfl⟩
  clear c1 c2 c3 hcase
  obtain ⟨want, st, hw1, hw2, hwc, hst⟩ := hres
  have hwV := V.mk (And.intro hw1 hw2)
  clear hw1 hw2
  subst hst
  rcases hwc with ⟨rfl, hc⟩ | ⟨rfl, hc0, hc1, hc2⟩ | ⟨rfl, hc0, hc1, hc2⟩
  all_goals
    go_wp2_with fail
    all_goals
      refine (HPV.out).mono ?_
      rintro e w5 ⟨rfl, r5, hd5, hk5, hf5⟩
      rw [hwV.out.1]
      have KP5 : Kp w w5 (fun _ => False) := KP4.step hk5 (Nat.le_refl _) nw4
      clear hk5 hf5 HPV
      go_wp2_with fail
      refine (end_any _ _ _ _ hd5).mono ?_
      rintro e w6 ⟨rfl, rfl⟩
      rw [hDV.out.1, List.length_replicate]
      go_wp2_with fail
      refine (puts_any _ _ _ _ hd5).mono ?_
      rintro e w6 ⟨rfl, rfl⟩
      rw [hDV.out.2]
      go_wp2_with fail
      refine (stopped_any _ _ _ _ hd5).mono ?_
      rintro e w6 ⟨rfl, rfl⟩
      rw [hwV.out.2]
      go_wp2_with fail
      refine (read_any _ _ _ _ hd5 ok5 0 100 (by omega)).mono ?_
      rintro e w6 ⟨A6, n6, c6, r6, rfl, hrow6, nw6, hk6⟩
      have er : D.2.read 0 100 = List.replicate (m / 2) 0 := by
        unfold Dsk.read
        rw [hDV.out.1, List.length_replicate]
        have q1 : ¬ ((0 : Int) < 0 ∨ (100 : Int) < 0 ∨ ((m / 2 : Nat) : Int) < 0) := by omega
        rw [if_neg q1]
        simp
        omega
      rw [er] at hrow6
      have hn6 : n6 = m / 2 := by have := hrow6.len; simpa using this.symm
      subst hn6
      have KP6 := KP5.quiet hk6
      clear er hd5 ok5
      go_wp2_with fail
      go_loop [85] (fun i => ∃ k : Nat, k ≤ m / 2 ∧ i = .int .i64 k) (fun i => m / 2 - (intOf i).toNat)
      case atStart => exact ⟨0, Nat.zero_le _, rfl⟩
      case round =>
        obtain ⟨k, hk, rfl⟩ := hrel
        by_cases hlt : k < m / 2
        · obtain ⟨gb, rfl, hgb⟩ := hrow6.addr (by omega)
          have hcell := hrow6.at_ k (.int .u8 0) (by simp [B8, hlt])
          go_wp2
          go_round
          case rel => exact ⟨k + 1, by omega, by go_num⟩
          case measure => simp [intOf]; omega
        · have KV := V.mk KP6
          go_wp2_with fail
          refine (tells_any _).mono ?_
          rintro e w7 ⟨rfl, hk7⟩
          go_wp2_with fail
          go_ret
          exact ⟨rfl, KV.out.quiet hk7⟩

theorem refused_any (w : World) (A : Option Addr) (n c : Nat) (x : List Int) (hx : x.length = n) (hrd : Rd w A n c (B8 x)) (hlt : ∀ ad, A = some ad → x ≠ [] → ad.block < w.heap.size) (at_ : Int) (ha0 : -9223372036854775808 ≤ at_) (ha1 : at_ ≤ 9223372036854775807) (room : Int) (hr0 : 0 ≤ room) (hr1 : room ≤ 255) :
    Calls Try.prog 3 #[.slice A n c, .int .i64 at_, .int .u8 room] w fun e w' => e = .returned (.bool true) ∧ Kp w w' (fun _ => False) := by
  by_cases h : n ≤ 60
  · exact refused_1 w A n c x hx hrd hlt at_ ha0 ha1 room hr0 hr1 h
  · exact refused_2 w A n c x hx hrd hlt at_ ha0 ha1 room hr0 hr1 (by omega)

end Go.Proofs.Ytihmkddnfceoiaa
