/- The program's disk: the other calls (layer 14). Condition: the disk is one. -/
import Derived.Test.YtkameiopahcacaaDoorDsk
import Derived.StillTailTactics
set_option linter.unusedVariables false
set_option linter.unusedSimpArgs false
set_option maxRecDepth 100000
namespace Go.Proofs.YtkameiopahcacaaDoor
open Go.RowKit


theorem new_ok (w : World) (cap : Int) (h0 : 0 ≤ cap) (h1 : cap ≤ 1048576) :
    Calls Tryd.prog 12 #[.int .i64 cap] w fun e w' => e = .returned (.tuple #[.pointer (some ⟨w.heap.size, 0, none⟩), .int .i64 0]) ∧
      IsDisk w' w.heap.size none ⟨cap, [], 0, false, false, 0, 0⟩ ∧ Kp w w' (fun _ => False) ∧ w.heap.size < w'.heap.size := by
  go_enter Tryd.func12, Tryd.ntmps12
  go_wp2
  go_ret2
  refine ⟨rfl, ⟨none, 0, ?_, Row.nil _ _ _⟩, ?_, by simp⟩
  · exact Blk.new _ _ _
  · exact (Kp.refl w _).alloc _

theorem new_no (w : World) (cap : Int) (h : cap < 0 ∨ 1048576 < cap) :
    Calls Tryd.prog 12 #[.int .i64 cap] w fun e w' => e = .returned (.tuple #[.pointer none, .int .i64 1]) ∧ w = w' := by
  go_enter Tryd.func12, Tryd.ntmps12
  go_wp2
  all_goals (go_ret2; exact ⟨rfl, rfl⟩)

theorem plan_any (w : World) (g : Nat) (r : Option Nat) (d : Dsk) (h : IsDisk w g r d) (puts bytes : Int) :
    Calls Tryd.prog 15 #[.pointer (some ⟨g, 0, none⟩), .int .i64 puts, .int .i64 bytes] w (DPost w g r (d.plan puts bytes)) := by
  obtain ⟨A0, c0, k0, k1, k2, k3, k4, k5, k6, k7, kf, -, -⟩ := h.cells
  unfold Dsk.plan
  by_cases hst : d.st = true
  · rw [if_pos hst]
    go_enter Tryd.func15, Tryd.ntmps15
    go_wp2_with (go_at_call 38; refine (none_is w g r d h).mono ?_; rintro e w' ⟨rfl, rfl⟩)
    go_ret
    exact DPost.same h _
  · rw [if_neg hst]
    by_cases hp : puts < 0 ∨ bytes < 0
    · rw [if_pos hp]
      go_enter Tryd.func15, Tryd.ntmps15
      go_wp2_with (go_at_call 38; refine (none_is w g r d h).mono ?_; rintro e w' ⟨rfl, rfl⟩)
      all_goals (go_ret; exact DPost.same h _)
    · rw [if_neg hp]
      go_enter Tryd.func15, Tryd.ntmps15
      go_wp2_with (go_at_call 38; refine (none_is w g r d h).mono ?_; rintro e w' ⟨rfl, rfl⟩)
      go_ret
      exact ⟨rfl, r, ((h.set_is true).set_p puts).set_n bytes, (((Kp.refl w _).set g 5 _ (.inl (.inl rfl))).set g 6 _ (.inl (.inl rfl))).set g 7 _ (.inl (.inl rfl)), .inl rfl⟩

theorem revive_any (w : World) (g : Nat) (r : Option Nat) (d : Dsk) (h : IsDisk w g r d) :
    Calls Tryd.prog 16 #[.pointer (some ⟨g, 0, none⟩)] w (DPost w g r d.revive) := by
  obtain ⟨A0, c0, k0, k1, k2, k3, k4, k5, k6, k7, kf, -, -⟩ := h.cells
  unfold Dsk.revive
  by_cases hst : d.st = true
  · rw [if_pos hst]
    go_enter Tryd.func16, Tryd.ntmps16
    go_wp2_with (go_at_call 38; refine (none_is w g r d h).mono ?_; rintro e w' ⟨rfl, rfl⟩)
    go_ret
    exact ⟨rfl, r, h.set_st false, (Kp.refl w _).set g 4 _ (.inl (.inl rfl)), .inl rfl⟩
  · rw [if_neg hst]
    go_enter Tryd.func16, Tryd.ntmps16
    go_wp2_with (go_at_call 38; refine (none_is w g r d h).mono ?_; rintro e w' ⟨rfl, rfl⟩)
    go_ret
    exact DPost.same h _

theorem end_any (w : World) (g : Nat) (r : Option Nat) (d : Dsk) (h : IsDisk w g r d) :
    Calls Tryd.prog 37 #[.pointer (some ⟨g, 0, none⟩)] w fun e w' => e = .returned (.int .i64 d.b.length) ∧ w = w' := by
  obtain ⟨A0, c0, k0, k1, k2, k3, k4, k5, k6, k7, kf, -, -⟩ := h.cells
  go_enter Tryd.func37, Tryd.ntmps37
  go_wp2_with (go_at_call 38; refine (none_is w g r d h).mono ?_; rintro e w' ⟨rfl, rfl⟩)
  go_ret
  exact ⟨rfl, rfl⟩

theorem stopped_any (w : World) (g : Nat) (r : Option Nat) (d : Dsk) (h : IsDisk w g r d) :
    Calls Tryd.prog 26 #[.pointer (some ⟨g, 0, none⟩)] w fun e w' => e = .returned (.bool d.st) ∧ w = w' := by
  obtain ⟨A0, c0, k0, k1, k2, k3, k4, k5, k6, k7, kf, -, -⟩ := h.cells
  go_enter Tryd.func26, Tryd.ntmps26
  go_wp2_with (go_at_call 38; refine (none_is w g r d h).mono ?_; rintro e w' ⟨rfl, rfl⟩)
  go_ret
  exact ⟨rfl, rfl⟩

theorem read_no (w : World) (g : Nat) (r : Option Nat) (d : Dsk) (h : IsDisk w g r d) (at_ many : Int) (hno : at_ < 0 ∨ many < 0 ∨ (d.b.length : Int) < at_) :
    Calls Tryd.prog 13 #[.pointer (some ⟨g, 0, none⟩), .int .i64 at_, .int .i64 many] w fun e w' => e = .returned (.slice none 0 0) ∧ w = w' := by
  obtain ⟨A0, c0, k0, k1, k2, k3, k4, k5, k6, k7, kf, -, -⟩ := h.cells
  go_enter Tryd.func13, Tryd.ntmps13
  go_wp2_with (go_at_call 38; refine (none_is w g r d h).mono ?_; rintro e w' ⟨rfl, rfl⟩)
  all_goals (go_ret; exact ⟨rfl, rfl⟩)

theorem read_yes (w : World) (g : Nat) (r : Option Nat) (d : Dsk) (h : IsDisk w g r d) (hok : d.ok) (at_ : Nat) (many : Nat) (h1 : at_ ≤ d.b.length) (hmm : (many : Int) ≤ 9223372036854775807) :
    Calls Tryd.prog 13 #[.pointer (some ⟨g, 0, none⟩), .int .i64 at_, .int .i64 many] w (BPost w ((d.b.drop at_).take many)) := by
  have hc1 := hok.c1
  have hlen := hok.len
  obtain ⟨A0, c0, k0, k1, k2, k3, k4, k5, k6, k7, kf, HB, hrow⟩ := h.cells
  have hle := hrow.le
  have hcm := hle.2
  simp only [maxLen] at hcm
  have hrd := hrow.rd
  obtain ⟨m, hm⟩ : ∃ m, m = Nat.min many (d.b.length - at_) := ⟨_, rfl⟩
  have hm' : m = min many (d.b.length - at_) := hm
  have hsub := hrd.sub at_ m (by omega)
  have ecs : ((B8 d.b).drop at_).take m = B8 ((d.b.drop at_).take many) := by
    rw [B8_take, B8_drop]
    by_cases hh : many ≤ d.b.length - at_
    · rw [show m = many by omega]
    · rw [List.take_of_length_le (by simp; omega), List.take_of_length_le (by simp; omega)]
  rw [ecs] at hsub
  have hl := V.mk (show ((d.b.drop at_).take many).length = m by simp; omega)
  have b1 : ((m : Nat) : Int) ≤ ((c0 - at_ : Nat) : Int) := by omega
  have b4 : m ≤ 1048576 := by omega
  obtain ⟨AA, hAA⟩ : ∃ AA, (if c0 = at_ then A0 else A0.map (fun x => x.add at_)) = AA := ⟨_, rfl⟩
  rw [hAA] at hsub
  have b2 : (if ((d.b.length : Int) - at_ < (many : Int)) then ((d.b.length : Int) - at_) else (many : Int)) = (m : Int) := by split <;> omega
  have b3 := IntWalk.i64_in ((d.b.length : Int) - at_) (by omega)
  clear ecs hm hok hm'
  go_enter Tryd.func13, Tryd.ntmps13
  go_wp2_with (first
    | (go_at_call 38; refine (none_is w g r d h).mono ?_; rintro e w' ⟨rfl, rfl⟩))
  go_still_tail 16, (by kernel_rfl)
  change wpList _ _ _ _ _ w.drew
  clear b2 b3 hAA
  go_wp2_with (go_at_call 39; refine (clone_any _ AA m (c0 - at_) _ hl.out hsub.drew b4).mono ?_; rintro e w' ⟨A', c', r', rfl, q1, q2, q3⟩)
  go_ret
  exact ⟨A', m, c', r', rfl, q1, q2, q3.of_drew⟩

theorem read_any (w : World) (g : Nat) (r : Option Nat) (d : Dsk) (h : IsDisk w g r d) (hok : d.ok) (at_ many : Int) (hmm : many ≤ 9223372036854775807) :
    Calls Tryd.prog 13 #[.pointer (some ⟨g, 0, none⟩), .int .i64 at_, .int .i64 many] w (BPost w (d.read at_ many)) := by
  unfold Dsk.read
  by_cases hno : at_ < 0 ∨ many < 0 ∨ (d.b.length : Int) < at_
  · rw [if_pos hno]
    refine (read_no w g r d h at_ many hno).mono ?_
    rintro e w' ⟨rfl, rfl⟩
    exact ⟨none, 0, 0, none, rfl, Row.nil _ _ _, by simp, Kp.refl _ _⟩
  · rw [if_neg hno]
    obtain ⟨a, rfl⟩ : ∃ a : Nat, at_ = a := ⟨at_.toNat, by omega⟩
    obtain ⟨m, rfl⟩ : ∃ m : Nat, many = m := ⟨many.toNat, by omega⟩
    exact read_yes w g r d h hok a m (by omega) hmm

end Go.Proofs.YtkameiopahcacaaDoor
