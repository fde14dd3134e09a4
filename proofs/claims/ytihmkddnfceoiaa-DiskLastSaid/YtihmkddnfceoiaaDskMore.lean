/- The program's disk: the other calls (layer 14). Condition: the disk is one. -/
import Derived.Test.YtihmkddnfceoiaaDsk
import Derived.StillTailTactics
set_option linter.unusedVariables false
set_option linter.unusedSimpArgs false
namespace Go.Proofs.Ytihmkddnfceoiaa
open Go.RowKit


/-- slices.Clone of bytes: nil, or new memory that reads the same. -/
theorem clone_any (w : World) (A : Option Addr) (n c : Nat) (x : List Int) (hx : x.length = n) (hrd : Rd w A n c (B8 x)) (hn : n ≤ 1048576) :
    Calls Try.prog 26 #[.slice A n c] w fun e w' => ∃ A' c' r', e = .returned (.slice A' n c') ∧ Row w' 5 1 A' n c' (B8 x) r' ∧ (∀ k, r' = some k → w.heap.size ≤ k) ∧ Kp w w' (fun _ => False) := by
  obtain ⟨i0, hi, hz0, hz1, hz2⟩ := info_parts i_byte
  have hnil := fun (A : Option Addr) (n c : Nat) (w : World) => Lib.run_eql_slice_nil (P := Try.prog) w 22 5 A n c 0 0 u_bytes
  have hxV := V.mk hx
  clear hx
  cases A with
  | none =>
    have hc := hrd.2.2.1 rfl
    have hnc := hrd.1
    obtain rfl : n = 0 := by omega
    have hx0 : x = [] := List.eq_nil_of_length_eq_zero hxV.out
    clear hc
    go_enter Try.func26, Try.ntmps26
    go_wp2
    go_ret
    exact ⟨none, 0, none, rfl, by rw [hx0]; exact Row.nil _ _ _, by simp, Kp.refl _ _⟩
  | some ad =>
    go_enter Try.func26, Try.ntmps26
    go_wp2_with (at_builtin; refine wpList_app rfl (.tmp 5) (.tmp 6) 22 rfl 5 i0 (.int .u8 0) 1 1 u_bytes hi hz0 hz1 hz2 rfl (by decide) _ 0 0 [] _ (by rfl) (Row.made0 w _ 1) (some ad) n c (B8 x) (by rfl) (hrd.alloc _) (by simp [hxV.out]) (B8_one x) n (by omega) (by omega) (by simp only [maxLen]; omega) ?_)
    intro A' c' r' w' hrow hkp hfr _
    go_wp2
    go_ret
    refine ⟨A', c', r', rfl, hrow, ?_, ?_⟩
    · intro k hk
      rcases hfr.of_lt hk with h | h
      · simp only [Option.some.injEq] at h; omega
      · rw [World.size_alloc] at h; omega
    · exact ((Kp.refl w (fun _ => False)).alloc _).trans hkp (fun k hk => .inr (by cases hk; exact Nat.le_refl _))

theorem new_ok (w : World) (cap : Int) (h0 : 0 ≤ cap) (h1 : cap ≤ 1048576) :
    Calls Try.prog 7 #[.int .i64 cap] w fun e w' => e = .returned (.tuple #[.pointer (some ⟨w.heap.size, 0, none⟩), .int .i64 0]) ∧
      IsDisk w' w.heap.size none ⟨cap, [], 0, false, false, 0, 0⟩ ∧ Kp w w' (fun _ => False) ∧ w.heap.size < w'.heap.size := by
  go_enter Try.func7, Try.ntmps7
  go_wp2
  go_ret2
  refine ⟨rfl, ⟨none, 0, ?_, Row.nil _ _ _⟩, ?_, by simp⟩
  · exact Blk.new _ _ _
  · exact (Kp.refl w _).alloc _

theorem new_no (w : World) (cap : Int) (h : cap < 0 ∨ 1048576 < cap) :
    Calls Try.prog 7 #[.int .i64 cap] w fun e w' => e = .returned (.tuple #[.pointer none, .int .i64 1]) ∧ w = w' := by
  go_enter Try.func7, Try.ntmps7
  go_wp2
  all_goals (go_ret2; exact ⟨rfl, rfl⟩)

theorem plan_any (w : World) (g : Nat) (r : Option Nat) (d : Dsk) (h : IsDisk w g r d) (puts bytes : Int) :
    Calls Try.prog 9 #[.pointer (some ⟨g, 0, none⟩), .int .i64 puts, .int .i64 bytes] w (DPost w g r (d.plan puts bytes)) := by
  obtain ⟨A0, c0, k0, k1, k2, k3, k4, k5, k6, k7, kf, -, -⟩ := h.cells
  unfold Dsk.plan
  by_cases hst : d.st = true
  · rw [if_pos hst]
    go_enter Try.func9, Try.ntmps9
    go_wp2_with (go_at_call 24; refine (none_is w g r d h).mono ?_; rintro e w' ⟨rfl, rfl⟩)
    go_ret
    exact DPost.same h _
  · rw [if_neg hst]
    by_cases hp : puts < 0 ∨ bytes < 0
    · rw [if_pos hp]
      go_enter Try.func9, Try.ntmps9
      go_wp2_with (go_at_call 24; refine (none_is w g r d h).mono ?_; rintro e w' ⟨rfl, rfl⟩)
      all_goals (go_ret; exact DPost.same h _)
    · rw [if_neg hp]
      go_enter Try.func9, Try.ntmps9
      go_wp2_with (go_at_call 24; refine (none_is w g r d h).mono ?_; rintro e w' ⟨rfl, rfl⟩)
      go_ret
      exact ⟨rfl, r, ((h.set_is true).set_p puts).set_n bytes, (((Kp.refl w _).set g 5 _ (.inl (.inl rfl))).set g 6 _ (.inl (.inl rfl))).set g 7 _ (.inl (.inl rfl)), .inl rfl⟩

theorem revive_any (w : World) (g : Nat) (r : Option Nat) (d : Dsk) (h : IsDisk w g r d) :
    Calls Try.prog 19 #[.pointer (some ⟨g, 0, none⟩)] w (DPost w g r d.revive) := by
  obtain ⟨A0, c0, k0, k1, k2, k3, k4, k5, k6, k7, kf, -, -⟩ := h.cells
  unfold Dsk.revive
  by_cases hst : d.st = true
  · rw [if_pos hst]
    go_enter Try.func19, Try.ntmps19
    go_wp2_with (go_at_call 24; refine (none_is w g r d h).mono ?_; rintro e w' ⟨rfl, rfl⟩)
    go_ret
    exact ⟨rfl, r, h.set_st false, (Kp.refl w _).set g 4 _ (.inl (.inl rfl)), .inl rfl⟩
  · rw [if_neg hst]
    go_enter Try.func19, Try.ntmps19
    go_wp2_with (go_at_call 24; refine (none_is w g r d h).mono ?_; rintro e w' ⟨rfl, rfl⟩)
    go_ret
    exact DPost.same h _

theorem end_any (w : World) (g : Nat) (r : Option Nat) (d : Dsk) (h : IsDisk w g r d) :
    Calls Try.prog 10 #[.pointer (some ⟨g, 0, none⟩)] w fun e w' => e = .returned (.int .i64 d.b.length) ∧ w = w' := by
  obtain ⟨A0, c0, k0, k1, k2, k3, k4, k5, k6, k7, kf, -, -⟩ := h.cells
  go_enter Try.func10, Try.ntmps10
  go_wp2_with (go_at_call 24; refine (none_is w g r d h).mono ?_; rintro e w' ⟨rfl, rfl⟩)
  go_ret
  exact ⟨rfl, rfl⟩

theorem puts_any (w : World) (g : Nat) (r : Option Nat) (d : Dsk) (h : IsDisk w g r d) :
    Calls Try.prog 11 #[.pointer (some ⟨g, 0, none⟩)] w fun e w' => e = .returned (.int .i64 d.puts) ∧ w = w' := by
  obtain ⟨A0, c0, k0, k1, k2, k3, k4, k5, k6, k7, kf, -, -⟩ := h.cells
  go_enter Try.func11, Try.ntmps11
  go_wp2_with (go_at_call 24; refine (none_is w g r d h).mono ?_; rintro e w' ⟨rfl, rfl⟩)
  go_ret
  exact ⟨rfl, rfl⟩

theorem stopped_any (w : World) (g : Nat) (r : Option Nat) (d : Dsk) (h : IsDisk w g r d) :
    Calls Try.prog 12 #[.pointer (some ⟨g, 0, none⟩)] w fun e w' => e = .returned (.bool d.st) ∧ w = w' := by
  obtain ⟨A0, c0, k0, k1, k2, k3, k4, k5, k6, k7, kf, -, -⟩ := h.cells
  go_enter Try.func12, Try.ntmps12
  go_wp2_with (go_at_call 24; refine (none_is w g r d h).mono ?_; rintro e w' ⟨rfl, rfl⟩)
  go_ret
  exact ⟨rfl, rfl⟩

theorem read_no (w : World) (g : Nat) (r : Option Nat) (d : Dsk) (h : IsDisk w g r d) (at_ many : Int) (hno : at_ < 0 ∨ many < 0 ∨ (d.b.length : Int) < at_) :
    Calls Try.prog 13 #[.pointer (some ⟨g, 0, none⟩), .int .i64 at_, .int .i64 many] w fun e w' => e = .returned (.slice none 0 0) ∧ w = w' := by
  obtain ⟨A0, c0, k0, k1, k2, k3, k4, k5, k6, k7, kf, -, -⟩ := h.cells
  go_enter Try.func13, Try.ntmps13
  go_wp2_with (go_at_call 24; refine (none_is w g r d h).mono ?_; rintro e w' ⟨rfl, rfl⟩)
  all_goals (go_ret; exact ⟨rfl, rfl⟩)

theorem read_yes (w : World) (g : Nat) (r : Option Nat) (d : Dsk) (h : IsDisk w g r d) (hok : d.ok) (at_ : Nat) (many : Nat) (h1 : at_ ≤ d.b.length) (hmm : (many : Int) ≤ 9223372036854775807) :
    Calls Try.prog 13 #[.pointer (some ⟨g, 0, none⟩), .int .i64 at_, .int .i64 many] w (BPost w ((d.b.drop at_).take many)) := by
  have hc1 := hok.c1
  have hlen := hok.len
  obtain ⟨A0, c0, k0, k1, k2, k3, k4, k5, k6, k7, kf, HB, hrow⟩ := h.cells
  have hle := hrow.le
  have hcm := hle.2
  simp only [maxLen] at hcm
  have hrd := hrow.rd
  obtain ⟨m, hm⟩ : ∃ m, m = Nat.min many (d.b.length - at_) := ⟨_, rfl⟩
  have hm' : m = min many (d.b.length - at_) := hm
  have hsub := hrd.sub at_ m (by omega)
  have ecs : ((B8 d.b).drop at_).take m = B8 ((d.b.drop at_).take many) := by
    rw [B8_take, B8_drop]
    by_cases hh : many ≤ d.b.length - at_
    · rw [show m = many by omega]
    · rw [List.take_of_length_le (by simp; omega), List.take_of_length_le (by simp; omega)]
  rw [ecs] at hsub
  have hl := V.mk (show ((d.b.drop at_).take many).length = m by simp; omega)
  have b1 : ((m : Nat) : Int) ≤ ((c0 - at_ : Nat) : Int) := by omega
  have b4 : m ≤ 1048576 := by omega
  obtain ⟨AA, hAA⟩ : ∃ AA, (if c0 = at_ then A0 else A0.map (fun x => x.add at_)) = AA := ⟨_, rfl⟩
  rw [hAA] at hsub
  have b2 : (if ((d.b.length : Int) - at_ < (many : Int)) then ((d.b.length : Int) - at_) else (many : Int)) = (m : Int) := by split <;> omega
  have b3 := IntWalk.i64_in ((d.b.length : Int) - at_) (by omega)
  clear ecs hm hok hm'
  go_enter Try.func13, Try.ntmps13
  go_wp2_with (first
    | (go_at_call 24; refine (none_is w g r d h).mono ?_; rintro e w' ⟨rfl, rfl⟩))
  go_still_tail 16, (by kernel_rfl)
  change wpList _ _ _ _ _ w.drew
  clear b2 b3 hAA
  go_wp2_with (go_at_call 26; refine (clone_any _ AA m (c0 - at_) _ hl.out hsub.drew b4).mono ?_; rintro e w' ⟨A', c', r', rfl, q1, q2, q3⟩)
  go_ret
  exact ⟨A', m, c', r', rfl, q1, q2, q3.of_drew⟩

theorem read_any (w : World) (g : Nat) (r : Option Nat) (d : Dsk) (h : IsDisk w g r d) (hok : d.ok) (at_ many : Int) (hmm : many ≤ 9223372036854775807) :
    Calls Try.prog 13 #[.pointer (some ⟨g, 0, none⟩), .int .i64 at_, .int .i64 many] w (BPost w (d.read at_ many)) := by
  unfold Dsk.read
  by_cases hno : at_ < 0 ∨ many < 0 ∨ (d.b.length : Int) < at_
  · rw [if_pos hno]
    refine (read_no w g r d h at_ many hno).mono ?_
    rintro e w' ⟨rfl, rfl⟩
    exact ⟨none, 0, 0, none, rfl, Row.nil _ _ _, by simp, Kp.refl _ _⟩
  · rw [if_neg hno]
    obtain ⟨a, rfl⟩ : ∃ a : Nat, at_ = a := ⟨at_.toNat, by omega⟩
    obtain ⟨m, rfl⟩ : ∃ m : Nat, many = m := ⟨many.toNat, by omega⟩
    exact read_yes w g r d h hok a m (by omega) hmm

end Go.Proofs.Ytihmkddnfceoiaa
