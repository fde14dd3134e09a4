/- The program's disk: Put (layer 14). Condition: the disk is one; what is laid lies apart from it. -/
import Derived.Test.YtkameiopahcacaaDoorDsk
set_option linter.unusedVariables false
set_option linter.unusedSimpArgs false
set_option maxRecDepth 100000
namespace Go.Proofs.YtkameiopahcacaaDoor
open Go.RowKit

theorem put_st (w : World) (g : Nat) (r : Option Nat) (d : Dsk) (h : IsDisk w g r d) (at_ : Int) (A : Option Addr) (n c : Nat) (hst : d.st = true) :
    Calls Tryd.prog 33 #[.pointer (some ⟨g, 0, none⟩), .int .i64 at_, .slice A n c] w (DPost w g r (10, d)) := by
  obtain ⟨A0, c0, k0, k1, k2, k3, k4, k5, k6, k7, kf, -, -⟩ := h.cells
  go_enter Tryd.func33, Tryd.ntmps33
  go_wp2_with (go_at_call 38; refine (none_is w g r d h).mono ?_; rintro e w' ⟨rfl, rfl⟩)
  go_ret
  exact DPost.same h _

theorem put_at (w : World) (g : Nat) (r : Option Nat) (d : Dsk) (h : IsDisk w g r d) (at_ : Int) (A : Option Addr) (n c : Nat) (hst : d.st = false) (hlt : at_ < 0 ∨ (d.b.length : Int) < at_) :
    Calls Tryd.prog 33 #[.pointer (some ⟨g, 0, none⟩), .int .i64 at_, .slice A n c] w (DPost w g r (1, d)) := by
  obtain ⟨A0, c0, k0, k1, k2, k3, k4, k5, k6, k7, kf, -, -⟩ := h.cells
  go_enter Tryd.func33, Tryd.ntmps33
  go_wp2_with (go_at_call 38; refine (none_is w g r d h).mono ?_; rintro e w' ⟨rfl, rfl⟩)
  all_goals (go_ret; exact DPost.same h _)

theorem put_full (w : World) (g : Nat) (r : Option Nat) (d : Dsk) (h : IsDisk w g r d) (hok : d.ok) (at_ : Int) (A : Option Addr) (n c : Nat) (hst : d.st = false) (h0 : 0 ≤ at_) (h1 : at_ ≤ d.b.length) (h2 : d.cap - at_ < n) (hn : n ≤ 9223372036854775807) :
    Calls Tryd.prog 33 #[.pointer (some ⟨g, 0, none⟩), .int .i64 at_, .slice A n c] w (DPost w g r (7, d)) := by
  have hc0 := hok.c0
  have hc1 := hok.c1
  have hlen := hok.len
  clear hok
  obtain ⟨A0, c0, k0, k1, k2, k3, k4, k5, k6, k7, kf, -, -⟩ := h.cells
  go_enter Tryd.func33, Tryd.ntmps33
  go_wp2_with (go_at_call 38; refine (none_is w g r d h).mono ?_; rintro e w' ⟨rfl, rfl⟩)
  go_ret
  exact DPost.same h _

set_option maxHeartbeats 400000 in
theorem put_done (w : World) (g : Nat) (r : Option Nat) (d : Dsk) (h : IsDisk w g r d) (hok : d.ok) (at_ : Nat) (A : Option Addr) (n c : Nat) (x : List Int) (hx : x.length = n) (hrd : Rd w A n c (B8 x))
    (haw : ∀ ad, A = some ad → x ≠ [] → ad.block ≠ g ∧ r ≠ some ad.block) (hst : d.st = false) (h1 : at_ ≤ d.b.length) (h2 : (n : Int) ≤ d.cap - at_) (hp : (d.is && (d.p == 0)) = false) :
    Calls Tryd.prog 33 #[.pointer (some ⟨g, 0, none⟩), .int .i64 at_, .slice A n c] w
      (DPost w g r (0, { d with b := layB d.b at_ x, puts := wr64 (d.puts + 1), p := wr64 (d.p - 1) })) := by
  have hc0 := hok.c0
  have hc1 := hok.c1
  have hlen := hok.len
  have q2 : at_ + n ≤ 1048576 := by omega
  have q3 : d.b.length ≤ 1048576 := by omega
  clear hok
  obtain ⟨A0, c0, k0, k1, k2, k3, k4, k5, k6, k7, kf, -, -⟩ := h.cells
  have hxV := V.mk hx
  clear hx
  rcases Bool.and_eq_false_iff.1 hp with his | hp'
  all_goals
    clear hp
    go_enter Tryd.func33, Tryd.ntmps33
    go_wp2_with (first
      | (go_at_call 38; refine (none_is w g r d h).mono ?_; rintro e w' ⟨rfl, rfl⟩)
      | (go_at_call 55; refine (lay_any w g r d h at_ A n c x hxV.out hrd haw h1 q2 q3).mono ?_; rintro e w1 ⟨rfl, r1, hd1, hk1, hf1⟩; clear k0 k1 k2 k3 k4 k5 k6 k7 kf; obtain ⟨A1, c1, k0, k1, k2, k3, k4, k5, k6, k7, kf, -, -⟩ := hd1.cells))
    all_goals
      go_ret
      refine ⟨rfl, r1, ?_, ?_, hf1⟩
      · have := (hd1.set_puts (wrap64 (d.puts + 1))).set_p (wrap64 (d.p - 1))
        simpa only [wr64_eq] using this
      · exact (hk1.set g 3 _ (.inl (.inl rfl))).set g 6 _ (.inl (.inl rfl))

set_option maxHeartbeats 400000 in
theorem put_stop (w : World) (g : Nat) (r : Option Nat) (d : Dsk) (h : IsDisk w g r d) (hok : d.ok) (at_ : Nat) (A : Option Addr) (n c : Nat) (x : List Int) (hx : x.length = n) (hrd : Rd w A n c (B8 x))
    (haw : ∀ ad, A = some ad → x ≠ [] → ad.block ≠ g ∧ r ≠ some ad.block) (hst : d.st = false) (h1 : at_ ≤ d.b.length) (h2 : (n : Int) ≤ d.cap - at_) (his : d.is = true) (hp' : (d.p == 0) = true) (hn0 : 0 ≤ d.n) :
    Calls Tryd.prog 33 #[.pointer (some ⟨g, 0, none⟩), .int .i64 at_, .slice A n c] w
      (DPost w g r (10, { d with b := layB d.b at_ (x.take d.n.toNat), st := true, is := false, p := 0, n := 0 })) := by
  have hc0 := hok.c0
  have hc1 := hok.c1
  have hlen := hok.len
  have q2 : at_ + n ≤ 1048576 := by omega
  have q3 : d.b.length ≤ 1048576 := by omega
  have hnc := hrd.1
  clear hok
  obtain ⟨A0, c0, k0, k1, k2, k3, k4, k5, k6, k7, kf, -, -⟩ := h.cells
  by_cases hm : (n : Int) < d.n
  · have ex := V.mk (show x.take d.n.toNat = x from List.take_of_length_le (by omega))
    have hxV := V.mk hx
    clear hx
    go_enter Tryd.func33, Tryd.ntmps33
    go_wp2_with (first
      | (go_at_call 38; refine (none_is w g r d h).mono ?_; rintro e w' ⟨rfl, rfl⟩)
      | (go_at_call 55; refine (lay_any w g r d h at_ A n c x hxV.out hrd haw h1 q2 q3).mono ?_; rintro e w1 ⟨rfl, r1, hd1, hk1, hf1⟩; clear k0 k1 k2 k3 k4 k5 k6 k7 kf; obtain ⟨A1, c1, k0, k1, k2, k3, k4, k5, k6, k7, kf, -, -⟩ := hd1.cells))
    go_ret
    refine ⟨rfl, r1, ?_, ?_, hf1⟩
    · have := (((hd1.set_st true).set_is false).set_p 0).set_n 0
      rw [ex.out]
      exact this
    · exact (((hk1.set g 4 _ (.inl (.inl rfl))).set g 5 _ (.inl (.inl rfl))).set g 6 _ (.inl (.inl rfl))).set g 7 _ (.inl (.inl rfl))
  · obtain ⟨m, hmN, hmn⟩ : ∃ m : Nat, d.n = m ∧ m ≤ n := ⟨d.n.toNat, by omega, by omega⟩
    have hrd' := rd_take hrd m hmn
    have hx' := V.mk (show (x.take m).length = m from by rw [List.length_take]; omega)
    have q2' : at_ + m ≤ 1048576 := by omega
    have haw' : ∀ ad, A = some ad → x.take m ≠ [] → ad.block ≠ g ∧ r ≠ some ad.block := fun ad ha hne => haw ad ha (by rintro rfl; simp at hne)
    have em : d.n.toNat = m := by omega
    rw [em]
    have k7' : w.cell? ⟨g, 7, none⟩ = some (.int .i64 (m : Int)) := by rw [k7, hmN]
    have hxV := V.mk hx
    have HdN := V.mk hmN
    clear hx hmN em hm hn0 k7
    go_enter Tryd.func33, Tryd.ntmps33
    go_wp2_with (first
      | (go_at_call 38; refine (none_is w g r d h).mono ?_; rintro e w' ⟨rfl, rfl⟩)
      | (go_at_call 55; refine (lay_any w g r d h at_ A m c (x.take m) hx'.out hrd' haw' h1 q2' q3).mono ?_; rintro e w1 ⟨rfl, r1, hd1, hk1, hf1⟩; clear k0 k1 k2 k3 k4 k5 k6 k7' kf; obtain ⟨A1, c1, k0, k1, k2, k3, k4, k5, k6, k7, kf, -, -⟩ := hd1.cells))
    go_ret
    refine ⟨rfl, r1, ?_, ?_, hf1⟩
    · exact (((hd1.set_st true).set_is false).set_p 0).set_n 0
    · exact (((hk1.set g 4 _ (.inl (.inl rfl))).set g 5 _ (.inl (.inl rfl))).set g 6 _ (.inl (.inl rfl))).set g 7 _ (.inl (.inl rfl))

theorem put_any (w : World) (g : Nat) (r : Option Nat) (d : Dsk) (h : IsDisk w g r d) (hok : d.ok) (at_ : Int) (A : Option Addr) (n c : Nat) (x : List Int) (hx : x.length = n) (hrd : Rd w A n c (B8 x))
    (haw : ∀ ad, A = some ad → x ≠ [] → ad.block ≠ g ∧ r ≠ some ad.block) :
    Calls Tryd.prog 33 #[.pointer (some ⟨g, 0, none⟩), .int .i64 at_, .slice A n c] w (DPost w g r (d.put at_ x)) := by
  have hnc := hrd.1
  have hcm := hrd.2.1
  simp only [maxLen] at hcm
  unfold Dsk.put
  by_cases hst : d.st = true
  · rw [if_pos hst]
    exact put_st w g r d h at_ A n c hst
  · have hst' : d.st = false := by simpa using hst
    rw [if_neg hst]
    by_cases h1 : at_ < 0 ∨ (d.b.length : Int) < at_
    · rw [if_pos h1]
      exact put_at w g r d h at_ A n c hst' h1
    · rw [if_neg h1]
      by_cases h2 : d.cap - at_ < (x.length : Int)
      · rw [if_pos h2]
        exact put_full w g r d h hok at_ A n c hst' (by omega) (by omega) (by omega) (by omega)
      · rw [if_neg h2]
        obtain ⟨k, rfl⟩ : ∃ k : Nat, at_ = k := ⟨at_.toNat, by omega⟩
        by_cases h3 : d.is = true ∧ d.p = 0
        · rw [if_pos h3]
          exact put_stop w g r d h hok k A n c x hx hrd haw hst' (by omega) (by omega) h3.1 (by simp [h3.2]) (hok.pn h3.1)
        · rw [if_neg h3]
          exact put_done w g r d h hok k A n c x hx hrd haw hst' (by omega) (by omega) (by simpa using h3)
end Go.Proofs.YtkameiopahcacaaDoor
