/- The program's disk (layer 14) where there is none: nil, or a zero value: each call answers so and changes nothing. No condition. -/
import Derived.Test.YtkameiopahcacaaDoorDsk
set_option linter.unusedVariables false
set_option linter.unusedSimpArgs false
set_option maxRecDepth 100000
namespace Go.Proofs.YtkameiopahcacaaDoor
open Go.RowKit

theorem none_zero (w : World) (g : Nat) (h0 : w.cell? ⟨g, 0, none⟩ = some (.bool false)) :
    Calls Tryd.prog 38 #[.pointer (some ⟨g, 0, none⟩)] w fun e w' => e = .returned (.bool true) ∧ w = w' := by
  go_enter Tryd.func38, Tryd.ntmps38
  go_wp2
  go_ret
  exact ⟨rfl, rfl⟩

theorem put_nil (w : World) (at_ : Int) (A : Option Addr) (n c : Nat) :
    Calls Tryd.prog 33 #[.pointer none, .int .i64 at_, .slice A n c] w fun e w' => e = .returned (.int .i64 2) ∧ w = w' := by
  go_enter Tryd.func33, Tryd.ntmps33
  go_wp2_with (go_at_call 38; refine (none_nil w).mono ?_; rintro e w' ⟨rfl, rfl⟩)
  go_ret
  exact ⟨rfl, rfl⟩
theorem revive_nil (w : World) :
    Calls Tryd.prog 16 #[.pointer none] w fun e w' => e = .returned (.int .i64 2) ∧ w = w' := by
  go_enter Tryd.func16, Tryd.ntmps16
  go_wp2_with (go_at_call 38; refine (none_nil w).mono ?_; rintro e w' ⟨rfl, rfl⟩)
  go_ret
  exact ⟨rfl, rfl⟩
theorem end_nil (w : World) :
    Calls Tryd.prog 37 #[.pointer none] w fun e w' => e = .returned (.int .i64 0) ∧ w = w' := by
  go_enter Tryd.func37, Tryd.ntmps37
  go_wp2_with (go_at_call 38; refine (none_nil w).mono ?_; rintro e w' ⟨rfl, rfl⟩)
  go_ret
  exact ⟨rfl, rfl⟩
theorem read_nil (w : World) (at_ many : Int) :
    Calls Tryd.prog 13 #[.pointer none, .int .i64 at_, .int .i64 many] w fun e w' => e = .returned (.slice none 0 0) ∧ w = w' := by
  go_enter Tryd.func13, Tryd.ntmps13
  go_wp2_with (go_at_call 38; refine (none_nil w).mono ?_; rintro e w' ⟨rfl, rfl⟩)
  go_ret
  exact ⟨rfl, rfl⟩
theorem plan_zero (w : World) (g : Nat) (h0 : w.cell? ⟨g, 0, none⟩ = some (.bool false)) (p b : Int) :
    Calls Tryd.prog 15 #[.pointer (some ⟨g, 0, none⟩), .int .i64 p, .int .i64 b] w fun e w' => e = .returned (.int .i64 2) ∧ w = w' := by
  go_enter Tryd.func15, Tryd.ntmps15
  go_wp2_with (go_at_call 38; refine (none_zero w g h0).mono ?_; rintro e w' ⟨rfl, rfl⟩)
  go_ret
  exact ⟨rfl, rfl⟩
theorem stopped_zero (w : World) (g : Nat) (h0 : w.cell? ⟨g, 0, none⟩ = some (.bool false)) :
    Calls Tryd.prog 26 #[.pointer (some ⟨g, 0, none⟩)] w fun e w' => e = .returned (.bool false) ∧ w = w' := by
  go_enter Tryd.func26, Tryd.ntmps26
  go_wp2_with (go_at_call 38; refine (none_zero w g h0).mono ?_; rintro e w' ⟨rfl, rfl⟩)
  go_ret
  exact ⟨rfl, rfl⟩
theorem copy_zero (w : World) (g : Nat) (h0 : w.cell? ⟨g, 0, none⟩ = some (.bool false)) :
    Calls Tryd.prog 35 #[.pointer (some ⟨g, 0, none⟩)] w fun e w' => e = .returned (.pointer none) ∧ w = w' := by
  go_enter Tryd.func35, Tryd.ntmps35
  go_wp2_with (go_at_call 38; refine (none_zero w g h0).mono ?_; rintro e w' ⟨rfl, rfl⟩)
  go_ret
  exact ⟨rfl, rfl⟩

/-- Two disks in memory that is new since w, apart. -/
structure Two (w W : World) (a : Nat) (ra : Option Nat) (d1 : Dsk) (b : Nat) (rb : Option Nat) (d2 : Dsk) : Prop where
  kp : Kp w W (fun _ => False)
  h1 : IsDisk W a ra d1
  h2 : IsDisk W b rb d2
  ok1 : d1.ok
  ok2 : d2.ok
  g1 : w.heap.size ≤ a
  g2 : w.heap.size ≤ b
  ne : a ≠ b
  n1 : New w ra
  n2 : New w rb
  sep : ∀ k, ra = some k → rb ≠ some k

section
variable {w W W1 : World} {g1 g2 : Nat} {r1 r2 r' : Option Nat} {d1 d2 d' : Dsk}
theorem Two.x (h : Two w W g1 r1 d1 g2 r2 d2) : r1 ≠ some g2 ∧ r2 ≠ some g1 := by
  obtain ⟨A, c, hb, hr⟩ := h.h1
  obtain ⟨A', c', hb', hr'⟩ := h.h2
  exact ⟨hr.ne_type hb' (by decide), hr'.ne_type hb (by decide)⟩
theorem Two.swap (h : Two w W g1 r1 d1 g2 r2 d2) : Two w W g2 r2 d2 g1 r1 d1 := ⟨h.kp, h.h2, h.h1, h.ok2, h.ok1, h.g2, h.g1, h.ne.symm, h.n2, h.n1, fun k a b => h.sep k b a⟩
theorem Two.do1 (h : Two w W g1 r1 d1 g2 r2 d2) (hd : IsDisk W1 g1 r' d') (hk : Kp W W1 (fun j => j = g1 ∨ r1 = some j)) (hf : Fr W r1 r') (hok : d'.ok) : Two w W1 g1 r' d' g2 r2 d2 := by
  obtain ⟨x1, x2⟩ := h.x
  refine ⟨h.kp.step hk h.g1 h.n1, hd, h.h2.kp hk ?_ ?_, hok, h.ok2, h.g1, h.g2, h.ne, h.n1.fr h.kp.size hf, h.n2, ?_⟩
  · rintro (q | q)
    · exact h.ne q.symm
    · exact x1 q
  · rintro k hk' (q | q)
    · subst q; exact x2 hk'
    · exact h.sep k q hk'
  · intro k hk' hk2
    rcases hf.of_lt hk' with q | q
    · exact h.sep k q hk2
    · have := h.h2.rlt hk2; omega
theorem Two.do2 (h : Two w W g1 r1 d1 g2 r2 d2) (hd : IsDisk W1 g2 r' d') (hk : Kp W W1 (fun j => j = g2 ∨ r2 = some j)) (hf : Fr W r2 r') (hok : d'.ok) : Two w W1 g1 r1 d1 g2 r' d' := (h.swap.do1 hd hk hf hok).swap
theorem Two.quiet (h : Two w W g1 r1 d1 g2 r2 d2) (hk : Kp W W1 (fun _ => False)) : Two w W1 g1 r1 d1 g2 r2 d2 :=
  ⟨h.kp.quiet hk, h.h1.kp hk (fun h => h) (fun _ _ h => h), h.h2.kp hk (fun h => h) (fun _ _ h => h), h.ok1, h.ok2, h.g1, h.g2, h.ne, h.n1, h.n2, h.sep⟩
theorem Two.alloc (h : Two w W g1 r1 d1 g2 r2 d2) (o : Obj) : Two w (W.alloc o) g1 r1 d1 g2 r2 d2 := h.quiet ((Kp.refl _ _).alloc o)
end

end Go.Proofs.YtkameiopahcacaaDoor
