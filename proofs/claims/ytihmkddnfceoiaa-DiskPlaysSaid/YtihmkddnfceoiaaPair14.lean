/- The program's disk and the document's, side by side: what a call of the one leaves of the other. Condition: both are disks, apart. -/
import Derived.Test.YtihmkddnfceoiaaFew14
import Derived.Test.YtihmkddnfceoiaaRdkPut
import Derived.Test.YtihmkddnfceoiaaDskPut
set_option linter.unusedVariables false
set_option linter.unusedSimpArgs false
namespace Go.Proofs.Ytihmkddnfceoiaa
open Go.RowKit

theorem Row.ne_row {w : World} {e e' : TypeId} {sz sz' : Nat} {A A' : Option Addr} {n n' c c' : Nat} {xs xs' : List Value} {r r' : Option Nat} (h : Row w e sz A n c xs r) (h' : Row w e' sz' A' n' c' xs' r') (ht : e ≠ e') : ∀ k, r = some k → r' ≠ some k := by
  rintro k rfl rfl
  rcases h.2 with ⟨_, _, _, h⟩ | ⟨g, cur, _, h, hg, _⟩
  · simp at h
  · rcases h'.2 with ⟨_, _, _, h'⟩ | ⟨g', cur', _, h', hg', _⟩
    · simp at h'
    · simp only [Option.some.injEq] at h h'
      subst h; subst h'
      rw [hg] at hg'
      simp only [Option.some.injEq, Obj.cells.injEq] at hg'
      exact ht hg'.2.1

/-- Both disks, in memory that is new since w. -/
structure Pair (w W : World) (gd : Nat) (rd : Option Nat) (d : Dsk) (ge : Nat) (re : Option Nat) (e : Rdk) : Prop where
  kp : Kp w W (fun _ => False)
  hd : IsDisk W gd rd d
  he : IsRdk W ge re e
  like : d.like e
  ok : d.ok
  gd : w.heap.size ≤ gd
  ge : w.heap.size ≤ ge
  nd : New w rd
  ne : New w re
  sep : ∀ k, rd = some k → re ≠ some k

theorem IsDisk.row {w : World} {g : Nat} {r : Option Nat} {d : Dsk} (h : IsDisk w g r d) : ∃ A c, Row w 5 1 A d.b.length c (B8 d.b) r ∧ Blk w g #[.bool true, .int .i64 d.cap, .slice A d.b.length c, .int .i64 d.puts, .bool d.st, .bool d.is, .int .i64 d.p, .int .i64 d.n] 50 := by
  obtain ⟨A, c, hb, hr⟩ := h; exact ⟨A, c, hr, hb⟩
theorem IsRdk.row {w : World} {g : Nat} {r : Option Nat} {e : Rdk} (h : IsRdk w g r e) : ∃ A c, Row w 5 1 A e.b.length c (B8 e.b) r ∧ Blk w g #[.int .i64 e.cap, .slice A e.b.length c, .int .i64 e.puts, .bool e.st, .int .i64 e.left, .int .i64 e.bytes] 45 := by
  obtain ⟨A, c, hb, hr⟩ := h; exact ⟨A, c, hr, hb⟩

section
variable {w W W1 : World} {gd ge : Nat} {rd re : Option Nat} {d d' : Dsk} {e e' : Rdk}
theorem Pair.gne (h : Pair w W gd rd d ge re e) : gd ≠ ge := by
  obtain ⟨A, c, hr, hb⟩ := h.hd.row
  obtain ⟨A', c', hr', hb'⟩ := h.he.row
  exact hb.ne_type hb' (by decide)
theorem Pair.rd_ge (h : Pair w W gd rd d ge re e) : rd ≠ some ge := by
  obtain ⟨A, c, hr, hb⟩ := h.hd.row
  obtain ⟨A', c', hr', hb'⟩ := h.he.row
  exact hr.ne_type hb' (by decide)
theorem Pair.re_gd (h : Pair w W gd rd d ge re e) : re ≠ some gd := by
  obtain ⟨A, c, hr, hb⟩ := h.hd.row
  obtain ⟨A', c', hr', hb'⟩ := h.he.row
  exact hr'.ne_type hb (by decide)
/-- A call of the program's disk. -/
theorem Pair.doD (h : Pair w W gd rd d ge re e) {rd' : Option Nat} (hd : IsDisk W1 gd rd' d') (hk : Kp W W1 (fun j => j = gd ∨ rd = some j)) (hf : Fr W rd rd') :
    IsRdk W1 ge re e ∧ New w rd' ∧ (∀ k, rd' = some k → re ≠ some k) ∧ Kp w W1 (fun _ => False) := by
  refine ⟨h.he.kp hk ?_ ?_, h.nd.fr h.kp.size hf, ?_, h.kp.step hk h.gd h.nd⟩
  · rintro (q | q)
    · exact h.gne q.symm
    · exact h.rd_ge q
  · rintro k hk' (q | q)
    · subst q; exact h.re_gd hk'
    · exact h.sep k q hk'
  · intro k hk' hk2
    rcases hf.of_lt hk' with q | q
    · exact h.sep k q hk2
    · have := h.he.rlt hk2; omega
/-- A call of the document's. -/
theorem Pair.doE (hkp : Kp w W (fun _ => False)) (hd : IsDisk W gd rd d) (he : IsRdk W ge re e) (hge : w.heap.size ≤ ge) (hne : New w re) (sep : ∀ k, rd = some k → re ≠ some k)
    {re' : Option Nat} (he' : IsRdk W1 ge re' e') (hk : Kp W W1 (fun j => j = ge ∨ re = some j)) (hf : Fr W re re') :
    IsDisk W1 gd rd d ∧ New w re' ∧ (∀ k, rd = some k → re' ≠ some k) ∧ Kp w W1 (fun _ => False) := by
  obtain ⟨A, c, hr, hb⟩ := hd.row
  obtain ⟨A', c', hr', hb'⟩ := he.row
  have g1 : gd ≠ ge := hb.ne_type hb' (by decide)
  have g2 : rd ≠ some ge := hr.ne_type hb' (by decide)
  have g3 : re ≠ some gd := hr'.ne_type hb (by decide)
  refine ⟨hd.kp hk ?_ ?_, hne.fr hkp.size hf, ?_, hkp.step hk hge hne⟩
  · rintro (q | q)
    · exact g1 q
    · exact g3 q
  · rintro k hk' (q | q)
    · subst q; exact g2 hk'
    · exact sep k hk' q
  · intro k hk' hk2
    rcases hf.of_lt hk2 with q | q
    · exact sep k hk' q
    · have := hd.rlt hk'; omega
/-- A call that only makes memory. -/
theorem Pair.quiet (h : Pair w W gd rd d ge re e) (hk : Kp W W1 (fun _ => False)) : Pair w W1 gd rd d ge re e :=
  ⟨h.kp.quiet hk, h.hd.kp hk (fun h => h) (fun _ _ h => h), h.he.kp hk (fun h => h) (fun _ _ h => h), h.like, h.ok, h.gd, h.ge, h.nd, h.ne, h.sep⟩
end

end Go.Proofs.Ytihmkddnfceoiaa
