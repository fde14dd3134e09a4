/- Where a round of longwirelaw14.DiskPlays stands: both disks, the calls' row, apart from one another; what a call of the one leaves of all. No condition. -/
import Derived.Test.YtihmkddnfceoiaaPair14
set_option linter.unusedVariables false
set_option linter.unusedSimpArgs false
namespace Go.Proofs.Ytihmkddnfceoiaa
open Go.RowKit

/-- The program's disk, the document's, the calls' row. -/
structure Mid14 (w W : World) (gd : Nat) (rd : Option Nat) (d : Dsk) (ge : Nat) (re : Option Nat) (e : Rdk) (L : List DAct) (A : Option Addr) (n c : Nat) (r : Option Nat) : Prop where
  kp : Kp w W (fun _ => False)
  hd : IsDisk W gd rd d
  he : IsRdk W ge re e
  ok : d.ok
  gd : w.heap.size ≤ gd
  ge : w.heap.size ≤ ge
  nd : New w rd
  ne : New w re
  sep : ∀ k, rd = some k → re ≠ some k
  row : Row W 39 4 A n c (actCells L) r

/-- A row apart from both disks. -/
def Off (r : Option Nat) (gd : Nat) (rd : Option Nat) (ge : Nat) (re : Option Nat) : Prop := ∀ k, r = some k → ¬ (k = gd ∨ rd = some k) ∧ ¬ (k = ge ∨ re = some k)

section
variable {w W W1 : World} {gd ge : Nat} {rd re : Option Nat} {d d' : Dsk} {e e' : Rdk} {L : List DAct} {A : Option Addr} {n c : Nat} {r : Option Nat}

theorem Mid14.gne (h : Mid14 w W gd rd d ge re e L A n c r) : gd ≠ ge ∧ rd ≠ some ge ∧ re ≠ some gd := by
  obtain ⟨A, c, hr, hb⟩ := h.hd.row
  obtain ⟨A', c', hr', hb'⟩ := h.he.row
  exact ⟨hb.ne_type hb' (by decide), hr.ne_type hb' (by decide), hr'.ne_type hb (by decide)⟩
theorem Mid14.act (h : Mid14 w W gd rd d ge re e L A n c r) {sz : Nat} {A' : Option Addr} {n' c' : Nat} {xs : List Value} {r' : Option Nat} (hr : Row W 39 sz A' n' c' xs r') : Off r' gd rd ge re := by
  obtain ⟨A1, c1, hr1, hb1⟩ := h.hd.row
  obtain ⟨A2, c2, hr2, hb2⟩ := h.he.row
  intro k hk
  constructor
  · rintro (q | q)
    · subst q; exact hr.ne_type hb1 (by decide) hk
    · exact hr.ne_row hr1 (by decide) k hk q
  · rintro (q | q)
    · subst q; exact hr.ne_type hb2 (by decide) hk
    · exact hr.ne_row hr2 (by decide) k hk q
theorem Mid14.blk (h : Mid14 w W gd rd d ge re e L A n c r) {g : Nat} {cs : Array Value} (hb : Blk W g cs 39) :
    ¬ (g = gd ∨ rd = some g) ∧ ¬ (g = ge ∨ re = some g) := by
  obtain ⟨A1, c1, hr1, hb1⟩ := h.hd.row
  obtain ⟨A2, c2, hr2, hb2⟩ := h.he.row
  constructor
  · rintro (q | q)
    · exact hb.ne_type hb1 (by decide) q
    · exact hr1.ne_type hb (by decide) q
  · rintro (q | q)
    · exact hb.ne_type hb2 (by decide) q
    · exact hr2.ne_type hb (by decide) q
/-- A call of the program's disk. -/
theorem Mid14.doD (h : Mid14 w W gd rd d ge re e L A n c r) {rd' : Option Nat} (hd : IsDisk W1 gd rd' d') (hk : Kp W W1 (fun j => j = gd ∨ rd = some j)) (hf : Fr W rd rd') (hok : d'.ok) :
    Mid14 w W1 gd rd' d' ge re e L A n c r := by
  obtain ⟨g1, g2, g3⟩ := h.gne
  refine ⟨h.kp.step hk h.gd h.nd, hd, h.he.kp hk ?_ ?_, hok, h.gd, h.ge, h.nd.fr h.kp.size hf, h.ne, ?_, h.row.kp hk (fun k hk => (h.act h.row k hk).1)⟩
  · rintro (q | q)
    · exact g1 q.symm
    · exact g2 q
  · rintro k hk' (q | q)
    · subst q; exact g3 hk'
    · exact h.sep k q hk'
  · intro k hk' hk2
    rcases hf.of_lt hk' with q | q
    · exact h.sep k q hk2
    · have := h.he.rlt hk2; omega
/-- A call of the document's. -/
theorem Mid14.doE (h : Mid14 w W gd rd d ge re e L A n c r) {re' : Option Nat} (he : IsRdk W1 ge re' e') (hk : Kp W W1 (fun j => j = ge ∨ re = some j)) (hf : Fr W re re') :
    Mid14 w W1 gd rd d ge re' e' L A n c r := by
  obtain ⟨g1, g2, g3⟩ := h.gne
  refine ⟨h.kp.step hk h.ge h.ne, h.hd.kp hk ?_ ?_, he, h.ok, h.gd, h.ge, h.nd, h.ne.fr h.kp.size hf, ?_, h.row.kp hk (fun k hk => (h.act h.row k hk).2)⟩
  · rintro (q | q)
    · exact g1 q
    · exact g3 q
  · rintro k hk' (q | q)
    · subst q; exact g2 hk'
    · exact h.sep k hk' q
  · intro k hk' hk2
    rcases hf.of_lt hk2 with q | q
    · exact h.sep k hk' q
    · have := h.hd.rlt hk'; omega
/-- A call that only makes memory, or writes what is apart. -/
theorem Mid14.apart (h : Mid14 w W gd rd d ge re e L A n c r) {S : Nat → Prop} (hk : Kp W W1 S) (hn : ∀ k, S k → w.heap.size ≤ k) (h1 : ¬ S gd) (h2 : ∀ k, rd = some k → ¬ S k) (h3 : ¬ S ge) (h4 : ∀ k, re = some k → ¬ S k) (h5 : ∀ k, r = some k → ¬ S k) :
    Mid14 w W1 gd rd d ge re e L A n c r :=
  ⟨h.kp.trans hk (fun k hk => .inr (hn k hk)), h.hd.kp hk h1 h2, h.he.kp hk h3 h4, h.ok, h.gd, h.ge, h.nd, h.ne, h.sep, h.row.kp hk h5⟩
theorem Mid14.quiet (h : Mid14 w W gd rd d ge re e L A n c r) (hk : Kp W W1 (fun _ => False)) : Mid14 w W1 gd rd d ge re e L A n c r :=
  h.apart hk (fun _ h => h.elim) (fun h => h) (fun _ _ h => h) (fun h => h) (fun _ _ h => h) (fun _ _ h => h)
theorem Mid14.drew (h : Mid14 w W gd rd d ge re e L A n c r) : Mid14 w W.drew gd rd d ge re e L A n c r := h.quiet ((Kp.refl _ _).drew)
/-- A byte is stored in a row that is apart. -/
theorem Mid14.store (h : Mid14 w W gd rd d ge re e L A n c r) {A' : Option Addr} {n' c' : Nat} {xs : List Value} {gb : Nat} (hr : Row W 5 1 A' n' c' xs (some gb)) (ho : Off (some gb) gd rd ge re) (hn : New w (some gb)) (j : Nat) (u : Value) :
    Mid14 w (W.setCell ⟨gb, j, none⟩ u) gd rd d ge re e L A n c r := by
  have hk : Kp W (W.setCell ⟨gb, j, none⟩ u) (fun k => k = gb) := (Kp.refl W _).set gb j u (.inl rfl)
  obtain ⟨o1, o2⟩ := ho gb rfl
  refine h.apart hk (fun k hk => by subst hk; exact hn _ rfl) (fun q => o1 (.inl q.symm)) ?_ (fun q => o2 (.inl q.symm)) ?_ ?_
  · rintro k hk' q; subst q; exact o1 (.inr hk')
  · rintro k hk' q; subst q; exact o2 (.inr hk')
  · rintro k hk' q; subst q; exact h.row.ne_row hr (by decide) _ hk' rfl
/-- New memory is apart. -/
theorem Mid14.new (h : Mid14 w W gd rd d ge re e L A n c r) {r' : Option Nat} (hn : New W r') : Off r' gd rd ge re := by
  have l1 := h.hd.lt
  have l2 := h.he.lt
  intro k hk
  have := hn k hk
  constructor
  · rintro (q | q)
    · omega
    · have := h.hd.rlt q; omega
  · rintro (q | q)
    · omega
    · have := h.he.rlt q; omega
theorem Off.doD {r' rd' : Option Nat} (h : Off r' gd rd ge re) (hl : ∀ k, r' = some k → k < W.heap.size) (hf : Fr W rd rd') : Off r' gd rd' ge re := by
  intro k hk
  obtain ⟨a, b⟩ := h k hk
  refine ⟨?_, b⟩
  rintro (q | q)
  · exact a (.inl q)
  · rcases hf.of_lt q with s | s
    · exact a (.inr s)
    · have := hl k hk; omega
theorem Off.doE {r' re' : Option Nat} (h : Off r' gd rd ge re) (hl : ∀ k, r' = some k → k < W.heap.size) (hf : Fr W re re') : Off r' gd rd ge re' := by
  intro k hk
  obtain ⟨a, b⟩ := h k hk
  refine ⟨a, ?_⟩
  rintro (q | q)
  · exact b (.inl q)
  · rcases hf.of_lt q with s | s
    · exact b (.inr s)
    · have := hl k hk; omega
/-- The program's disk is another one, in new memory. -/
theorem Mid14.other (h : Mid14 w W gd rd d ge re e L A n c r) {g' : Nat} {r' : Option Nat} (hk : Kp W W1 (fun _ => False)) (hd : IsDisk W1 g' r' d') (hg : W.heap.size ≤ g') (hr : New W r') (hok : d'.ok) :
    Mid14 w W1 g' r' d' ge re e L A n c r := by
  have h1 := h.quiet hk
  refine ⟨h1.kp, hd, h1.he, hok, Nat.le_trans h.kp.size hg, h.ge, hr.mono h.kp.size, h.ne, ?_, h1.row⟩
  intro k hk2 hk3
  have := hr k hk2
  have := h.he.rlt hk3
  omega
/-- Bytes handed in lie apart from both disks. -/
theorem Mid14.away (h : Mid14 w W gd rd d ge re e L A n c r) {a : DAct} (ha : a.Ok w w.heap.size) :
    (∀ ad, a.A = some ad → a.b ≠ [] → ad.block ≠ gd ∧ rd ≠ some ad.block) ∧ (∀ ad, a.A = some ad → a.b ≠ [] → ad.block ≠ ge ∧ re ≠ some ad.block) := by
  have g1 := h.gd
  have g2 := h.ge
  constructor
  · intro ad had hb
    have := ha.low ad had hb
    exact ⟨by omega, fun q => by have := h.nd _ q; omega⟩
  · intro ad had hb
    have := ha.low ad had hb
    exact ⟨by omega, fun q => by have := h.ne _ q; omega⟩
theorem Mid14.act_ok (h : Mid14 w W gd rd d ge re e L A n c r) {a : DAct} (ha : a.Ok w w.heap.size) : a.Ok W w.heap.size :=
  ha.below (h.kp.below (Nat.le_refl _) (fun _ h => h.elim))
end

/-- Put and Plan of both answer alike. -/
theorem both_put {d : Dsk} {e : Rdk} (hl : d.like e) (hok : d.ok) (at_ : Int) (x : List Int) :
    ∃ v d' e', d.put at_ x = (v, d') ∧ e.put at_ x = (v, e') ∧ d'.like e' ∧ d'.ok := by
  obtain ⟨q1, q2⟩ := Dsk.put_like hl hok at_ x
  exact ⟨(d.put at_ x).1, (d.put at_ x).2, (e.put at_ x).2, rfl, Prod.ext q1.symm rfl, q2, Dsk.put_ok hok at_ x⟩
theorem both_plan {d : Dsk} {e : Rdk} (hl : d.like e) (hok : d.ok) (p b : Int) (hp : p ≤ 9223372036854775807) :
    ∃ v d' e', d.plan p b = (v, d') ∧ e.plan p b = (v, e') ∧ d'.like e' ∧ d'.ok := by
  obtain ⟨q1, q2⟩ := Dsk.plan_like hl hok p b hp
  exact ⟨(d.plan p b).1, (d.plan p b).2, (e.plan p b).2, rfl, Prod.ext q1.symm rfl, q2, Dsk.plan_ok hok p b⟩
theorem both_revive {d : Dsk} {e : Rdk} (hl : d.like e) (hok : d.ok) :
    ∃ v d' e', d.revive = (v, d') ∧ e.revive = (v, e') ∧ d'.like e' ∧ d'.ok := by
  obtain ⟨q1, q2⟩ := Dsk.revive_like hl hok
  exact ⟨(d.revive ).1, (d.revive ).2, (e.revive ).2, rfl, Prod.ext q1.symm rfl, q2, Dsk.revive_ok hok⟩
/-- What the document's Put asks. -/
theorem like_hn {d : Dsk} {e : Rdk} (hl : d.like e) (hok : d.ok) : (e.left = 0 → 0 ≤ e.bytes) ∧ e.cap ≤ 1048576 ∧ (e.b.length : Int) ≤ e.cap ∧ e.b.length ≤ 1048576 := by
  have h1 := hl.cap
  have h2 := hl.b
  have h3 := hok.c1
  have h4 := hok.len
  rw [h1] at h3
  rw [h1, h2] at h4
  refine ⟨fun h0 => ?_, h3, h4, by omega⟩
  cases his : d.is with
  | true => exact (hl.plan his).2.2.2.2
  | false => have := hl.none_ his; omega

end Go.Proofs.Ytihmkddnfceoiaa
