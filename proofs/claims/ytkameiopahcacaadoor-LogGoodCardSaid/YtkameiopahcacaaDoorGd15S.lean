/- longwirelaw15.LogGood: what stands between its rounds. No condition. -/
import Derived.Test.YtkameiopahcacaaDoorChg15
import Derived.Test.YtkameiopahcacaaDoorFew15
import Derived.Test.YtkameiopahcacaaDoorActs15
import Derived.Test.YtkameiopahcacaaDoorCln
set_option linter.unusedVariables false
set_option linter.unusedSimpArgs false
set_option maxRecDepth 100000
namespace Go.Proofs.YtkameiopahcacaaDoor
open Go.RowKit

theorem Lg.app_st {d : Dsk} {l : Lg} {x : List Int} (hx : x.length ≤ 65535) (hs : d.st = true) : l.app d x = ((0, 10), l, d) :=
  Lg.app_no hx rfl (by unfold Dsk.put; rw [if_pos hs]) (by decide)
theorem LF.app_full {d : Dsk} {c t : List Int} {ps : List (List Int)} {sum : Nat} (hb : d.b = c ++ t) (hs : d.st = false) {x : List Int} (hx : x.length ≤ 65535) (hc : d.cap < c.length + 10 + x.length) :
    (lgF c ps sum).app d x = ((0, 7), lgF c ps sum, d) := by
  have h2 : ¬ ((c.length : Int) < 0 ∨ (d.b.length : Int) < c.length) := by rw [hb, List.length_append]; omega
  refine Lg.app_no (l := lgF c ps sum) (d := d) (sm := checkN sum (ps.length + 1) x) hx rfl ?_ (by decide)
  show d.put (c.length : Int) _ = _
  unfold Dsk.put
  rw [if_neg (by rw [hs]; decide), if_neg h2, if_pos (by rw [frameN_length]; omega)]

/-- A piece in a row of its own, apart from the disk's row. -/
structure Pc.Own (w W : World) (r : Option Nat) (p : Pc) : Prop where
  row : Row W 5 1 p.A p.n p.c (B8 p.b) p.r
  new : New w p.r
  far : ∀ k, p.r = some k → r ≠ some k
  len : p.b.length = p.n
  by_ : IsB p.b
  n60 : p.n ≤ 60
theorem Pc.Own.rd {w W : World} {r : Option Nat} {p : Pc} (h : p.Own w W r) : p.Rd W := ⟨h.row.rd, h.len, h.by_⟩

structure GdS (w W : World) (dg g : Nat) (r : Option Nat) (d : Dsk) (l : Lg) (A1 : Option Addr) (n1 c1 : Nat) (r1 : Option Nat) (qs : List Pc) (lp : Pc) (A3 : Option Addr) (n3 c3 : Nat) (r3 : Option Nat) (L : List DAct) : Prop where
  ds : DS w W dg r d
  lg : IsLg W g dg l
  gw : w.heap.size ≤ g
  ok : l.ok d
  len : qs.length = n1
  row : Row W 38 1 A1 n1 c1 (qs.map Pc.val) r1
  new1 : New w r1
  pcs : ∀ p, (p = lp ∨ p ∈ qs) → p.Own w W r
  acts : Row W 56 4 A3 n3 c3 (actCells L) r3
section
variable {w W W' : World} {dg g : Nat} {r r' : Option Nat} {d d' : Dsk} {l l' : Lg} {A1 : Option Addr} {n1 c1 : Nat} {r1 : Option Nat} {qs : List Pc} {lp : Pc} {A3 : Option Addr} {n3 c3 : Nat} {r3 : Option Nat} {L : List DAct}
theorem GdS.quiet (h : GdS w W dg g r d l A1 n1 c1 r1 qs lp A3 n3 c3 r3 L) (hk : Kp W W' (fun _ => False)) : GdS w W' dg g r d l A1 n1 c1 r1 qs lp A3 n3 c3 r3 L :=
  ⟨h.ds.quiet hk, h.lg.kp hk (fun h => h), h.gw, h.ok, h.len, h.row.kp hk (fun _ _ h => h), h.new1, fun p hp => let q := h.pcs p hp; ⟨q.row.kp hk (fun _ _ h => h), q.new, q.far, q.len, q.by_, q.n60⟩, h.acts.kp hk (fun _ _ h => h)⟩
/-- What a call of the log's or the disk's writes is of three types. -/
theorem GdS.types (h : GdS w W dg g r d l A1 n1 c1 r1 qs lp A3 n3 c3 r3 L) {k : Nat} (hk : k = g ∨ k = dg ∨ r = some k) : ∃ cs t, W.heap[k]? = some (.cells cs t (0, 0)) ∧ (t = 26 ∨ t = 79 ∨ (t = 5 ∧ r = some k)) := by
  obtain ⟨A', c', hb', hr'⟩ := h.ds.hd
  rcases hk with rfl | rfl | hk
  · exact ⟨_, _, h.lg, .inl rfl⟩
  · exact ⟨_, _, hb', .inr (.inl rfl)⟩
  · obtain ⟨cur, hc⟩ := hr'.cellsAt hk
    exact ⟨_, _, hc, .inr (.inr ⟨rfl, hk⟩)⟩
theorem GdS.keep (h : GdS w W dg g r d l A1 n1 c1 r1 qs lp A3 n3 c3 r3 L) {b : Nat} {cs : Array Value} {t : TypeId} (hb : Blk W b cs t) (h1 : t ≠ 26) (h2 : t ≠ 79) (h3 : t ≠ 5) : ¬ (b = g ∨ b = dg ∨ r = some b) := by
  intro hk
  obtain ⟨cs', t', e, ht⟩ := h.types hk
  unfold Blk at hb
  rw [hb] at e
  simp only [Option.some.injEq, Obj.cells.injEq] at e
  rcases ht with rfl | rfl | ⟨rfl, -⟩
  · exact h1 e.2.1
  · exact h2 e.2.1
  · exact h3 e.2.1
theorem GdS.keepRow (h : GdS w W dg g r d l A1 n1 c1 r1 qs lp A3 n3 c3 r3 L) {e : TypeId} {sz n c : Nat} {A : Option Addr} {xs : List Value} {q : Option Nat} (hb : Row W e sz A n c xs q) (h1 : e ≠ 26) (h2 : e ≠ 79) (h3 : e ≠ 5 ∨ ∀ k, q = some k → r ≠ some k) (k : Nat) (hq : q = some k) : ¬ (k = g ∨ k = dg ∨ r = some k) := by
  intro hk
  obtain ⟨cs', t', e', ht⟩ := h.types hk
  obtain ⟨cur, hc⟩ := hb.cellsAt hq
  rw [hc] at e'
  simp only [Option.some.injEq, Obj.cells.injEq] at e'
  rcases ht with rfl | rfl | ⟨rfl, hr⟩
  · exact h1 e'.2.1
  · exact h2 e'.2.1
  · rcases h3 with h3 | h3
    · exact h3 e'.2.1
    · exact h3 k hq hr
/-- Behind a call of the log's (or of the disk's). -/
theorem GdS.log (h : GdS w W dg g r d l A1 n1 c1 r1 qs lp A3 n3 c3 r3 L) (hd : DS w W' dg r' d') (hl : IsLg W' g dg l') (ho : l'.ok d') {S : Nat → Prop} (hk : Kp W W' S) (hS : ∀ k, S k → (k = g ∨ k = dg ∨ r = some k)) (hf : Fr W r r') : GdS w W' dg g r' d' l' A1 n1 c1 r1 qs lp A3 n3 c3 r3 L := by
  refine ⟨hd, hl, h.gw, ho, h.len, h.row.kp hk (fun k h1 h2 => h.keepRow h.row (by decide) (by decide) (.inl (by decide)) k h1 (hS k h2)), h.new1, fun p hp => ?_, h.acts.kp hk (fun k h1 h2 => h.keepRow h.acts (by decide) (by decide) (.inl (by decide)) k h1 (hS k h2))⟩
  have q := h.pcs p hp
  refine ⟨q.row.kp hk (fun k h1 h2 => h.keepRow q.row (by decide) (by decide) (.inr q.far) k h1 (hS k h2)), q.new, fun k h1 h2 => ?_, q.len, q.by_, q.n60⟩
  rcases hf.of_lt h2 with h3 | h3
  · exact q.far k h1 h3
  · have := q.row.lt h1; omega
theorem GdS.disk (h : GdS w W dg g r d l A1 n1 c1 r1 qs lp A3 n3 c3 r3 L) (hd : DS w W' dg r' d') (ho : l.ok d') (hk : Kp W W' (fun k => k = dg ∨ r = some k)) (hf : Fr W r r') : GdS w W' dg g r' d' l A1 n1 c1 r1 qs lp A3 n3 c3 r3 L := by
  have hn := h.lg.row2 h.ds.hd
  exact h.log hd (h.lg.kp hk (by rintro (q | q); exact hn.2 q; exact hn.1 q)) ho hk (fun k hk => .inr hk) hf
/-- Another log. -/
theorem GdS.other (h : GdS w W dg g r d l A1 n1 c1 r1 qs lp A3 n3 c3 r3 L) {g' : Nat} (hl : IsLg W g' dg l') (hg : w.heap.size ≤ g') (ho : l'.ok d) : GdS w W dg g' r d l' A1 n1 c1 r1 qs lp A3 n3 c3 r3 L :=
  ⟨h.ds, hl, hg, ho, h.len, h.row, h.new1, h.pcs, h.acts⟩
/-- Another last one. -/
theorem GdS.last (h : GdS w W dg g r d l A1 n1 c1 r1 qs lp A3 n3 c3 r3 L) {p : Pc} (hp : p.Own w W r) : GdS w W dg g r d l A1 n1 c1 r1 qs p A3 n3 c3 r3 L :=
  ⟨h.ds, h.lg, h.gw, h.ok, h.len, h.row, h.new1, fun q hq => by rcases hq with rfl | hq; exact hp; exact h.pcs q (.inr hq), h.acts⟩
/-- One more payload, appended to the list. -/
theorem GdS.push (h : GdS w W dg g r d l A1 n1 c1 r1 qs lp A3 n3 c3 r3 L) {p : Pc} (hp : p.Own w W r) {A2 : Option Addr} {c2 : Nat} {r2 : Option Nat} (hrow : Row W' 38 1 A2 (n1 + 1) c2 (qs.map Pc.val ++ [p.val]) r2) (hk : Kp W W' (fun k => r1 = some k)) (hf : Fr W r1 r2) :
    GdS w W' dg g r d l A2 (n1 + 1) c2 r2 (qs ++ [p]) lp A3 n3 c3 r3 L := by
  obtain ⟨A', c', hb', hr'⟩ := h.ds.hd
  refine ⟨h.ds.other hk (fun k h1 => h.new1 k h1) (fun h1 => h.row.ne_type hb' (by decide) h1) (fun k h1 h2 => h.row.apart hr' (by decide) k h2 h1), h.lg.kp hk (fun h1 => h.row.ne_type h.lg (by decide) h1), h.gw, h.ok, by rw [List.length_append, h.len]; rfl,
    by rw [List.map_append]; exact hrow, h.new1.fr h.ds.kp.size hf, fun q hq => ?_, h.acts.kp hk (fun k h1 h2 => h.acts.apart h.row (by decide) k h1 h2)⟩
  have ho : q.Own w W r := by
    rcases hq with hq | hq
    · exact h.pcs q (.inl hq)
    · rcases List.mem_append.1 hq with h1 | h1
      · exact h.pcs q (.inr h1)
      · simp only [List.mem_singleton] at h1; subst h1; exact hp
  exact ⟨ho.row.kp hk (fun k h1 h2 => ho.row.apart h.row (by decide) k h1 h2), ho.new, ho.far, ho.len, ho.by_, ho.n60⟩
end

end Go.Proofs.YtkameiopahcacaaDoor
