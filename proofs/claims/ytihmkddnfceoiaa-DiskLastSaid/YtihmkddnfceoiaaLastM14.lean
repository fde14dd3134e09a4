/- Where longwirelaw14.DiskLast stands: the disk by its puts and its plan; what the law wants. No condition. -/
import Derived.Test.YtihmkddnfceoiaaDskCopy
set_option linter.unusedVariables false
set_option linter.unusedSimpArgs false
namespace Go.Proofs.Ytihmkddnfceoiaa
open Go.RowKit

theorem Row.ne_elem {w : World} {e e' : TypeId} {sz sz' : Nat} {A A' : Option Addr} {n n' c c' : Nat} {xs xs' : List Value} {r r' : Option Nat} (h : Row w e sz A n c xs r) (h' : Row w e' sz' A' n' c' xs' r') (ht : e ≠ e') : ∀ k, r = some k → r' ≠ some k := by
  rintro k rfl rfl
  rcases h.2 with ⟨_, _, _, h⟩ | ⟨g, cur, _, h, hg, _⟩
  · simp at h
  · rcases h'.2 with ⟨_, _, _, h'⟩ | ⟨g', cur', _, h', hg', _⟩
    · simp at h'
    · simp only [Option.some.injEq] at h h'
      subst h; subst h'
      rw [hg] at hg'
      simp only [Option.some.injEq, Obj.cells.injEq] at hg'
      exact ht hg'.2.1

/-- The disk behind so many puts that were done, N planned, M bytes of the next. -/
def lastD (N M done : Nat) (b : List Int) : Dsk := if done ≤ N then ⟨2000, b, done, false, true, (N : Int) - done, M⟩ else ⟨2000, b, N, true, false, 0, 0⟩

theorem lastD_go {N M done : Nat} {b : List Int} (h : done ≤ N) : lastD N M done b = ⟨2000, b, done, false, true, (N : Int) - done, M⟩ := if_pos h
theorem lastD_st {N M done : Nat} {b : List Int} (h : N < done) : lastD N M done b = ⟨2000, b, N, true, false, 0, 0⟩ := if_neg (by omega)
theorem lastD_b (N M done : Nat) (b : List Int) : (lastD N M done b).b = b := by unfold lastD; split <;> rfl
theorem lastD_ok (N M done : Nat) (b : List Int) (h : b.length ≤ 2000) : (lastD N M done b).ok := by
  unfold lastD
  split
  · exact ⟨by simp, by simp, show ((b.length : Nat) : Int) ≤ 2000 by omega, fun _ => by simp⟩
  · exact ⟨by simp, by simp, show ((b.length : Nat) : Int) ≤ 2000 by omega, fun h => by simp at h⟩

theorem last_put_st {N M done : Nat} {b : List Int} (h : N < done) (at_ : Int) (x : List Int) : (lastD N M done b).put at_ x = (10, lastD N M done b) := by
  rw [lastD_st h]; rfl
theorem last_put_no {N M : Nat} {b : List Int} (at_ : Nat) (x : List Int) (h1 : at_ ≤ b.length) (h2 : x.length ≤ 40) (h3 : b.length ≤ 1000) : (lastD N M N b).put at_ x = (10, lastD N M (N + 1) (layB b at_ (x.take M))) := by
  rw [lastD_go (Nat.le_refl _), lastD_st (Nat.lt_succ_self _)]
  unfold Dsk.put
  simp only
  rw [if_neg (by simp), if_neg (by omega), if_neg (by omega), if_pos ⟨trivial, by omega⟩]
  rfl
theorem last_put_ok {N M done : Nat} {b : List Int} (hN : N ≤ 15) (hd : done < N) (at_ : Nat) (x : List Int) (h1 : at_ ≤ b.length) (h2 : x.length ≤ 40) (h3 : b.length ≤ 1000) : (lastD N M done b).put at_ x = (0, lastD N M (done + 1) (layB b at_ x)) := by
  rw [lastD_go (Nat.le_of_lt hd), lastD_go (show done + 1 ≤ N from hd)]
  unfold Dsk.put
  simp only
  rw [if_neg (by simp), if_neg (by omega), if_neg (by omega), if_neg (fun h => by have := h.2; omega)]
  have e1 : wr64 ((done : Int) + 1) = ((done + 1 : Nat) : Int) := by unfold wr64; omega
  have e2 : wr64 ((N : Int) - done - 1) = (N : Int) - ((done + 1 : Nat) : Int) := by unfold wr64; omega
  rw [e1, e2]
  rfl

/-- The disk, the calls' row, the row that the law wants: apart. -/
structure Lst14 (w W : World) (gd : Nat) (rd : Option Nat) (d : Dsk) (L : List DAct) (A : Option Addr) (n c : Nat) (r : Option Nat) (Aw : Option Addr) (nw cw : Nat) (bw : List Int) (rw_ : Option Nat) : Prop where
  kp : Kp w W (fun _ => False)
  hd : IsDisk W gd rd d
  ok : d.ok
  gd : w.heap.size ≤ gd
  nd : New w rd
  row : Row W 39 4 A n c (actCells L) r
  want : Row W 5 1 Aw nw cw (B8 bw) rw_
  nw_ : New w rw_
  sep : ∀ k, rd = some k → rw_ ≠ some k

section
variable {w W W1 : World} {gd : Nat} {rd rd' : Option Nat} {d d' : Dsk} {L : List DAct} {A : Option Addr} {n c : Nat} {r : Option Nat} {Aw Aw' : Option Addr} {nw nw' cw cw' : Nat} {bw bw' : List Int} {rw_ rw' : Option Nat}

theorem Lst14.act (h : Lst14 w W gd rd d L A n c r Aw nw cw bw rw_) : (∀ k, r = some k → ¬ (k = gd ∨ rd = some k)) ∧ ∀ k, r = some k → rw_ ≠ some k := by
  obtain ⟨A1, c1, hb1, hr1⟩ := h.hd
  constructor
  · rintro k hk (q | q)
    · subst q; exact h.row.ne_type hb1 (by decide) hk
    · exact h.row.ne_elem hr1 (by decide) k hk q
  · intro k hk
    exact h.row.ne_elem h.want (by decide) k hk
theorem Lst14.blk (h : Lst14 w W gd rd d L A n c r Aw nw cw bw rw_) {g : Nat} {cs : Array Value} (hb : Blk W g cs 39) : ¬ (g = gd ∨ rd = some g) := by
  obtain ⟨A1, c1, hb1, hr1⟩ := h.hd
  rintro (q | q)
  · exact hb.ne_type hb1 (by decide) q
  · exact hr1.ne_type hb (by decide) q
theorem Lst14.doD (h : Lst14 w W gd rd d L A n c r Aw nw cw bw rw_) (hd : IsDisk W1 gd rd' d') (hk : Kp W W1 (fun j => j = gd ∨ rd = some j)) (hf : Fr W rd rd') (hok : d'.ok) :
    Lst14 w W1 gd rd' d' L A n c r Aw nw cw bw rw_ := by
  obtain ⟨A1, c1, hb1, hr1⟩ := h.hd
  refine ⟨h.kp.step hk h.gd h.nd, hd, hok, h.gd, h.nd.fr h.kp.size hf, h.row.kp hk h.act.1, h.want.kp hk ?_, h.nw_, ?_⟩
  · rintro k hk' (q | q)
    · subst q; exact h.want.ne_type hb1 (by decide) hk'
    · exact h.sep k q hk'
  · intro k hk' hk2
    rcases hf.of_lt hk' with q | q
    · exact h.sep k q hk2
    · have := h.want.lt hk2; omega
theorem Lst14.doW (h : Lst14 w W gd rd d L A n c r Aw nw cw bw rw_) (hw : Row W1 5 1 Aw' nw' cw' (B8 bw') rw') (hk : Kp W W1 (fun j => rw_ = some j)) (hf : Fr W rw_ rw') :
    Lst14 w W1 gd rd d L A n c r Aw' nw' cw' bw' rw' := by
  obtain ⟨A1, c1, hb1, hr1⟩ := h.hd
  refine ⟨h.kp.trans hk (fun j hj => .inr (h.nw_ j hj)), h.hd.kp hk (h.want.ne_type hb1 (by decide)) (fun k hk q => h.sep k hk q), h.ok, h.gd, h.nd, h.row.kp hk h.act.2, hw, h.nw_.fr h.kp.size hf, ?_⟩
  intro k hk' hk2
  rcases hf.of_lt hk2 with q | q
  · exact h.sep k hk' q
  · have := h.hd.rlt hk'; omega
theorem Lst14.quiet (h : Lst14 w W gd rd d L A n c r Aw nw cw bw rw_) (hk : Kp W W1 (fun _ => False)) : Lst14 w W1 gd rd d L A n c r Aw nw cw bw rw_ :=
  ⟨h.kp.quiet hk, h.hd.kp hk (fun h => h) (fun _ _ h => h), h.ok, h.gd, h.nd, h.row.kp hk (fun _ _ h => h), h.want.kp hk (fun _ _ h => h), h.nw_, h.sep⟩
theorem Lst14.away (h : Lst14 w W gd rd d L A n c r Aw nw cw bw rw_) {a : DAct} (ha : a.Ok w w.heap.size) : ∀ ad, a.A = some ad → a.b ≠ [] → ad.block ≠ gd ∧ rd ≠ some ad.block := by
  have g1 := h.gd
  intro ad had hb
  have := ha.low ad had hb
  exact ⟨by omega, fun q => by have := h.nd _ q; omega⟩
theorem Lst14.act_ok (h : Lst14 w W gd rd d L A n c r Aw nw cw bw rw_) {a : DAct} (ha : a.Ok w w.heap.size) : a.Ok W w.heap.size :=
  ha.below (h.kp.below (Nat.le_refl _) (fun _ h => h.elim))
end

/-- What copy leaves of the row with its zeros. -/
theorem lay_zero (b x : List Int) (at_ n z : Nat) (hx : x.length = n) (h1 : at_ ≤ b.length) (hz : z = at_ + n - b.length) :
    (B8 (b ++ List.replicate z 0)).take at_ ++ ((B8 x).take (b.length + z - at_) ++ (B8 (b ++ List.replicate z 0)).drop (at_ + Nat.min n (b.length + z - at_))) = B8 (layB b at_ x) := by
  have e0 : B8 (b ++ List.replicate z 0) = B8 b ++ List.replicate z (Value.int .u8 0) := by simp [B8]
  subst hz
  by_cases h : b.length < at_ + n
  · have e1 : b.length + (at_ + n - b.length) - at_ = n := by omega
    have e2 : at_ + Nat.min n n = at_ + n := by show at_ + min n n = _; omega
    rw [e0, e1, e2]
    exact lay_list1 b x at_ n hx h1 h
  · have e1 : at_ + n - b.length = 0 := by omega
    rw [e1]
    simp only [List.replicate_zero, List.append_nil, Nat.add_zero]
    exact lay_list2 b x at_ n hx (by omega)

end Go.Proofs.Ytihmkddnfceoiaa
