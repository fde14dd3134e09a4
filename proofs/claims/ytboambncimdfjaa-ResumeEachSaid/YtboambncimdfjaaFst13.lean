/- longwirelaw05.Safe, longwirelaw13.first: the first so many of what a range goes through. Condition: what it goes through is known (SeqL). -/
import Derived.Test.YtboambncimdfjaaIt13
import Derived.Test.YtboambncimdfjaaSeqB
set_option linter.unusedVariables false
set_option linter.unusedSimpArgs false
namespace Go.Proofs.Ytboambncimdfjaa
open Go.RowKit Go.Shelf
attribute [local go_sem] Oper.semAt_some

set_option maxHeartbeats 1000000 in
theorem safe_u (w : World) (g : Nat) (lb : Array Value) :
    Calls Try.prog 9 #[.func (.func g) #[] lb] w fun e w' => e = .returned (.func (.func g) #[] lb) ∧ w = w' := by
  have he : ∀ w, (binOp .eql 29 (.func (.func g) #[] lb) .nilFunc).run Try.prog w = .ok (.bool false) w := fun _ => by kernel_rfl
  go_enter Try.func9, Try.ntmps9
  go_wp2
  go_ret
  exact ⟨rfl, rfl⟩
set_option maxHeartbeats 1000000 in
theorem safe_h (w : World) (g : Nat) (lb : Array Value) :
    Calls Try.prog 11 #[.func (.func g) #[] lb] w fun e w' => e = .returned (.func (.func g) #[] lb) ∧ w = w' := by
  have he : ∀ w, (binOp .eql 32 (.func (.func g) #[] lb) .nilFunc).run Try.prog w = .ok (.bool false) w := fun _ => by kernel_rfl
  go_enter Try.func11, Try.ntmps11
  go_wp2
  go_ret
  exact ⟨rfl, rfl⟩

theorem u_u32s : Try.prog.underlying 46 = some (.slice 24) := by kernel_rfl
theorem i_u32 : (Try.prog.info? 24).map (fun i => (i.zero, i.size, i.bytes)) = some (some (.int .u32 0), 1, 4) := by kernel_rfl
def U32 (l : List Int) : List Value := l.map (Value.int .u32)
theorem U32_length (l : List Int) : (U32 l).length = l.length := by simp [U32]
theorem U32_append (a b : List Int) : U32 (a ++ b) = U32 a ++ U32 b := by simp [U32]

/-- A row of numbers in new memory is handed back. -/
def NewU (w : World) (L : List Int) (e : Ending) (w' : World) : Prop :=
  ∃ A n c r, e = .returned (.slice A n c) ∧ L.length = n ∧ Row w' 24 1 A n c (U32 L) r ∧ New w r ∧ Kp w w' (fun _ => False)
/-- What has come. -/
def GotU (w : World) (most : Nat) (pre : List Int) (W : World) : Prop :=
  pre.length ≤ most ∧ ∃ A c r, Blk W (w.heap.size + 1) #[.slice A pre.length c] 46 ∧ Row W 24 1 A pre.length c (U32 pre) r ∧ New w r ∧ Blk W w.heap.size #[.int .i64 most] 3 ∧ Kp w W (fun _ => False)
theorem GotU.turn {w : World} {most : Nat} {B : Nat} (hB : w.heap.size ≤ B) : Still B T0 (GotU w most) := by
  rintro pre Y Z ⟨h0, A, c, r, h1, h2, h3, h4, h5⟩ ht
  exact ⟨h0, A, c, r, ht.blk h1 (fun h => h), ht.row h2 (fun h => h), h3, ht.blk h4 (fun h => h), h5.turn ht hB⟩

set_option maxRecDepth 100000 in
set_option maxHeartbeats 2000000 in
theorem first_u (w : World) (g : Nat) (lb : Array Value) (heg : ∀ args w, (callFunc g args).run Try.prog w = .ok (.enter g args) w) (X : Nat → Prop) (T2 : TypeId → Prop) (L : List Int)
    (hseq : ∀ F, IsWide F → SeqL F Try.prog g lb encU T0 X T2 L w) (hX : ∀ k, X k → k < w.heap.size) (hT1 : ¬ T2 24) (hT2 : ¬ T2 46) (most : Nat) (hm : most ≤ 1000) :
    Calls Try.prog 24 #[.func (.func g) #[] lb, .int .i64 most] w (NewU w (L.take most)) := by
  obtain ⟨i0, hi, hz0, hz1, hz2⟩ := info_parts i_u32
  have hk0 := ((Kp.refl w (fun _ => False)).alloc (.cells #[.int .i64 most] 3)).alloc (.cells #[.slice none 0 0] 46)
  have hbm := (Blk.new w #[.int .i64 most] 3).alloc (.cells #[.slice none 0 0] 46)
  have hbo := Blk.new (w.alloc (.cells #[.int .i64 most] 3)) #[.slice none 0 0] 46
  rw [World.size_alloc] at hbo
  have g0 : GotU w most [] ((w.alloc (.cells #[.int .i64 most] 3)).alloc (.cells #[.slice none 0 0] 46)) :=
    ⟨Nat.zero_le _, none, 0, none, hbo, Row.nil _ _ _, New.none _, hbm, hk0⟩
  have hbw : Below w.heap.size w ((w.alloc (.cells #[.int .i64 most] 3)).alloc (.cells #[.slice none 0 0] 46)) := hk0.below (Nat.le_refl _) (fun _ h => h.elim)
  have hz : w.heap.size + 2 = ((w.alloc (.cells #[.int .i64 most] 3)).alloc (.cells #[.slice none 0 0] 46)).heap.size := by simp
  have hgV := V.mk g0
  have hbV := V.mk hbw
  clear g0 hbw hk0 hbm hbo
  refine calls_of_wp_marks Try.func24 rfl ?_
  simp only [Try.ntmps24, List.size_toArray, List.length_cons, List.length_nil, Nat.reduceAdd, Nat.reduceSub, Array.replicate_succ, Array.replicate_zero, List.push_toArray, List.append_toArray, List.nil_append, List.cons_append]
  go_wp2_with fail
  refine (safe_u _ g lb).mono ?_
  rintro e w1 ⟨rfl, hw1⟩
  rw [hw1] at hgV hbV hz
  clear hw1
  go_wp2_with fail
  refine range_wpA (gf := g) (lb := lb) rfl heg (fun x => #[.int .u32 x]) hseq (fun k hk => by have := hX k hk; omega) (fun _ h => h.elim) hbV.out (fun _ => rfl)
    (GotU w most) (fun c pre W => c = .exit 0 ∧ ∃ pre0, pre0 <+: pre ∧ pre0.length = most ∧ GotU w most pre0 W) (GotU.turn (by omega)) ?_ hgV.out ?_ ?done ?stop
  · rintro c s Y Z ⟨p0, pre0, p1, p2, p3⟩ ht
    exact ⟨p0, pre0, p1, p2, GotU.turn (by omega) _ _ _ p3 ht⟩
  · apply Exists.intro
    constructor
    · intro F l x W K hF hK
      gi_wp2
      exact hK
    · rintro F l pre x W hF hde hl' _ hgot hpx
      obtain ⟨hlen, A, c, r, hbo, hrow, hnew, hbm, hk⟩ := hgot
      have hgV := V.mk (show GotU w most pre W from ⟨hlen, A, c, r, hbo, hrow, hnew, hbm, hk⟩)
      have q0 := hbo.cell' 0 rfl
      have q1 := hbm.cell' 0 rfl
      by_cases hfull : most ≤ pre.length
      · have hge : decide (most ≤ pre.length) = true := by simpa using hfull
        gi_wp2
        exact ⟨Keepm.refl _ _, rfl, pre, List.prefix_append _ _, by omega, hgV.out⟩
      · have hge : decide (most ≤ pre.length) = false := by simpa using hfull
        have hkm : pre.length + 1 ≤ maxLen := by simp only [maxLen]; omega
        have hbo' := hbo.alloc (.cells #[.int .u32 x] 24)
        gi_wp2_with (gi_at_builtin; refine wpListIn_app (by rfl) (.tmp 14) (.tmp 16) 46 rfl 24 i0 (.int .u32 0) 1 4 u_u32s hi hz0 hz1 hz2 rfl (by decide) A pre.length c _ r (by rfl) (hrow.alloc _) _ 1 1 [.int .u32 x] (by rfl) (Rd.lit _ _ _ 1 _ (by simp [maxLen])) rfl (by simp [Value.oneCell']) (pre.length + 1) rfl (by omega) hkm ?_)
        intro A2 c2 r2 w2 hrow2 hkp2 hfr2 _
        have hne1 : r ≠ some (w.heap.size + 1) := hrow.ne_type hbo (by decide)
        have hne0 : r ≠ some w.heap.size := hrow.ne_type hbm (by decide)
        have hbo2 := Blk.kp hbo' hkp2 hne1
        have hbm2 := Blk.kp (hbm.alloc (.cells #[.int .u32 x] 24)) hkp2 hne0
        have hk2 : Kp w w2 (fun _ => False) := (hk.alloc (.cells #[.int .u32 x] 24)).trans hkp2 (fun j hj => .inr (hnew j hj))
        have hnew2 : New w r2 := hnew.fr (hk.alloc (.cells #[.int .u32 x] 24)).size hfr2
        have s0 := hbo2.cell' 0 rfl
        have s1 := hbo2.free 0
        have e2 : U32 pre ++ [.int .u32 x] = U32 (pre ++ [x]) := by simp [U32]
        rw [e2] at hrow2
        have hne2 : r2 ≠ some (w.heap.size + 1) := hrow2.ne_type hbo2 (by decide)
        have hlp : (pre ++ [x]).length = pre.length + 1 := by simp
        have hfin : GotU w most (pre ++ [x]) (w2.setCell ⟨w.heap.size + 1, 0, none⟩ (.slice A2 (pre.length + 1) c2)) := by
          refine ⟨by omega, A2, c2, r2, ?_, ?_, hnew2, hbm2.far (by simp only; omega) _, hk2.set _ _ _ (.inr (by omega))⟩
          · rw [hlp]; exact hbo2.set 0 _
          · rw [hlp]; exact hrow2.far hne2 _
        have hkW : Kp W (w2.setCell ⟨w.heap.size + 1, 0, none⟩ (.slice A2 (pre.length + 1) c2)) (fun k => r = some k ∨ k = w.heap.size + 1) :=
          (((Kp.refl W (fun k => r = some k ∨ k = w.heap.size + 1)).alloc (.cells #[.int .u32 x] 24)).trans hkp2 (fun j hj => .inl (.inl hj))).set _ _ _ (.inl (.inr rfl))
        have hq : Kq X T2 W (w2.setCell ⟨w.heap.size + 1, 0, none⟩ (.slice A2 (pre.length + 1) c2)) := Kq.of_kp' hkW (by
          rintro k (hk | rfl)
          · refine ⟨fun hx => by have := hX k hx; have := hnew k hk; omega, fun cs t fr hc ht => ?_⟩
            obtain ⟨cur, hcur⟩ := hrow.cellsAt hk
            rw [hcur] at hc; simp only [Option.some.injEq, Obj.cells.injEq] at hc; rw [← hc.2.1] at ht; exact hT1 ht
          · refine ⟨fun hx => by have := hX _ hx; omega, fun cs t fr hc ht => ?_⟩
            unfold Blk at hbo
            rw [hbo] at hc; simp only [Option.some.injEq, Obj.cells.injEq] at hc; rw [← hc.2.1] at ht; exact hT2 ht)
        have hkm' : Keepm w1.heap.size W (w2.setCell ⟨w.heap.size + 1, 0, none⟩ (.slice A2 (pre.length + 1) c2)) := Keepm.of_kp hkW (by
          rintro k (hk | rfl)
          · obtain ⟨cur, hcur⟩ := hrow.cellsAt hk
            exact .inr ⟨_, _, _, hcur⟩
          · exact .inr ⟨_, _, _, hbo⟩)
        have hfV := V.mk hfin
        clear hfin e2 hlp hkW
        gi_wp2
        exact ⟨hkm', hq, hfV.out⟩
  case done =>
    rintro D W hD ⟨hlen, A, c, r, hbo, hrow, hnew, hbm, hk⟩ hK
    have q0 := hbo.cell' 0 rfl
    have e1 : V (L.take most = L) := ⟨List.take_of_length_le (by omega)⟩
    have hf : V (Row (W.putObj D (.deferred none)) 24 1 A L.length c (U32 L) r) := ⟨(Turn.put (B := w1.heap.size) (T := T0) (.deferred none) hD hK (fun cs t fr h => by simp at h)).row hrow (fun h => h)⟩
    have kf := hk.putObj (D := D) (.deferred none) (by omega)
    go_wp2
    refine marks_ret hK ⟨_, results_tmp rfl _ _ _, ?_⟩
    rw [e1.out]
    exact ⟨A, L.length, c, r, rfl, rfl, hf.out, hnew, kf⟩
  case stop =>
    rintro D c pre W hD hpre ⟨rfl, pre0, h1, h2, ⟨hlen, A, c, r, hbo, hrow, hnew, hbm, hk⟩⟩ hK
    have q0 := hbo.cell' 0 rfl
    have e1 : V (L.take most = pre0) := ⟨by
      obtain ⟨t, ht⟩ := h1.trans hpre
      rw [← ht, ← h2, List.take_left]⟩
    have hf : V (Row (W.putObj D (.deferred none)) 24 1 A pre0.length c (U32 pre0) r) := ⟨(Turn.put (B := w1.heap.size) (T := T0) (.deferred none) hD hK (fun cs t fr h => by simp at h)).row hrow (fun h => h)⟩
    have kf := hk.putObj (D := D) (.deferred none) (by omega)
    clear h1 h2
    go_wp2
    refine marks_ret hK ⟨_, results_tmp rfl _ _ _, ?_⟩
    rw [e1.out]
    exact ⟨A, pre0.length, c, r, rfl, rfl, hf.out, hnew, kf⟩

end Go.Proofs.Ytboambncimdfjaa
