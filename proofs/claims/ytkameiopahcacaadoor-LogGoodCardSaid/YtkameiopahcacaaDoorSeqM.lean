/- Iterators that make memory of their own which a round must keep: the word 'SeqM' (a round is told up to where it reaches: N). No condition. -/
import Derived.Test.YtkameiopahcacaaDoorSeqC
set_option linter.unusedVariables false
set_option linter.unusedSimpArgs false
namespace Go.Proofs.YtkameiopahcacaaDoor
open Go.RowKit Go.Shelf
attribute [local go_sem] Oper.semAt_some

/-- What a round must keep: the blocks of X, and the iterator's own, from B on below N. -/
def Xn (X : Nat → Prop) (B N : Nat) (k : Nat) : Prop := X k ∨ (B ≤ k ∧ k < N)
/-- As SeqL; the iterator's own blocks lie from the call's world on, below N. -/
def SeqM {α : Type} (F : Fence) (P : Program) (g : Nat) (lb : Array Value) (E : World → α → World → Array Value → Prop) (T1 : TypeId → Prop) (X : Nat → Prop) (T2 : TypeId → Prop) (L : List α) (w : World) : Prop :=
  ∀ (n l : Nat) (J Jx : Nat → List α → World → Prop) (W : World), Below w.heap.size w W → (∀ N, Still W.heap.size T1 (J N)) → (∀ N, Still W.heap.size T1 (Jx N)) →
    (∀ N m pre x args W1, W.heap.size ≤ N → N ≤ W1.heap.size → J N pre W1 → pre ++ [x] <+: L → E W x W1 args → YieldAt F m P l args W1 fun e W' =>
      (e = .returned (.bool true) ∧ J N (pre ++ [x]) W' ∧ Kq (Xn X W.heap.size N) T2 W1 W' ∧ Keepm W.heap.size W1 W') ∨ (e = .returned (.bool false) ∧ Jx N (pre ++ [x]) W' ∧ Keepm W.heap.size W1 W')) →
    (∀ N, W.heap.size ≤ N → J N [] W) →
    CallsIn F n P g (#[.func (.yield l) #[] #[]] ++ lb) W fun e W' => (∃ v, e = .returned v) ∧ ∃ N, W.heap.size ≤ N ∧ (J N L W' ∨ ∃ pre, pre <+: L ∧ Jx N pre W')

/-- THE LAW OF 'for x := range g': g goes through L. -/
theorem range_lawM {P : Program} {F : Fence} (hF : IsWide F) {n : Nat} {α : Type} {g : Operand} {ps : Array Tmp} {assign body : Code} {Q : Exit → Act → World → Prop} {a : Act} {w : World}
    {gf : Nat} {lb : Array Value} (hg : a.eval g = .func (.func gf) #[] lb) (eg : ∀ args w, (callFunc gf args).run P w = .ok (.enter gf args) w)
    {E : World → α → World → Array Value → Prop} {T1 : TypeId → Prop} {X : Nat → Prop} {T2 : TypeId → Prop} {L : List α} {w0 : World} (hseq : SeqM F P gf lb E T1 X T2 L w0)
    (hXb : ∀ k, X k → k < w.heap.size) (hT : ∀ t, T1 t → T2 t) (hb0 : Below w0.heap.size w0 w) (hps : ∀ V x W args, E V x W args → args.size = ps.size)
    (I : Nat → List α → World → Prop) (Ix : Nat → Code → List α → World → Prop) (hI : ∀ N, Still w.heap.size T1 (I N)) (hIx : ∀ N c, Still w.heap.size T1 (Ix N c)) (h0 : ∀ N, w.heap.size + 2 ≤ N → I N [] w)
    (Ax : α → Act → World → Prop) (hAx : ∀ x a', Still w.heap.size (fun _ => False) (fun (_ : Unit) W => Ax x a' W))
    (hassign : ∀ (N l : Nat) (pre : List α) (x : α) (V : World) (args : Array Value) (W : World) (K : Act → World → Prop), w.heap.size + 2 ≤ N → N ≤ W.heap.size → I N pre W → pre ++ [x] <+: L → Below w.heap.size w V → E V x W args → (∀ a' W', Keepm w.heap.size W W' → Kq (Xn X (w.heap.size + 2) N) T2 W W' → I N pre W' → Ax x a' W' → K a' W') →
      assign.wpIn (F.inRound l) (n - 1 - 1) P (Exit.then K (fun _ _ _ => False)) { tmps := (ps.zip args).foldl (fun t (p, v) => t.setIfInBounds p v) a.tmps, defers := [] } W)
    (hbody : ∀ (N l : Nat) (pre : List α) (x : α) (a' : Act) (W : World), w.heap.size + 2 ≤ N → N ≤ W.heap.size → w.heap.size ≤ l → (∃ r, W.heap[l]? = some (.loop r)) → I N pre W → pre ++ [x] <+: L → Ax x a' W → body.wpIn (F.inRound l) (n - 1 - 1) P (RoundPost w.heap.size (Xn X (w.heap.size + 2) N) T2 (I N) (Ix N) (pre ++ [x]) W) a' W)
    (hdone : ∀ (N D : Nat) (W : World), w.heap.size + 2 ≤ N → w.heap.size ≤ D → I N L W → W.heap[D]? = some (.deferred (some [])) → Q .normal { a with defers := { target := .collected D, args := #[] } :: a.defers } W)
    (hstop : ∀ (N D : Nat) (c : Code) (pre : List α) (W : World), w.heap.size + 2 ≤ N → w.heap.size ≤ D → pre <+: L → Ix N c pre W → W.heap[D]? = some (.deferred (some [])) → c.wpIn F n P Q { a with defers := { target := .collected D, args := #[] } :: a.defers } W) :
    (Code.rangeFunc g ps assign body).wpIn F n P Q a w := by
  have hro := wide_ro hF
  have hde := wide_de hF
  refine wpIn_rangeFunc ?_
  intro fn hfn
  rw [hro]
  -- the loop's record, in each of its states; the world in which the iterator is called
  let rec_ : LoopState → Option Code → Loop := fun st pe => { state := st, pending := pe, fn, tmps := a.tmps, params := ps, assign, body, defers := w.heap.size }
  have hnl : ∀ r, NotCells (.loop r) := fun r cs t fr h => by simp at h
  have hnd : ∀ d, NotCells (.deferred d) := fun d cs t fr h => by simp at h
  have hent := run_enterLoop_outer (P := P) (w := w) fn a.tmps ps assign body
  obtain ⟨W1, hW1⟩ : ∃ W1, (w.alloc (.deferred (some []))).alloc (.loop (rec_ .ready none)) = W1 := ⟨_, rfl⟩
  have hL1 : W1.heap[w.heap.size + 1]? = some (.loop (rec_ .ready none)) := by
    rw [← hW1]
    have := heap_alloc_new (w.alloc (.deferred (some []))) (.loop (rec_ .ready none))
    rwa [World.size_alloc] at this
  have hK1 : W1.heap[w.heap.size]? = some (.deferred (some [])) := by
    rw [← hW1]
    exact (Below.heap_alloc _ _ _ (by simp)).trans (heap_alloc_new w _)
  have hs1 : W1.heap.size = w.heap.size + 2 := by rw [← hW1]; simp
  have hI1 : ∀ N, w.heap.size + 2 ≤ N → I N [] W1 := fun N hN => by rw [← hW1]; exact hI N _ _ _ (hI N _ _ _ (h0 N hN) (Turn.alloc _ _ _ _)) (Turn.alloc _ _ _ _)
  have hb1 : Below w0.heap.size w0 W1 := by
    rw [← hW1]
    exact (hb0.alloc hb0.size _).alloc (by have := hb0.size; simp; omega) _
  have hbw : Below w.heap.size w W1 := by
    rw [← hW1]
    exact ((Below.refl _ w).alloc (Nat.le_refl _) _).alloc (by simp) _
  refine ⟨w.heap.size + 1, [{ target := .collected w.heap.size, args := #[] }], W1, { target := .fn (.func gf) lb, args := #[.func (.yield (w.heap.size + 1)) #[] #[]] }, W1, gf,
    #[.func (.yield (w.heap.size + 1)) #[] #[]] ++ lb, W1, by rw [← hW1]; exact hent, by simp only [resolve, hg]; simp [go_sem], ?_, by simp [invoke, go_sem, eg], fun h => by rw [hde] at h; simp at h, ?_⟩
  · intro f' hf'
    exact wide_fn hF _
  have ht1 : ∀ {Y Z : World}, Turn W1.heap.size T1 Y Z → Turn w.heap.size T1 Y Z := fun h => h.mono (by omega) (fun _ h => h)
  have hKput : ∀ (N : Nat) (Y : World) (o o' : Obj), Y.heap[w.heap.size + 1]? = some o → NotCells o → Kq (Xn X (w.heap.size + 2) N) T2 Y (Y.putObj (w.heap.size + 1) o') := fun N Y o o' h hn =>
    (Kp.of_grown (grownBy_putObj' Y (w.heap.size + 1) o')).mono (fun k hk => by
      simp only [Option.some.injEq] at hk
      subst hk
      refine ⟨?_, fun cs t fr h2 => by rw [h] at h2; simp only [Option.some.injEq] at h2; exact (hn cs t fr h2).elim⟩
      rintro (hx | ⟨hx, _⟩)
      · have := hXb _ hx; omega
      · omega)
  have up : ∀ {Y Z : World}, Turn w.heap.size (fun _ => False) Y Z → Turn w.heap.size T1 Y Z := fun h => h.mono (Nat.le_refl _) (fun _ h => h.elim)
  refine (hseq (n - 1) (w.heap.size + 1)
    (fun N pre W => I N pre W ∧ W.heap[w.heap.size + 1]? = some (.loop (rec_ .ready none)) ∧ W.heap[w.heap.size]? = some (.deferred (some [])))
    (fun N pre W => ∃ c, Ix N c pre W ∧ W.heap[w.heap.size + 1]? = some (.loop (rec_ .done (some c))) ∧ W.heap[w.heap.size]? = some (.deferred (some [])))
    W1 hb1 ?_ ?_ ?_ (fun N hN => ⟨hI1 N (by omega), hL1, hK1⟩)).mono ?_
  · rintro N s Y Z ⟨q1, q2, q3⟩ ht
    exact ⟨hI N s Y Z q1 (ht1 ht), ht.same q2 (by omega), ht.same q3 (by omega)⟩
  · rintro N s Y Z ⟨c, q1, q2, q3⟩ ht
    exact ⟨c, hIx N c s Y Z q1 (ht1 ht), ht.same q2 (by omega), ht.same q3 (by omega)⟩
  · rintro N m pre x args W hN1 hN2 ⟨hi, hl, hk⟩ hpx hE
    have hy := run_yield (P := P) (args := args) hl (hps _ _ _ _ hE)
    refine ⟨fn, _, assign, body, hy, roundIn_any hde m (roundIn_of_wpIn hfn (hassign N _ pre x W1 args W _ (by omega) hN2 hi hpx hbw hE ?_))⟩
    intro a' W2 hk2 hr2 hi2 ha2
    have hl2 := hk2.2 _ _ (by omega) hl (hnl _)
    have hd2 := hk2.2 _ _ (Nat.le_refl _) hk (hnd _)
    refine ⟨_, run_beginRound hl2 rfl, ?_⟩
    have t3 : Turn w.heap.size (fun _ => False) W2 (W2.putObj (w.heap.size + 1) (.loop (rec_ .busy none))) := Turn.put _ (by omega) hl2 (hnl _)
    have hl3 : (W2.putObj (w.heap.size + 1) (.loop (rec_ .busy none))).heap[w.heap.size + 1]? = some (.loop (rec_ .busy none)) := World.putObj_heap_same (Array.getElem?_eq_some_iff.1 hl2).1
    have hd3 : (W2.putObj (w.heap.size + 1) (.loop (rec_ .busy none))).heap[w.heap.size]? = some (.deferred (some [])) := (World.putObj_heap_other (by omega)).trans hd2
    have hb := hbody N _ pre x a' _ (by omega) (by have h1 := hk2.1; have h2 := t3.size; omega) (show w.heap.size ≤ w.heap.size + 1 by omega) ⟨_, hl3⟩ (hI N _ _ _ hi2 (up t3)) hpx (hAx x a' () _ _ ha2 t3)
    refine wpIn_mono hb ?_
    have km : ∀ {Y Z : World}, Keepm w.heap.size Y Z → Keepm W1.heap.size Y Z := fun h => h.mono (by omega)
    have kput : ∀ (Y : World) (o o' : Obj), Y.heap[w.heap.size + 1]? = some o → Keepm W1.heap.size Y (Y.putObj (w.heap.size + 1) o') := fun Y o o' h =>
      ⟨by simp, fun k u hk hu _ => (World.putObj_heap_other (by omega)).trans hu⟩
    have hfin : ∀ (jump : Option Code) (W4 : World), Keepm w.heap.size (W2.putObj (w.heap.size + 1) (.loop (rec_ .busy none))) W4 →
        ∃ W5, (Instr.endRound (w.heap.size + 1) jump).run P W4 = .ok (.bool jump.isNone) W5 ∧ (Turn w.heap.size (fun _ => False) W4 W5 ∧ Keepm W1.heap.size W W5 ∧ Kq (Xn X (w.heap.size + 2) N) T2 W4 W5) ∧
          W5.heap[w.heap.size + 1]? = some (.loop (rec_ (if jump.isNone then .ready else .done) jump)) ∧ W5.heap[w.heap.size]? = some (.deferred (some [])) := by
      intro jump W4 hk4
      have hl4 := hk4.2 _ _ (by omega) hl3 (hnl _)
      have hd4 := hk4.2 _ _ (Nat.le_refl _) hd3 (hnd _)
      exact ⟨_, run_endRound (P := P) jump hl4, ⟨Turn.put _ (by omega) hl4 (hnl _), (km hk2).trans ((kput _ _ _ hl2).trans ((km hk4).trans (kput _ _ _ hl4))), hKput N _ _ _ hl4 (hnl _)⟩, World.putObj_heap_same (Array.getElem?_eq_some_iff.1 hl4).1, (World.putObj_heap_other (by omega)).trans hd4⟩
    rintro e a4 W4 hp
    cases e with
    | normal =>
      obtain ⟨p1, p2, p3⟩ := hp
      obtain ⟨W5, r1, ⟨r2, rk, rq⟩, r3, r4⟩ := hfin none W4 p1
      exact ⟨_, _, r1, .inl ⟨rfl, ⟨hI N _ _ _ p3 (up r2), r3, r4⟩, by rw [hs1]; exact hr2.trans ((hKput N _ _ _ hl2 (hnl _)).trans (p2.trans rq)), rk⟩⟩
    | ret =>
      obtain ⟨p1, p3⟩ := hp
      obtain ⟨W5, r1, ⟨r2, rk, rq⟩, r3, r4⟩ := hfin (some .ret) W4 p1
      exact ⟨_, _, r1, .inr ⟨rfl, ⟨_, hIx N _ _ _ _ p3 (up r2), r3, r4⟩, rk⟩⟩
    | exit id =>
      obtain ⟨p1, p3⟩ := hp
      obtain ⟨W5, r1, ⟨r2, rk, rq⟩, r3, r4⟩ := hfin (some (.exit id)) W4 p1
      exact ⟨_, _, r1, .inr ⟨rfl, ⟨_, hIx N _ _ _ _ p3 (up r2), r3, r4⟩, rk⟩⟩
    | goto t =>
      obtain ⟨p1, p3⟩ := hp
      obtain ⟨W5, r1, ⟨r2, rk, rq⟩, r3, r4⟩ := hfin (some (.goto t)) W4 p1
      exact ⟨_, _, r1, .inr ⟨rfl, ⟨_, hIx N _ _ _ _ p3 (up r2), r3, r4⟩, rk⟩⟩
    | panic ch => exact hp.elim
    | outgrown => exact hp.elim
  · rintro e W2 ⟨⟨v, rfl⟩, N, hN, (⟨hi, hl, hk⟩ | ⟨pre, hSp, c, hi, hl, hk⟩)⟩
    · refine ⟨none, _, run_endLoop (P := P) hl (by simp [rec_]), hdone N _ _ (by omega) (Nat.le_refl _) (hI N _ _ _ hi (Turn.put _ (by omega) hl (hnl _))) ((World.putObj_heap_other (by omega)).trans hk)⟩
    · refine ⟨some c, _, run_endLoop (P := P) hl (by simp [rec_]), hstop N _ c pre _ (by omega) (Nat.le_refl _) hSp (hIx N c _ _ _ hi (Turn.put _ (by omega) hl (hnl _))) ((World.putObj_heap_other (by omega)).trans hk)⟩

/-- The law in a plain walk. -/
theorem range_wpM0 {P : Program} {α : Type} {g : Operand} {ps : Array Tmp} {assign body : Code} {Q : Exit → Act → World → Prop} {a : Act} {w : World}
    {gf : Nat} {lb : Array Value} (hg : a.eval g = .func (.func gf) #[] lb) (eg : ∀ args w, (callFunc gf args).run P w = .ok (.enter gf args) w)
    {E : World → α → World → Array Value → Prop} {T1 : TypeId → Prop} {X : Nat → Prop} {T2 : TypeId → Prop} {L : List α} {w0 : World} (hseq : ∀ F, IsWide F → SeqM F P gf lb E T1 X T2 L w0)
    (hXb : ∀ k, X k → k < w.heap.size) (hT : ∀ t, T1 t → T2 t) (hb0 : Below w0.heap.size w0 w) (hps : ∀ V x W args, E V x W args → args.size = ps.size)
    (I : Nat → List α → World → Prop) (Ix : Nat → Code → List α → World → Prop) (hI : ∀ N, Still w.heap.size T1 (I N)) (hIx : ∀ N c, Still w.heap.size T1 (Ix N c)) (h0 : ∀ N, w.heap.size + 2 ≤ N → I N [] w)
    (Ax : α → Act → World → Prop) (hAx : ∀ x a', Still w.heap.size (fun _ => False) (fun (_ : Unit) W => Ax x a' W))
    (hassign : ∀ (F : Fence) (N l : Nat) (pre : List α) (x : α) (U : World) (args : Array Value) (W : World) (K : Act → World → Prop), IsWide F → w.heap.size + 2 ≤ N → N ≤ W.heap.size → I N pre W → pre ++ [x] <+: L → Below w.heap.size w U → E U x W args → (∀ a' W', Keepm w.heap.size W W' → Kq (Xn X (w.heap.size + 2) N) T2 W W' → I N pre W' → Ax x a' W' → K a' W') →
      assign.wpIn (F.inRound l) 0 P (Exit.then K (fun _ _ _ => False)) { tmps := (ps.zip args).foldl (fun t (p, v) => t.setIfInBounds p v) a.tmps, defers := [] } W)
    (hbody : ∀ (F : Fence) (N l : Nat) (pre : List α) (x : α) (a' : Act) (W : World), IsWide F → F.depth = none → w.heap.size + 2 ≤ N → N ≤ W.heap.size → w.heap.size ≤ l → (∃ r, W.heap[l]? = some (.loop r)) → I N pre W → pre ++ [x] <+: L → Ax x a' W → body.wpIn (F.inRound l) 0 P (RoundPost w.heap.size (Xn X (w.heap.size + 2) N) T2 (I N) (Ix N) (pre ++ [x]) W) a' W)
    (hdone : ∀ (N D : Nat) (W : World), w.heap.size + 2 ≤ N → w.heap.size ≤ D → I N L W → W.heap[D]? = some (.deferred (some [])) → Q .normal { a with defers := { target := .collected D, args := #[] } :: a.defers } W)
    (hstop : ∀ (N D : Nat) (c : Code) (pre : List α) (W : World), w.heap.size + 2 ≤ N → w.heap.size ≤ D → pre <+: L → Ix N c pre W → W.heap[D]? = some (.deferred (some [])) → c.wp P Q { a with defers := { target := .collected D, args := #[] } :: a.defers } W) :
    (Code.rangeFunc g ps assign body).wp P Q a w := by
  have hF : IsWide Fence.wide := rfl
  exact wpIn_wide.1 (range_lawM (n := 0) hF hg eg (hseq _ hF) hXb hT hb0 hps I Ix hI hIx h0 Ax hAx (fun N l pre x V args W K h1 h2 h3 h4 h5 h6 h7 => hassign _ N l pre x V args W K hF h1 h2 h3 h4 h5 h6 h7)
    (fun N l pre x a' W h1 h2 h3 h4 h5 h6 h7 => hbody _ N l pre x a' W hF rfl h1 h2 h3 h4 h5 h6 h7) hdone (fun N D c pre W h1 h2 h3 h4 h5 => wpIn_wide.2 (hstop N D c pre W h1 h2 h3 h4 h5)))

/-- .. where the loop variables are plain slots, and what a round is handed has memory of its own. -/
theorem range_wpM {P : Program} {α δ : Type} {g : Operand} {ps : Array Tmp} {assign body : Code} {Q : Exit → Act → World → Prop} {a : Act} {w : World}
    {gf : Nat} {lb : Array Value} (hg : a.eval g = .func (.func gf) #[] lb) (eg : ∀ args w, (callFunc gf args).run P w = .ok (.enter gf args) w)
    {E : World → α → World → Array Value → Prop} (enc : α → δ → Array Value) {T1 : TypeId → Prop} {X : Nat → Prop} {T2 : TypeId → Prop} {L : List α} {w0 : World} (hseq : ∀ F, IsWide F → SeqM F P gf lb E T1 X T2 L w0)
    (Gx : α → δ → World → Prop) (hGx : ∀ x y, Still w.heap.size (fun _ => False) (fun (_ : Unit) W => Gx x y W))
    (hXb : ∀ k, X k → k < w.heap.size) (hT : ∀ t, T1 t → T2 t) (hb0 : Below w0.heap.size w0 w) (hE : ∀ V x W args, Below w.heap.size w V → E V x W args → ∃ y, args = enc x y ∧ Gx x y W) (hps : ∀ V x W args, E V x W args → args.size = ps.size)
    (I : Nat → List α → World → Prop) (Ix : Nat → Code → List α → World → Prop) (hI : ∀ N, Still w.heap.size T1 (I N)) (hIx : ∀ N c, Still w.heap.size T1 (Ix N c)) (h0 : ∀ N, w.heap.size + 2 ≤ N → I N [] w)
    (hab : ∃ tm : α → δ → Act, (∀ (F : Fence) (l : Nat) (x : α) (y : δ) (W : World) (K : Act → World → Prop), IsWide F → K (tm x y) W →
        assign.wpIn (F.inRound l) 0 P (Exit.then K (fun _ _ _ => False)) { tmps := (ps.zip (enc x y)).foldl (fun t (p, v) => t.setIfInBounds p v) a.tmps, defers := [] } W) ∧
      ∀ (F : Fence) (N l : Nat) (pre : List α) (x : α) (y : δ) (W : World), IsWide F → F.depth = none → w.heap.size + 2 ≤ N → N ≤ W.heap.size → w.heap.size ≤ l → (∃ r, W.heap[l]? = some (.loop r)) → I N pre W → pre ++ [x] <+: L → Gx x y W →
        body.wpIn (F.inRound l) 0 P (RoundPost w.heap.size (Xn X (w.heap.size + 2) N) T2 (I N) (Ix N) (pre ++ [x]) W) (tm x y) W)
    (hdone : ∀ (N D : Nat) (W : World), w.heap.size + 2 ≤ N → w.heap.size ≤ D → I N L W → W.heap[D]? = some (.deferred (some [])) → Q .normal { a with defers := { target := .collected D, args := #[] } :: a.defers } W)
    (hstop : ∀ (N D : Nat) (c : Code) (pre : List α) (W : World), w.heap.size + 2 ≤ N → w.heap.size ≤ D → pre <+: L → Ix N c pre W → W.heap[D]? = some (.deferred (some [])) → c.wp P Q { a with defers := { target := .collected D, args := #[] } :: a.defers } W) :
    (Code.rangeFunc g ps assign body).wp P Q a w := by
  obtain ⟨tm, ha, hb⟩ := hab
  refine range_wpM0 hg eg hseq hXb hT hb0 hps I Ix hI hIx h0 (fun x a' W => ∃ y, a' = tm x y ∧ Gx x y W) ?_ ?_ ?_ hdone hstop
  · rintro x a' _ Y Z ⟨y, q2, q4⟩ ht
    exact ⟨y, q2, hGx x y () _ _ q4 ht⟩
  · rintro F N l pre x U args W K hF hN1 hN2 hi _ hU he hK
    obtain ⟨y, rfl, hy⟩ := hE _ _ _ _ hU he
    exact ha F l x y W K hF (hK _ _ (Keepm.refl _ _) (Kq.refl _ _ _) hi ⟨y, rfl, hy⟩)
  · rintro F N l pre x a' W h1 h2 hN1 hN2 h3 h4 h5 h6 ⟨y, rfl, q4⟩
    exact hb F N l pre x y W h1 h2 hN1 hN2 h3 h4 h5 h6 q4

/-- Within an iterator: the law of a range where what a round is handed has memory of its own (y: where it lies; Gx: what is known of it), the loop variable laid in a box. -/
theorem range_lawC {P : Program} {F : Fence} (hF : IsWide F) {n : Nat} {α δ : Type} {g : Operand} {ps : Array Tmp} {assign body : Code} {Q : Exit → Act → World → Prop} {a : Act} {w : World}
    {gf : Nat} {lb : Array Value} (hg : a.eval g = .func (.func gf) #[] lb) (eg : ∀ args w, (callFunc gf args).run P w = .ok (.enter gf args) w)
    {E : World → α → World → Array Value → Prop} (enc : α → δ → Array Value) (cs : α → δ → Array Value) (t : TypeId) {T1 : TypeId → Prop} {X : Nat → Prop} {T2 : TypeId → Prop} {L : List α} {w0 : World} (hseq : SeqL F P gf lb E T1 X T2 L w0)
    (Gx : α → δ → World → Prop) (hGx : ∀ x y, Still w.heap.size (fun _ => False) (fun (_ : Unit) W => Gx x y W))
    (hXb : ∀ k, X k → k < w.heap.size) (hT : ∀ t, T1 t → T2 t) (hb0 : Below w0.heap.size w0 w) (hE : ∀ V x W args, Below w.heap.size w V → E V x W args → ∃ y, args = enc x y ∧ Gx x y W) (hps : ∀ V x W args, E V x W args → args.size = ps.size)
    (I : List α → World → Prop) (Ix : Code → List α → World → Prop) (hI : Still w.heap.size T1 I) (hIx : ∀ c, Still w.heap.size T1 (Ix c)) (hIs : ∀ pre W, I pre W → w.heap.size ≤ W.heap.size) (h0 : I [] w)
    (hab : ∃ tm : α → δ → Nat → Act, (∀ (l : Nat) (x : α) (y : δ) (W : World) (K : Act → World → Prop), K (tm x y W.heap.size) (W.alloc (.cells (cs x y) t)) →
        assign.wpIn (F.inRound l) (n - 1 - 1) P (Exit.then K (fun _ _ _ => False)) { tmps := (ps.zip (enc x y)).foldl (fun t (p, v) => t.setIfInBounds p v) a.tmps, defers := [] } W) ∧
      ∀ (l : Nat) (pre : List α) (x : α) (y : δ) (B : Nat) (W : World), w.heap.size ≤ l → (∃ r, W.heap[l]? = some (.loop r)) → I pre W → pre ++ [x] <+: L → w.heap.size ≤ B → Blk W B (cs x y) t → Gx x y W →
        body.wpIn (F.inRound l) (n - 1 - 1) P (RoundPost w.heap.size X T2 I Ix (pre ++ [x]) W) (tm x y B) W)
    (hdone : ∀ (D : Nat) (W : World), w.heap.size ≤ D → I L W → W.heap[D]? = some (.deferred (some [])) → Q .normal { a with defers := { target := .collected D, args := #[] } :: a.defers } W)
    (hstop : ∀ (D : Nat) (c : Code) (pre : List α) (W : World), w.heap.size ≤ D → pre <+: L → Ix c pre W → W.heap[D]? = some (.deferred (some [])) → c.wpIn F n P Q { a with defers := { target := .collected D, args := #[] } :: a.defers } W) :
    (Code.rangeFunc g ps assign body).wpIn F n P Q a w := by
  obtain ⟨tm, ha, hb⟩ := hab
  refine range_law hF hg eg hseq hXb hT hb0 hps I Ix hI hIx h0 (fun x a' W => ∃ y B, w.heap.size ≤ B ∧ a' = tm x y B ∧ Blk W B (cs x y) t ∧ Gx x y W) ?_ ?_ ?_ hdone hstop
  · rintro x a' _ Y Z ⟨y, B, q1, q2, q3, q4⟩ ht
    exact ⟨y, B, q1, q2, ht.blk q3 (fun h => h), hGx x y () _ _ q4 ht⟩
  · rintro l pre x U args W K hi _ hU he hK
    obtain ⟨y, rfl, hy⟩ := hE _ _ _ _ hU he
    have hk : Kp W (W.alloc (.cells (cs x y) t)) (fun _ => False) := (Kp.refl _ _).alloc _
    exact ha l x y W K (hK _ _ (Keepm.of_kp hk (fun _ h => h.elim)) (Kq.of_kp hk) (hI _ _ _ hi (Turn.kp hk)) ⟨y, _, hIs _ _ hi, rfl, Blk.new _ _ _, hGx x y () _ _ hy (Turn.kp hk)⟩)
  · rintro l pre x a' W h3 h4 h5 h6 ⟨y, B, q1, rfl, q3, q4⟩
    exact hb l pre x y B W h3 h4 h5 h6 q1 q3 q4

end Go.Proofs.YtkameiopahcacaaDoor
