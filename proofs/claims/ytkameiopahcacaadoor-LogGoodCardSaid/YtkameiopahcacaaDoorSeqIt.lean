/- Iterators: the word 'SeqL' (an iterator goes through just this list, until it is told to stop). No condition. -/
import Derived.Test.YtkameiopahcacaaDoorLib
import Derived.Test.YtkameiopahcacaaDoorProg
import Derived.RangeFuncNested
import Derived.RangeFuncBound
import Derived.RangeFuncCalls
import Derived.RangeFuncLeaves
import Derived.Shelf.Abstract
import Derived.Shelf.RegionOpen
import Derived.WalkKit
import Derived.OwnWalkIn
import Derived.TacticsInMore
import Derived.LoopNIn
import Derived.LoopIn
import Derived.KernelRfl
set_option linter.unusedVariables false
set_option linter.unusedSimpArgs false
namespace Go.Proofs.YtkameiopahcacaaDoor
open Go.RowKit Go.Shelf
attribute [local go_sem] Oper.semAt_some

theorem ret_bool {a b : Bool} (h : a = b) : Ending.returned (.bool a) = .returned (.bool b) := by rw [h]
theorem ret_int {k : IntKind} {a b : Int} (h : a = b) : Ending.returned (.int k a) = .returned (.int k b) := by rw [h]
/-- What an iterator's running may turn: blocks from B on that are no cells, or cells of a type of T. -/
def Turn (B : Nat) (T : TypeId → Prop) (W W' : World) : Prop := Kp W W' (fun k => B ≤ k ∧ ∀ cs t fr, W.heap[k]? = some (.cells cs t fr) → T t)
/-- A word that abides it. -/
def Still {β : Type} (B : Nat) (T : TypeId → Prop) (J : β → World → Prop) : Prop := ∀ s W W', J s W → Turn B T W W' → J s W'
def NotCells (o : Obj) : Prop := ∀ cs t fr, o ≠ .cells cs t fr
/-- What a body keeps of the loops' own blocks. -/
def Keepm (B : Nat) (W W' : World) : Prop := W.heap.size ≤ W'.heap.size ∧ ∀ k o, B ≤ k → W.heap[k]? = some o → NotCells o → W'.heap[k]? = some o
theorem Keepm.trans {B : Nat} {X Y Z : World} (h : Keepm B X Y) (k : Keepm B Y Z) : Keepm B X Z := ⟨Nat.le_trans h.1 k.1, fun i o hi ho hn => k.2 i o hi (h.2 i o hi ho hn) hn⟩
theorem Keepm.refl (B : Nat) (X : World) : Keepm B X X := ⟨Nat.le_refl _, fun _ _ _ ho _ => ho⟩
theorem Keepm.mono {B B' : Nat} {X Y : World} (h : Keepm B X Y) (hB : B ≤ B') : Keepm B' X Y := ⟨h.1, fun k o hk => h.2 k o (Nat.le_trans hB hk)⟩
theorem Keepm.of_kp {B : Nat} {X Y : World} {S : Nat → Prop} (h : Kp X Y S) (hs : ∀ k, S k → k < B ∨ ∃ cs t fr, X.heap[k]? = some (.cells cs t fr)) : Keepm B X Y :=
  ⟨h.size, fun k o hk ho hn => (h.blk k (Array.getElem?_eq_some_iff.1 ho).1 (fun hS => by
    rcases hs k hS with h1 | ⟨cs, t, fr, h1⟩
    · omega
    · rw [ho] at h1; simp only [Option.some.injEq] at h1; exact hn cs t fr h1)).trans ho⟩

/-- What a round keeps: the blocks of X, and every block of cells of a type in T. -/
def Kq (X : Nat → Prop) (T : TypeId → Prop) (W W' : World) : Prop := Kp W W' (fun k => ¬ X k ∧ ∀ cs t fr, W.heap[k]? = some (.cells cs t fr) → ¬ T t)
theorem Kq.trans {X : Nat → Prop} {T : TypeId → Prop} {A B C : World} (h : Kq X T A B) (k : Kq X T B C) : Kq X T A C := by
  refine ⟨k.os.trans h.os, k.tape.trans h.tape, k.output.trans h.output, Nat.le_trans h.size k.size, fun i hi hn => ?_⟩
  have e1 := h.blk i hi hn
  have e2 := k.blk i (Nat.lt_of_lt_of_le hi h.size) (fun hs => hn ⟨hs.1, fun cs t fr hc => hs.2 cs t fr (e1.trans hc)⟩)
  exact e2.trans e1
theorem Kq.refl (X : Nat → Prop) (T : TypeId → Prop) (W : World) : Kq X T W W := Kp.refl _ _
theorem Kq.mono {X X' : Nat → Prop} {T T' : TypeId → Prop} {A B : World} (h : Kq X T A B) (hX : ∀ k, X' k → X k) (hT : ∀ t, T' t → T t) : Kq X' T' A B :=
  Kp.mono h (fun k q => ⟨fun hx => q.1 (hX k hx), fun cs t fr hc ht => q.2 cs t fr hc (hT t ht)⟩)
theorem Kq.blk {X : Nat → Prop} {T : TypeId → Prop} {W W' : World} (h : Kq X T W W') {g : Nat} {cs : Array Value} {t : TypeId} (hb : Blk W g cs t) (ht : T t) : Blk W' g cs t :=
  Blk.kp hb h (fun hs => hs.2 _ _ _ hb ht)
theorem Kq.blkX {X : Nat → Prop} {T : TypeId → Prop} {W W' : World} (h : Kq X T W W') {g : Nat} {cs : Array Value} {t : TypeId} (hb : Blk W g cs t) (ht : X g) : Blk W' g cs t :=
  Blk.kp hb h (fun hs => hs.1 ht)
theorem Kq.of_kp {X : Nat → Prop} {T : TypeId → Prop} {W W' : World} (h : Kp W W' (fun _ => False)) : Kq X T W W' := h.mono (fun _ h => h.elim)
theorem Kq.of_kp' {X : Nat → Prop} {T : TypeId → Prop} {W W' : World} {S : Nat → Prop} (h : Kp W W' S) (hS : ∀ k, S k → ¬ X k ∧ ∀ cs t fr, W.heap[k]? = some (.cells cs t fr) → ¬ T t) : Kq X T W W' := h.mono hS

/-- The iterator g (with what it captured) goes through just L, in order, or through a part, the last round having said no. E: what a round is handed. T1: the types of cells that it may write between rounds; X, T2: what it asks a round to keep. -/
def SeqL {α : Type} (F : Fence) (P : Program) (g : Nat) (lb : Array Value) (E : World → α → World → Array Value → Prop) (T1 : TypeId → Prop) (X : Nat → Prop) (T2 : TypeId → Prop) (L : List α) (w : World) : Prop :=
  ∀ (n l : Nat) (J Jx : List α → World → Prop) (W : World), Below w.heap.size w W → Still W.heap.size T1 J → Still W.heap.size T1 Jx →
    (∀ m pre x args W1, J pre W1 → pre ++ [x] <+: L → E W x W1 args → YieldAt F m P l args W1 fun e W' =>
      (e = .returned (.bool true) ∧ J (pre ++ [x]) W' ∧ Kq X T2 W1 W' ∧ Keepm W.heap.size W1 W') ∨ (e = .returned (.bool false) ∧ Jx (pre ++ [x]) W' ∧ Keepm W.heap.size W1 W')) →
    J [] W →
    CallsIn F n P g (#[.func (.yield l) #[] #[]] ++ lb) W fun e W' => (∃ v, e = .returned v) ∧ (J L W' ∨ ∃ pre, pre <+: L ∧ Jx pre W')

/-- The fence lets everything in (hidden from the walk). -/
def IsWide (F : Fence) : Prop := F = Fence.wide
theorem cin {F : Fence} {n : Nat} {P : Program} {f : FuncId} {args : Array Value} {w : World} {R : Ending → World → Prop} (hF : IsWide F) (h : Calls P f args w R) : CallsIn F n P f args w R := by
  unfold IsWide at hF; subst hF
  exact callsIn_wide.2 h
theorem cinR {F : Fence} {n l : Nat} {P : Program} {f : FuncId} {args : Array Value} {w : World} {R : Ending → World → Prop} (hF : IsWide F) (h : Calls P f args w R) : CallsIn (F.inRound l) n P f args w R :=
  (cin hF h).inRound l
theorem cout {F : Fence} {P : Program} {f : FuncId} {args : Array Value} {w : World} {R : Ending → World → Prop} (n : Nat) (hF : IsWide F) (h : CallsIn F n P f args w R) : Calls P f args w R := by
  unfold IsWide at hF; subst hF
  exact callsIn_wide.1 h
theorem wide_fn {F : Fence} (hF : IsWide F) (k : Nat) : F.fn k := by unfold IsWide at hF; subst hF; trivial
theorem wide_ro {F : Fence} (hF : IsWide F) : F.round = none := by unfold IsWide at hF; subst hF; rfl
theorem wide_de {F : Fence} (hF : IsWide F) : F.depth = none := by unfold IsWide at hF; subst hF; rfl
theorem roundIn_any {F : Fence} (hd : F.depth = none) {m : Nat} (m' : Nat) {P : Program} {l : Nat} {f : FuncId} {tmps : Array Value} {assign body : Code} {w : World} {R : Ending → World → Prop} (h : RoundIn F m P l f tmps assign body w R) : RoundIn F m' P l f tmps assign body w R :=
  ⟨h.1, fun c cs _ => h.2 c cs (by simp [Fence.room, hd])⟩

theorem Turn.put {B : Nat} {T : TypeId → Prop} {W : World} {l : Nat} {o : Obj} (o' : Obj) (hB : B ≤ l) (h : W.heap[l]? = some o) (hn : NotCells o) : Turn B T W (W.putObj l o') :=
  (Kp.of_grown (grownBy_putObj' W l o')).mono (fun k hk => by
    simp only [Option.some.injEq] at hk
    subst hk
    exact ⟨hB, fun cs t fr h2 => by rw [h] at h2; simp only [Option.some.injEq] at h2; exact (hn cs t fr h2).elim⟩)
theorem Turn.alloc (B : Nat) (T : TypeId → Prop) (W : World) (o : Obj) : Turn B T W (W.alloc o) := ((Kp.refl W (fun _ => False)).alloc o).mono (fun _ h => h.elim)
theorem Turn.kp {B : Nat} {T : TypeId → Prop} {W W' : World} (h : Kp W W' (fun _ => False)) : Turn B T W W' := h.mono (fun _ h => h.elim)
theorem Turn.mono {B B' : Nat} {T T' : TypeId → Prop} {W W' : World} (h : Turn B T W W') (hB : B' ≤ B) (hT : ∀ t, T t → T' t) : Turn B' T' W W' :=
  Kp.mono h (fun k q => ⟨Nat.le_trans hB q.1, fun cs t fr hc => hT t (q.2 cs t fr hc)⟩)
theorem Turn.same {B : Nat} {T : TypeId → Prop} {W W' : World} (h : Turn B T W W') {k : Nat} {o : Obj} (ho : W.heap[k]? = some o) (hk : k < B) : W'.heap[k]? = some o :=
  (h.blk k (Array.getElem?_eq_some_iff.1 ho).1 (fun q => by have := q.1; omega)).trans ho
theorem Turn.blk {B : Nat} {T : TypeId → Prop} {W W' : World} (h : Turn B T W W') {g : Nat} {cs : Array Value} {t : TypeId} (hb : Blk W g cs t) (ht : ¬ T t) : Blk W' g cs t := Blk.kp hb h (fun q => ht (q.2 _ _ _ hb))
theorem Turn.row {B : Nat} {T : TypeId → Prop} {W W' : World} (h : Turn B T W W') {e : TypeId} {sz : Nat} {A : Option Addr} {n c : Nat} {xs : List Value} {r : Option Nat} (hb : Row W e sz A n c xs r) (ht : ¬ T e) : Row W' e sz A n c xs r := by
  refine hb.kp h (fun k hk q => ?_)
  rcases hb.2 with ⟨_, _, _, h1⟩ | ⟨g, cur, _, h1, hg, _⟩
  · rw [h1] at hk; simp at hk
  · rw [h1] at hk; simp only [Option.some.injEq] at hk; subst hk; exact ht (q.2 _ _ _ hg)
theorem Kq.turn {X : Nat → Prop} {T T1 : TypeId → Prop} {B : Nat} {V V' : World} (hX : ∀ k, X k → k < B) (hT : ∀ t, T1 t → ¬ T t) (h : Turn B T1 V V') : Kq X T V V' :=
  Kp.mono h (fun k hk => ⟨fun hx => by have := hX k hx; have := hk.1; omega, fun cs t fr h2 => hT t (hk.2 cs t fr h2)⟩)
theorem Row.cellsAt {w : World} {e : TypeId} {sz : Nat} {A : Option Addr} {n c : Nat} {xs : List Value} {r : Option Nat} (h : Row w e sz A n c xs r) {k : Nat} (hk : r = some k) : ∃ cur, w.heap[k]? = some (.cells cur e (0, 0)) := by
  rcases h.2 with ⟨_, _, _, h1⟩ | ⟨g, cur, _, h1, hg, _⟩
  · rw [h1] at hk; simp at hk
  · rw [h1] at hk; simp only [Option.some.injEq] at hk; subst hk; exact ⟨cur, hg⟩

def RoundPost {α : Type} (B : Nat) (X : Nat → Prop) (T2 : TypeId → Prop) (I : List α → World → Prop) (Ix : Code → List α → World → Prop) (xs : List α) (W : World) : Exit → Act → World → Prop
  | .normal, _, W' => Keepm B W W' ∧ Kq X T2 W W' ∧ I xs W'
  | .ret, _, W' => Keepm B W W' ∧ Ix .ret xs W'
  | .exit id, _, W' => Keepm B W W' ∧ Ix (.exit id) xs W'
  | .goto t, _, W' => Keepm B W W' ∧ Ix (.goto t) xs W'
  | .panic _, _, _ => False
  | .outgrown, _, _ => False

/-- THE LAW OF 'for x := range g': g goes through L. -/
theorem range_law {P : Program} {F : Fence} (hF : IsWide F) {n : Nat} {α : Type} {g : Operand} {ps : Array Tmp} {assign body : Code} {Q : Exit → Act → World → Prop} {a : Act} {w : World}
    {gf : Nat} {lb : Array Value} (hg : a.eval g = .func (.func gf) #[] lb) (eg : ∀ args w, (callFunc gf args).run P w = .ok (.enter gf args) w)
    {E : World → α → World → Array Value → Prop} {T1 : TypeId → Prop} {X : Nat → Prop} {T2 : TypeId → Prop} {L : List α} {w0 : World} (hseq : SeqL F P gf lb E T1 X T2 L w0)
    (hXb : ∀ k, X k → k < w.heap.size) (hT : ∀ t, T1 t → T2 t) (hb0 : Below w0.heap.size w0 w) (hps : ∀ V x W args, E V x W args → args.size = ps.size)
    (I : List α → World → Prop) (Ix : Code → List α → World → Prop) (hI : Still w.heap.size T1 I) (hIx : ∀ c, Still w.heap.size T1 (Ix c)) (h0 : I [] w)
    (Ax : α → Act → World → Prop) (hAx : ∀ x a', Still w.heap.size (fun _ => False) (fun (_ : Unit) W => Ax x a' W))
    (hassign : ∀ (l : Nat) (pre : List α) (x : α) (V : World) (args : Array Value) (W : World) (K : Act → World → Prop), I pre W → pre ++ [x] <+: L → Below w.heap.size w V → E V x W args → (∀ a' W', Keepm w.heap.size W W' → Kq X T2 W W' → I pre W' → Ax x a' W' → K a' W') →
      assign.wpIn (F.inRound l) (n - 1 - 1) P (Exit.then K (fun _ _ _ => False)) { tmps := (ps.zip args).foldl (fun t (p, v) => t.setIfInBounds p v) a.tmps, defers := [] } W)
    (hbody : ∀ (l : Nat) (pre : List α) (x : α) (a' : Act) (W : World), w.heap.size ≤ l → (∃ r, W.heap[l]? = some (.loop r)) → I pre W → pre ++ [x] <+: L → Ax x a' W → body.wpIn (F.inRound l) (n - 1 - 1) P (RoundPost w.heap.size X T2 I Ix (pre ++ [x]) W) a' W)
    (hdone : ∀ (D : Nat) (W : World), w.heap.size ≤ D → I L W → W.heap[D]? = some (.deferred (some [])) → Q .normal { a with defers := { target := .collected D, args := #[] } :: a.defers } W)
    (hstop : ∀ (D : Nat) (c : Code) (pre : List α) (W : World), w.heap.size ≤ D → pre <+: L → Ix c pre W → W.heap[D]? = some (.deferred (some [])) → c.wpIn F n P Q { a with defers := { target := .collected D, args := #[] } :: a.defers } W) :
    (Code.rangeFunc g ps assign body).wpIn F n P Q a w := by
  have hro := wide_ro hF
  have hde := wide_de hF
  refine wpIn_rangeFunc ?_
  intro fn hfn
  rw [hro]
  -- the loop's record, in each of its states; the world in which the iterator is called
  let rec_ : LoopState → Option Code → Loop := fun st pe => { state := st, pending := pe, fn, tmps := a.tmps, params := ps, assign, body, defers := w.heap.size }
  have hnl : ∀ r, NotCells (.loop r) := fun r cs t fr h => by simp at h
  have hnd : ∀ d, NotCells (.deferred d) := fun d cs t fr h => by simp at h
  have hent := run_enterLoop_outer (P := P) (w := w) fn a.tmps ps assign body
  obtain ⟨W1, hW1⟩ : ∃ W1, (w.alloc (.deferred (some []))).alloc (.loop (rec_ .ready none)) = W1 := ⟨_, rfl⟩
  have hL1 : W1.heap[w.heap.size + 1]? = some (.loop (rec_ .ready none)) := by
    rw [← hW1]
    have := heap_alloc_new (w.alloc (.deferred (some []))) (.loop (rec_ .ready none))
    rwa [World.size_alloc] at this
  have hK1 : W1.heap[w.heap.size]? = some (.deferred (some [])) := by
    rw [← hW1]
    exact (Below.heap_alloc _ _ _ (by simp)).trans (heap_alloc_new w _)
  have hs1 : W1.heap.size = w.heap.size + 2 := by rw [← hW1]; simp
  have hI1 : I [] W1 := by rw [← hW1]; exact hI _ _ _ (hI _ _ _ h0 (Turn.alloc _ _ _ _)) (Turn.alloc _ _ _ _)
  have hb1 : Below w0.heap.size w0 W1 := by
    rw [← hW1]
    exact (hb0.alloc hb0.size _).alloc (by have := hb0.size; simp; omega) _
  have hbw : Below w.heap.size w W1 := by
    rw [← hW1]
    exact ((Below.refl _ w).alloc (Nat.le_refl _) _).alloc (by simp) _
  refine ⟨w.heap.size + 1, [{ target := .collected w.heap.size, args := #[] }], W1, { target := .fn (.func gf) lb, args := #[.func (.yield (w.heap.size + 1)) #[] #[]] }, W1, gf,
    #[.func (.yield (w.heap.size + 1)) #[] #[]] ++ lb, W1, by rw [← hW1]; exact hent, by simp only [resolve, hg]; simp [go_sem], ?_, by simp [invoke, go_sem, eg], fun h => by rw [hde] at h; simp at h, ?_⟩
  · intro f' hf'
    exact wide_fn hF _
  have ht1 : ∀ {Y Z : World}, Turn W1.heap.size T1 Y Z → Turn w.heap.size T1 Y Z := fun h => h.mono (by omega) (fun _ h => h)
  have hKb : ∀ {Y Z : World}, Turn w.heap.size (fun _ => False) Y Z → Kq X T2 Y Z := fun h => Kq.turn hXb (fun _ h => h.elim) h
  have up : ∀ {Y Z : World}, Turn w.heap.size (fun _ => False) Y Z → Turn w.heap.size T1 Y Z := fun h => h.mono (Nat.le_refl _) (fun _ h => h.elim)
  refine (hseq (n - 1) (w.heap.size + 1)
    (fun pre W => I pre W ∧ W.heap[w.heap.size + 1]? = some (.loop (rec_ .ready none)) ∧ W.heap[w.heap.size]? = some (.deferred (some [])))
    (fun pre W => ∃ c, Ix c pre W ∧ W.heap[w.heap.size + 1]? = some (.loop (rec_ .done (some c))) ∧ W.heap[w.heap.size]? = some (.deferred (some [])))
    W1 hb1 ?_ ?_ ?_ ⟨hI1, hL1, hK1⟩).mono ?_
  · rintro s Y Z ⟨q1, q2, q3⟩ ht
    exact ⟨hI s Y Z q1 (ht1 ht), ht.same q2 (by omega), ht.same q3 (by omega)⟩
  · rintro s Y Z ⟨c, q1, q2, q3⟩ ht
    exact ⟨c, hIx c s Y Z q1 (ht1 ht), ht.same q2 (by omega), ht.same q3 (by omega)⟩
  · rintro m pre x args W ⟨hi, hl, hk⟩ hpx hE
    have hy := run_yield (P := P) (args := args) hl (hps _ _ _ _ hE)
    refine ⟨fn, _, assign, body, hy, roundIn_any hde m (roundIn_of_wpIn hfn (hassign _ pre x W1 args W _ hi hpx hbw hE ?_))⟩
    intro a' W2 hk2 hr2 hi2 ha2
    have hl2 := hk2.2 _ _ (by omega) hl (hnl _)
    have hd2 := hk2.2 _ _ (Nat.le_refl _) hk (hnd _)
    refine ⟨_, run_beginRound hl2 rfl, ?_⟩
    have t3 : Turn w.heap.size (fun _ => False) W2 (W2.putObj (w.heap.size + 1) (.loop (rec_ .busy none))) := Turn.put _ (by omega) hl2 (hnl _)
    have hl3 : (W2.putObj (w.heap.size + 1) (.loop (rec_ .busy none))).heap[w.heap.size + 1]? = some (.loop (rec_ .busy none)) := World.putObj_heap_same (Array.getElem?_eq_some_iff.1 hl2).1
    have hd3 : (W2.putObj (w.heap.size + 1) (.loop (rec_ .busy none))).heap[w.heap.size]? = some (.deferred (some [])) := (World.putObj_heap_other (by omega)).trans hd2
    have hb := hbody _ pre x a' _ (show w.heap.size ≤ w.heap.size + 1 by omega) ⟨_, hl3⟩ (hI _ _ _ hi2 (up t3)) hpx (hAx x a' () _ _ ha2 t3)
    refine wpIn_mono hb ?_
    have km : ∀ {Y Z : World}, Keepm w.heap.size Y Z → Keepm W1.heap.size Y Z := fun h => h.mono (by omega)
    have kput : ∀ (Y : World) (o o' : Obj), Y.heap[w.heap.size + 1]? = some o → Keepm W1.heap.size Y (Y.putObj (w.heap.size + 1) o') := fun Y o o' h =>
      ⟨by simp, fun k u hk hu _ => (World.putObj_heap_other (by omega)).trans hu⟩
    have hfin : ∀ (jump : Option Code) (W4 : World), Keepm w.heap.size (W2.putObj (w.heap.size + 1) (.loop (rec_ .busy none))) W4 →
        ∃ W5, (Instr.endRound (w.heap.size + 1) jump).run P W4 = .ok (.bool jump.isNone) W5 ∧ (Turn w.heap.size (fun _ => False) W4 W5 ∧ Keepm W1.heap.size W W5) ∧
          W5.heap[w.heap.size + 1]? = some (.loop (rec_ (if jump.isNone then .ready else .done) jump)) ∧ W5.heap[w.heap.size]? = some (.deferred (some [])) := by
      intro jump W4 hk4
      have hl4 := hk4.2 _ _ (by omega) hl3 (hnl _)
      have hd4 := hk4.2 _ _ (Nat.le_refl _) hd3 (hnd _)
      exact ⟨_, run_endRound (P := P) jump hl4, ⟨Turn.put _ (by omega) hl4 (hnl _), (km hk2).trans ((kput _ _ _ hl2).trans ((km hk4).trans (kput _ _ _ hl4)))⟩, World.putObj_heap_same (Array.getElem?_eq_some_iff.1 hl4).1, (World.putObj_heap_other (by omega)).trans hd4⟩
    rintro e a4 W4 hp
    cases e with
    | normal =>
      obtain ⟨p1, p2, p3⟩ := hp
      obtain ⟨W5, r1, ⟨r2, rk⟩, r3, r4⟩ := hfin none W4 p1
      exact ⟨_, _, r1, .inl ⟨rfl, ⟨hI _ _ _ p3 (up r2), r3, r4⟩, hr2.trans ((hKb t3).trans (p2.trans (hKb r2))), rk⟩⟩
    | ret =>
      obtain ⟨p1, p3⟩ := hp
      obtain ⟨W5, r1, ⟨r2, rk⟩, r3, r4⟩ := hfin (some .ret) W4 p1
      exact ⟨_, _, r1, .inr ⟨rfl, ⟨_, hIx _ _ _ _ p3 (up r2), r3, r4⟩, rk⟩⟩
    | exit id =>
      obtain ⟨p1, p3⟩ := hp
      obtain ⟨W5, r1, ⟨r2, rk⟩, r3, r4⟩ := hfin (some (.exit id)) W4 p1
      exact ⟨_, _, r1, .inr ⟨rfl, ⟨_, hIx _ _ _ _ p3 (up r2), r3, r4⟩, rk⟩⟩
    | goto t =>
      obtain ⟨p1, p3⟩ := hp
      obtain ⟨W5, r1, ⟨r2, rk⟩, r3, r4⟩ := hfin (some (.goto t)) W4 p1
      exact ⟨_, _, r1, .inr ⟨rfl, ⟨_, hIx _ _ _ _ p3 (up r2), r3, r4⟩, rk⟩⟩
    | panic ch => exact hp.elim
    | outgrown => exact hp.elim
  · rintro e W2 ⟨⟨v, rfl⟩, (⟨hi, hl, hk⟩ | ⟨pre, hSp, c, hi, hl, hk⟩)⟩
    · refine ⟨none, _, run_endLoop (P := P) hl (by simp [rec_]), hdone _ _ (Nat.le_refl _) (hI _ _ _ hi (Turn.put _ (by omega) hl (hnl _))) ((World.putObj_heap_other (by omega)).trans hk)⟩
    · refine ⟨some c, _, run_endLoop (P := P) hl (by simp [rec_]), hstop _ c pre _ (Nat.le_refl _) hSp (hIx c _ _ _ hi (Turn.put _ (by omega) hl (hnl _))) ((World.putObj_heap_other (by omega)).trans hk)⟩

/-- The law in a plain walk. -/
theorem range_wp {P : Program} {α : Type} {g : Operand} {ps : Array Tmp} {assign body : Code} {Q : Exit → Act → World → Prop} {a : Act} {w : World}
    {gf : Nat} {lb : Array Value} (hg : a.eval g = .func (.func gf) #[] lb) (eg : ∀ args w, (callFunc gf args).run P w = .ok (.enter gf args) w)
    {E : World → α → World → Array Value → Prop} {T1 : TypeId → Prop} {X : Nat → Prop} {T2 : TypeId → Prop} {L : List α} {w0 : World} (hseq : ∀ F, IsWide F → SeqL F P gf lb E T1 X T2 L w0)
    (hXb : ∀ k, X k → k < w.heap.size) (hT : ∀ t, T1 t → T2 t) (hb0 : Below w0.heap.size w0 w) (hps : ∀ V x W args, E V x W args → args.size = ps.size)
    (I : List α → World → Prop) (Ix : Code → List α → World → Prop) (hI : Still w.heap.size T1 I) (hIx : ∀ c, Still w.heap.size T1 (Ix c)) (h0 : I [] w)
    (Ax : α → Act → World → Prop) (hAx : ∀ x a', Still w.heap.size (fun _ => False) (fun (_ : Unit) W => Ax x a' W))
    (hassign : ∀ (F : Fence) (l : Nat) (pre : List α) (x : α) (U : World) (args : Array Value) (W : World) (K : Act → World → Prop), IsWide F → I pre W → pre ++ [x] <+: L → Below w.heap.size w U → E U x W args → (∀ a' W', Keepm w.heap.size W W' → Kq X T2 W W' → I pre W' → Ax x a' W' → K a' W') →
      assign.wpIn (F.inRound l) 0 P (Exit.then K (fun _ _ _ => False)) { tmps := (ps.zip args).foldl (fun t (p, v) => t.setIfInBounds p v) a.tmps, defers := [] } W)
    (hbody : ∀ (F : Fence) (l : Nat) (pre : List α) (x : α) (a' : Act) (W : World), IsWide F → F.depth = none → w.heap.size ≤ l → (∃ r, W.heap[l]? = some (.loop r)) → I pre W → pre ++ [x] <+: L → Ax x a' W → body.wpIn (F.inRound l) 0 P (RoundPost w.heap.size X T2 I Ix (pre ++ [x]) W) a' W)
    (hdone : ∀ (D : Nat) (W : World), w.heap.size ≤ D → I L W → W.heap[D]? = some (.deferred (some [])) → Q .normal { a with defers := { target := .collected D, args := #[] } :: a.defers } W)
    (hstop : ∀ (D : Nat) (c : Code) (pre : List α) (W : World), w.heap.size ≤ D → pre <+: L → Ix c pre W → W.heap[D]? = some (.deferred (some [])) → c.wp P Q { a with defers := { target := .collected D, args := #[] } :: a.defers } W) :
    (Code.rangeFunc g ps assign body).wp P Q a w := by
  have hF : IsWide Fence.wide := rfl
  exact wpIn_wide.1 (range_law (n := 0) hF hg eg (hseq _ hF) hXb hT hb0 hps I Ix hI hIx h0 Ax hAx (fun l pre x V args W K h1 h2 h3 h4 h5 => hassign _ l pre x V args W K hF h1 h2 h3 h4 h5)
    (fun l pre x a' W h1 h2 h3 h4 h5 => hbody _ l pre x a' W hF rfl h1 h2 h3 h4 h5) hdone (fun D c pre W h1 h2 h3 h4 => wpIn_wide.2 (hstop D c pre W h1 h2 h3 h4)))

/-- .. where nothing is assigned. -/
theorem range_wp0 {P : Program} {α : Type} {g : Operand} {ps : Array Tmp} {body : Code} {Q : Exit → Act → World → Prop} {a : Act} {w : World}
    {gf : Nat} {lb : Array Value} (hg : a.eval g = .func (.func gf) #[] lb) (eg : ∀ args w, (callFunc gf args).run P w = .ok (.enter gf args) w)
    (enc : α → Array Value) {T1 : TypeId → Prop} {X : Nat → Prop} {T2 : TypeId → Prop} {L : List α} {w0 : World} (hseq : ∀ F, IsWide F → SeqL F P gf lb (fun _ x _ args => args = enc x) T1 X T2 L w0)
    (hXb : ∀ k, X k → k < w.heap.size) (hT : ∀ t, T1 t → T2 t) (hb0 : Below w0.heap.size w0 w) (hps : ∀ x, (enc x).size = ps.size)
    (I : List α → World → Prop) (Ix : Code → List α → World → Prop) (hI : Still w.heap.size T1 I) (hIx : ∀ c, Still w.heap.size T1 (Ix c)) (h0 : I [] w)
    (hbody : ∀ (F : Fence) (l : Nat) (pre : List α) (x : α) (W : World), IsWide F → F.depth = none → w.heap.size ≤ l → (∃ r, W.heap[l]? = some (.loop r)) → I pre W → pre ++ [x] <+: L → body.wpIn (F.inRound l) 0 P (RoundPost w.heap.size X T2 I Ix (pre ++ [x]) W) { tmps := (ps.zip (enc x)).foldl (fun t (p, v) => t.setIfInBounds p v) a.tmps, defers := [] } W)
    (hdone : ∀ (D : Nat) (W : World), w.heap.size ≤ D → I L W → W.heap[D]? = some (.deferred (some [])) → Q .normal { a with defers := { target := .collected D, args := #[] } :: a.defers } W)
    (hstop : ∀ (D : Nat) (c : Code) (pre : List α) (W : World), w.heap.size ≤ D → pre <+: L → Ix c pre W → W.heap[D]? = some (.deferred (some [])) → c.wp P Q { a with defers := { target := .collected D, args := #[] } :: a.defers } W) :
    (Code.rangeFunc g ps .skip body).wp P Q a w := by
  refine range_wp hg eg hseq hXb hT hb0 (fun _ x _ args h => by rw [h]; exact hps x) I Ix hI hIx h0
    (fun x a' _ => a' = { tmps := (ps.zip (enc x)).foldl (fun t (p, v) => t.setIfInBounds p v) a.tmps, defers := [] }) (fun _ _ _ _ _ h _ => h) ?_ ?_ hdone hstop
  · rintro F l pre x U args W K hF hi _ _ rfl hK
    exact wpIn_skip (hK _ _ (Keepm.refl _ _) (Kq.refl _ _ _) hi rfl)
  · rintro F l pre x a' W h1 h2 h3 h4 h5 h6 rfl
    exact hbody F l pre x W h1 h2 h3 h4 h5 h6

theorem Kp.turn {w W W' : World} {B : Nat} {T : TypeId → Prop} (h : Kp w W (fun _ => False)) (ht : Turn B T W W') (hB : w.heap.size ≤ B) : Kp w W' (fun _ => False) :=
  Kp.trans h ht (fun k hk => .inr (by have := hk.1; omega))

theorem Blk.putObj {w : World} {g : Nat} {cs : Array Value} {t : TypeId} (h : Blk w g cs t) {D : Nat} (o : Obj) (hne : g ≠ D) : Blk (w.putObj D o) g cs t := (World.putObj_heap_other hne).trans h
theorem Kp.putObj {w W : World} {D : Nat} (h : Kp w W (fun _ => False)) (o : Obj) (hD : w.heap.size ≤ D) : Kp w (W.putObj D o) (fun _ => False) :=
  h.trans (Kp.of_grown (grownBy_putObj' W D o)) (fun k hk => .inr (by simp only [Option.some.injEq] at hk; omega))
theorem deferred_set {W : World} {D : Nat} {o : Obj} (hK : W.heap[D]? = some o) {p : Addr} (hne : D ≠ p.block) (u : Value) : (W.setCell p u).heap[D]? = some o := (Below.heap_setCell _ _ _ _ hne).trans hK

/-- A function whose body holds a range over a function. -/
theorem calls_of_wp_marks {P : Program} {f : FuncId} {fn : Func} {c : Code} {args : Array Value} {w : World} {R : Ending → World → Prop}
    (hf : P.funcs[f]? = some fn) (hb : fn.body = some c)
    (h : c.wp P (bodyPostM Fence.wide 0 P fn R) { tmps := args ++ Array.replicate (fn.ntmps - args.size) undef, defers := [] } w) : Calls P f args w R :=
  callsIn_wide.1 (callsIn_of_wp_marks (F := Fence.wide) (n := 0) hf hb trivial (wpIn_wide.2 h))
theorem marks_ret0 {P : Program} {fn : Func} {R : Ending → World → Prop} {tmps : Array Value} {W : World} {v : Value} (h : (results fn tmps).run P W = .ok v W) (hR : R (.returned v) W) :
    bodyPostM Fence.wide 0 P fn R .ret { tmps := tmps, defers := [] } W := ⟨_, h, hR⟩
/-- Its return, the loop's deferred block being empty. -/
theorem marks_ret {P : Program} {fn : Func} {R : Ending → World → Prop} {tmps : Array Value} {D : Nat} {W : World} (hK : W.heap[D]? = some (.deferred (some [])))
    (h : ∃ v, (results fn tmps).run P (W.putObj D (.deferred none)) = .ok v (W.putObj D (.deferred none)) ∧ R (.returned v) (W.putObj D (.deferred none))) :
    LeavesInM Fence.wide 0 P fn tmps R [{ target := .collected D, args := #[] }] .returning W :=
  ⟨by simp, .inl ⟨_, _, rfl, run_takeDeferred hK, h⟩⟩

end Go.Proofs.YtkameiopahcacaaDoor
