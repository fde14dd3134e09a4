/- 'for x := range g' where x is a plain slot: the law with the frame found by the walk. Condition: as said in the law. -/
import Derived.Test.YtkameiopahcacaaDoorSeqIt
set_option linter.unusedVariables false
set_option linter.unusedSimpArgs false
namespace Go.Proofs.YtkameiopahcacaaDoor
open Go.RowKit Go.Shelf

theorem range_wpA {P : Program} {α : Type} {g : Operand} {ps : Array Tmp} {assign body : Code} {Q : Exit → Act → World → Prop} {a : Act} {w : World}
    {gf : Nat} {lb : Array Value} (hg : a.eval g = .func (.func gf) #[] lb) (eg : ∀ args w, (callFunc gf args).run P w = .ok (.enter gf args) w)
    (enc : α → Array Value) {T1 : TypeId → Prop} {X : Nat → Prop} {T2 : TypeId → Prop} {L : List α} {w0 : World} (hseq : ∀ F, IsWide F → SeqL F P gf lb (fun _ x _ args => args = enc x) T1 X T2 L w0)
    (hXb : ∀ k, X k → k < w.heap.size) (hT : ∀ t, T1 t → T2 t) (hb0 : Below w0.heap.size w0 w) (hps : ∀ x, (enc x).size = ps.size)
    (I : List α → World → Prop) (Ix : Code → List α → World → Prop) (hI : Still w.heap.size T1 I) (hIx : ∀ c, Still w.heap.size T1 (Ix c)) (h0 : I [] w)
    (hab : ∃ tm : α → Act, (∀ (F : Fence) (l : Nat) (x : α) (W : World) (K : Act → World → Prop), IsWide F → K (tm x) W →
        assign.wpIn (F.inRound l) 0 P (Exit.then K (fun _ _ _ => False)) { tmps := (ps.zip (enc x)).foldl (fun t (p, v) => t.setIfInBounds p v) a.tmps, defers := [] } W) ∧
      ∀ (F : Fence) (l : Nat) (pre : List α) (x : α) (W : World), IsWide F → F.depth = none → w.heap.size ≤ l → (∃ r, W.heap[l]? = some (.loop r)) → I pre W → pre ++ [x] <+: L →
        body.wpIn (F.inRound l) 0 P (RoundPost w.heap.size X T2 I Ix (pre ++ [x]) W) (tm x) W)
    (hdone : ∀ (D : Nat) (W : World), w.heap.size ≤ D → I L W → W.heap[D]? = some (.deferred (some [])) → Q .normal { a with defers := { target := .collected D, args := #[] } :: a.defers } W)
    (hstop : ∀ (D : Nat) (c : Code) (pre : List α) (W : World), w.heap.size ≤ D → pre <+: L → Ix c pre W → W.heap[D]? = some (.deferred (some [])) → c.wp P Q { a with defers := { target := .collected D, args := #[] } :: a.defers } W) :
    (Code.rangeFunc g ps assign body).wp P Q a w := by
  obtain ⟨tm, ha, hb⟩ := hab
  refine range_wp hg eg hseq hXb hT hb0 (fun _ x _ args h => by rw [h]; exact hps x) I Ix hI hIx h0 (fun x a' _ => a' = tm x) (fun _ _ _ _ _ h _ => h) ?_ ?_ hdone hstop
  · rintro F l pre x U args W K hF hi _ _ rfl hK
    exact ha F l x W K hF (hK _ _ (Keepm.refl _ _) (Kq.refl _ _ _) hi rfl)
  · rintro F l pre x a' W h1 h2 h3 h4 h5 h6 rfl
    exact hb F l pre x W h1 h2 h3 h4 h5 h6

/-- .. where x is laid in a box of its own each round. -/
theorem range_wpB {P : Program} {α : Type} {g : Operand} {ps : Array Tmp} {assign body : Code} {Q : Exit → Act → World → Prop} {a : Act} {w : World}
    {gf : Nat} {lb : Array Value} (hg : a.eval g = .func (.func gf) #[] lb) (eg : ∀ args w, (callFunc gf args).run P w = .ok (.enter gf args) w)
    (enc : α → Array Value) (cs : α → Array Value) (t : TypeId) {T1 : TypeId → Prop} {X : Nat → Prop} {T2 : TypeId → Prop} {L : List α} {w0 : World} (hseq : ∀ F, IsWide F → SeqL F P gf lb (fun _ x _ args => args = enc x) T1 X T2 L w0)
    (hXb : ∀ k, X k → k < w.heap.size) (hT : ∀ t, T1 t → T2 t) (hb0 : Below w0.heap.size w0 w) (hps : ∀ x, (enc x).size = ps.size)
    (I : List α → World → Prop) (Ix : Code → List α → World → Prop) (hI : Still w.heap.size T1 I) (hIx : ∀ c, Still w.heap.size T1 (Ix c)) (hIs : ∀ pre W, I pre W → w.heap.size ≤ W.heap.size) (h0 : I [] w)
    (hab : ∃ tm : α → Nat → Act, (∀ (F : Fence) (l : Nat) (x : α) (W : World) (K : Act → World → Prop), IsWide F → K (tm x W.heap.size) (W.alloc (.cells (cs x) t)) →
        assign.wpIn (F.inRound l) 0 P (Exit.then K (fun _ _ _ => False)) { tmps := (ps.zip (enc x)).foldl (fun t (p, v) => t.setIfInBounds p v) a.tmps, defers := [] } W) ∧
      ∀ (F : Fence) (l : Nat) (pre : List α) (x : α) (B : Nat) (W : World), IsWide F → F.depth = none → w.heap.size ≤ l → (∃ r, W.heap[l]? = some (.loop r)) → I pre W → pre ++ [x] <+: L → w.heap.size ≤ B → Blk W B (cs x) t →
        body.wpIn (F.inRound l) 0 P (RoundPost w.heap.size X T2 I Ix (pre ++ [x]) W) (tm x B) W)
    (hdone : ∀ (D : Nat) (W : World), w.heap.size ≤ D → I L W → W.heap[D]? = some (.deferred (some [])) → Q .normal { a with defers := { target := .collected D, args := #[] } :: a.defers } W)
    (hstop : ∀ (D : Nat) (c : Code) (pre : List α) (W : World), w.heap.size ≤ D → pre <+: L → Ix c pre W → W.heap[D]? = some (.deferred (some [])) → c.wp P Q { a with defers := { target := .collected D, args := #[] } :: a.defers } W) :
    (Code.rangeFunc g ps assign body).wp P Q a w := by
  obtain ⟨tm, ha, hb⟩ := hab
  refine range_wp hg eg hseq hXb hT hb0 (fun _ x _ args h => by rw [h]; exact hps x) I Ix hI hIx h0 (fun x a' W => ∃ B, w.heap.size ≤ B ∧ a' = tm x B ∧ Blk W B (cs x) t) ?_ ?_ ?_ hdone hstop
  · rintro x a' _ Y Z ⟨B, q1, q2, q3⟩ ht
    exact ⟨B, q1, q2, ht.blk q3 (fun h => h)⟩
  · rintro F l pre x U args W K hF hi _ _ rfl hK
    have hk : Kp W (W.alloc (.cells (cs x) t)) (fun _ => False) := (Kp.refl _ _).alloc _
    exact ha F l x W K hF (hK _ _ (Keepm.of_kp hk (fun _ h => h.elim)) (Kq.of_kp hk) (hI _ _ _ hi (Turn.kp hk)) ⟨_, hIs _ _ hi, rfl, Blk.new _ _ _⟩)
  · rintro F l pre x a' W h1 h2 h3 h4 h5 h6 ⟨B, q1, rfl, q3⟩
    exact hb F l pre x B W h1 h2 h3 h4 h5 h6 q1 q3

/-- append, in a round. -/
theorem wpListIn_app {F : Fence} {nF : Nat} {P : Program} {w : World} {ops : Array Oper} {rest : List Oper} {o : Oper} {a : Act} {Q : Exit → Act → World → Prop} (hgd : Region.wanted o (yielded ops a.tmps) = true) (s x : Operand) (t : TypeId)
    (ho : o.op = .call { callee := .builtin .append, args := #[s, x], argTypes := #[t, t] })
    (e : TypeId) (i : TypeInfo) (z : Value) (sz bytes : Nat) (ht : P.underlying t = some (.slice e)) (hi : P.info? e = some i) (hz : i.zero = some z)
    (hsize : i.size = sz) (hby : i.bytes = bytes) (hzs : z.cells.size = sz) (hsz : 0 < sz)
    (A : Option Addr) (n c : Nat) (xs : List Value) (r : Option Nat) (hs : a.eval s = .slice A n c) (hrow : Row w e sz A n c xs r)
    (B : Option Addr) (m d : Nat) (news : List Value) (hx : a.eval x = .slice B m d) (hrd : Rd w B m d news) (hl : news.length = m * sz) (h1 : ∀ u ∈ news, u.oneCell' = true)
    (N : Nat) (hN : n + m = N) (hbytes : N * bytes ≤ 140737488355328) (hmax : N ≤ maxLen)
    (h : ∀ A' c' r' w', Row w' e sz A' N c' (xs ++ news) r' → Kp w w' (fun k => r = some k) → Fr w r r' → (A' = none ↔ A = none ∧ m = 0) → wpListIn F nF P ops Q rest (a.put o.dst (.slice A' N c')) w') :
    wpListIn F nF P ops Q (o :: rest) a w := by
  subst hN
  obtain ⟨A', c', r', w', hr, q1, q2, q3, q4⟩ := run_app (P := P) (w := w) t o.type e i z sz bytes ht hi hz hsize hby hzs hsz A n c xs r hrow B m d news hrd hl h1 hbytes hmax
  have hK := h A' c' r' w' q1 q2 q3 q4
  unfold wpListIn
  rw [if_pos hgd]
  unfold Oper.wpIn
  refine ⟨by simp [Oper.about, ho, resolve, Target.leads, Sem.run_pure], ?_⟩
  rw [Oper.semAt_plain F _ _ (by rw [ho]; intro c hc'; cases hc')]
  simp [execOp, ho, resolve, invoke, builtin, hs, hx, hr, Result.andThen]
  exact hK

end Go.Proofs.YtkameiopahcacaaDoor
