/- Ranges: the loop variable laid in a box, what a round is handed having memory of its own; a region that draws its order within a round. Condition: as said in the laws. -/
import Derived.Test.YtkameiopahcacaaDoorSeqB
import Derived.Test.YtkameiopahcacaaDoorHeldE
import Derived.OrdersIn
set_option linter.unusedVariables false
set_option linter.unusedSimpArgs false
namespace Go.Proofs.YtkameiopahcacaaDoor
open Go.RowKit Go.Shelf

/-- Nothing is said of a machine that outgrows. -/
def Shuts (Q : Exit → Act → World → Prop) : Prop := ¬ LetsOut Q
/-- No operation defers. -/
def noDefer (ops : Array Oper) : Bool := ops.all fun o => match o.op with | .defer _ => false | _ => true
theorem noDefer_spec {ops : Array Oper} (h : noDefer ops = true) {i : Nat} {o : Oper} (ho : ops[i]? = some o) : ∀ c, o.op ≠ .defer c := by
  intro c hc
  unfold noDefer at h
  rw [Array.all_eq_true] at h
  obtain ⟨hi, he⟩ := Array.getElem?_eq_some_iff.1 ho
  have := h i hi
  rw [he, hc] at this
  simp at this

theorem rowsIn_any {F : Fence} {n l : Nat} {P : Program} {row : String} {args : Array Value} {w : World} {R : Value → World → Prop} (hF : IsWide F) (h : Rows P row args w R) : RowsIn (F.inRound l) n P row args w R := by
  unfold IsWide at hF; subst hF
  exact fun c cs _ => let ⟨v, w', r, s⟩ := h c cs; ⟨v, w', r, (stepsIn_wide.2 s : StepsIn (Machine.fenced P Fence.wide) P _ _)⟩

theorem wpOp_in {F : Fence} {l n : Nat} {P : Program} {ops : Array Oper} {Q : Exit → Act → World → Prop} (hF : IsWide F) (hQ : Shuts Q) (hnd : noDefer ops = true) {i : Nat} {K K' : Act → World → Prop} (hK : ∀ a w, K a w → K' a w) {a : Act} {w : World}
    (h : wpOp P ops Q i K a w) : wpOpIn (F.inRound l) n P ops Q i K' a w := by
  have hde := wide_de hF
  unfold wpOp at h
  unfold wpOpIn
  cases ho : ops[i]? with
  | none => rw [ho] at h; exact hK _ _ h
  | some o =>
    rw [ho] at h
    simp only at h ⊢
    split at h
    · rename_i hw
      rw [if_pos hw]
      rcases h with h | h
      · refine ⟨fun f _ => wide_fn hF f, ?_⟩
        rw [Oper.semAt_eq _ _ _ (noDefer_spec hnd ho)]
        unfold Oper.wp at h
        generalize (execOp a.eval o).run P w = r at *
        have hdn : (F.inRound l).depth.isSome = true → 1 ≤ n := fun h => by rw [Fence.inRound_depth, hde] at h; simp at h
        cases r with
        | ok x w' =>
          cases x <;> simp only [Oper.uponIn, Oper.upon] at h ⊢
            <;> first
              | exact hK _ _ h
              | exact h.elim
              | exact ⟨hdn, rowsIn_any hF (Rows.mono h fun _ _ he => hK _ _ he)⟩
              | (refine ⟨hdn, cinR hF (Calls.mono h fun e w'' he => ?_)⟩
                 cases e <;> first | exact hK _ _ he | exact he)
        | halt x w' => cases x <;> simp only [Oper.uponIn, Oper.upon] at h ⊢ <;> exact h
      · exact (hQ h.2).elim
    · rename_i hw
      rw [if_neg hw]
      exact ⟨fun f _ => wide_fn hF f, hK _ _ h⟩

theorem wpAny_in {F : Fence} {l n : Nat} {P : Program} {md : Region.Mode} {ops : Array Oper} {Q : Exit → Act → World → Prop} (hF : IsWide F) (hQ : Shuts Q) (hnd : noDefer ops = true) :
    ∀ (fuel : Nat) (listed : Array Bool) (a : Act) (w : World), wpAny P md ops Q fuel listed a w → wpAnyIn (F.inRound l) n P md ops Q fuel listed a w
  | 0, _, _, _, h => h
  | fuel + 1, listed, _, _, h => ⟨h.1, fun i hi => wpOp_in hF hQ hnd (fun a' w' h' => wpAny_in hF hQ hnd fuel _ a' w' h') (h.2 i hi)⟩

/-- A region that draws its order, in a round: whatever order is picked. -/
theorem wpIn_region_E {F : Fence} {l n : Nat} {P : Program} {ops : Array Oper} {Q : Exit → Act → World → Prop} (hF : IsWide F) (hQ : Shuts Q) (hnd : noDefer ops = true) (S : World → Prop) (E : List Nat) {id : Nat} {a : Act} {w : World} (hm : P.follows .mixedOrders = true) (hS : S w.drew)
    (h : S w.drew → wpAnyE P .any ops Q S E ops.size (Array.replicate ops.size false) a w.drew) : (Code.region id ops true).wpIn (F.inRound l) n P Q a w :=
  wpIn_region_any hm (wpAny_in hF hQ hnd _ _ _ _ (wpAny_of_E _ _ _ _ (h hS)))

/-- The law of a range where what a round is handed has memory of its own (y: where it lies; Gx: what is known of it), the loop variable laid in a box. -/
theorem range_wpC {P : Program} {α δ : Type} {g : Operand} {ps : Array Tmp} {assign body : Code} {Q : Exit → Act → World → Prop} {a : Act} {w : World}
    {gf : Nat} {lb : Array Value} (hg : a.eval g = .func (.func gf) #[] lb) (eg : ∀ args w, (callFunc gf args).run P w = .ok (.enter gf args) w)
    {E : World → α → World → Array Value → Prop} (enc : α → δ → Array Value) (cs : α → δ → Array Value) (t : TypeId) {T1 : TypeId → Prop} {X : Nat → Prop} {T2 : TypeId → Prop} {L : List α} {w0 : World} (hseq : ∀ F, IsWide F → SeqL F P gf lb E T1 X T2 L w0)
    (Gx : α → δ → World → Prop) (hGx : ∀ x y, Still w.heap.size (fun _ => False) (fun (_ : Unit) W => Gx x y W))
    (hXb : ∀ k, X k → k < w.heap.size) (hT : ∀ t, T1 t → T2 t) (hb0 : Below w0.heap.size w0 w) (hE : ∀ V x W args, Below w.heap.size w V → E V x W args → ∃ y, args = enc x y ∧ Gx x y W) (hps : ∀ V x W args, E V x W args → args.size = ps.size)
    (I : List α → World → Prop) (Ix : Code → List α → World → Prop) (hI : Still w.heap.size T1 I) (hIx : ∀ c, Still w.heap.size T1 (Ix c)) (hIs : ∀ pre W, I pre W → w.heap.size ≤ W.heap.size) (h0 : I [] w)
    (hab : ∃ tm : α → δ → Nat → Act, (∀ (F : Fence) (l : Nat) (x : α) (y : δ) (W : World) (K : Act → World → Prop), IsWide F → K (tm x y W.heap.size) (W.alloc (.cells (cs x y) t)) →
        assign.wpIn (F.inRound l) 0 P (Exit.then K (fun _ _ _ => False)) { tmps := (ps.zip (enc x y)).foldl (fun t (p, v) => t.setIfInBounds p v) a.tmps, defers := [] } W) ∧
      ∀ (F : Fence) (l : Nat) (pre : List α) (x : α) (y : δ) (B : Nat) (W : World), IsWide F → F.depth = none → w.heap.size ≤ l → (∃ r, W.heap[l]? = some (.loop r)) → I pre W → pre ++ [x] <+: L → w.heap.size ≤ B → Blk W B (cs x y) t → Gx x y W →
        body.wpIn (F.inRound l) 0 P (RoundPost w.heap.size X T2 I Ix (pre ++ [x]) W) (tm x y B) W)
    (hdone : ∀ (D : Nat) (W : World), w.heap.size ≤ D → I L W → W.heap[D]? = some (.deferred (some [])) → Q .normal { a with defers := { target := .collected D, args := #[] } :: a.defers } W)
    (hstop : ∀ (D : Nat) (c : Code) (pre : List α) (W : World), w.heap.size ≤ D → pre <+: L → Ix c pre W → W.heap[D]? = some (.deferred (some [])) → c.wp P Q { a with defers := { target := .collected D, args := #[] } :: a.defers } W) :
    (Code.rangeFunc g ps assign body).wp P Q a w := by
  obtain ⟨tm, ha, hb⟩ := hab
  refine range_wp hg eg hseq hXb hT hb0 hps I Ix hI hIx h0 (fun x a' W => ∃ y B, w.heap.size ≤ B ∧ a' = tm x y B ∧ Blk W B (cs x y) t ∧ Gx x y W) ?_ ?_ ?_ hdone hstop
  · rintro x a' _ Y Z ⟨y, B, q1, q2, q3, q4⟩ ht
    exact ⟨y, B, q1, q2, ht.blk q3 (fun h => h), hGx x y () _ _ q4 ht⟩
  · rintro F l pre x U args W K hF hi _ hU he hK
    obtain ⟨y, rfl, hy⟩ := hE _ _ _ _ hU he
    have hk : Kp W (W.alloc (.cells (cs x y) t)) (fun _ => False) := (Kp.refl _ _).alloc _
    exact ha F l x y W K hF (hK _ _ (Keepm.of_kp hk (fun _ h => h.elim)) (Kq.of_kp hk) (hI _ _ _ hi (Turn.kp hk)) ⟨y, _, hIs _ _ hi, rfl, Blk.new _ _ _, hGx x y () _ _ hy (Turn.kp hk)⟩)
  · rintro F l pre x a' W h1 h2 h3 h4 h5 h6 ⟨y, B, q1, rfl, q3, q4⟩
    exact hb F l pre x y B W h1 h2 h3 h4 h5 h6 q1 q3 q4

/-- .. where the loop variable is a plain slot (or several). -/
theorem range_wpD {P : Program} {α δ : Type} {g : Operand} {ps : Array Tmp} {assign body : Code} {Q : Exit → Act → World → Prop} {a : Act} {w : World}
    {gf : Nat} {lb : Array Value} (hg : a.eval g = .func (.func gf) #[] lb) (eg : ∀ args w, (callFunc gf args).run P w = .ok (.enter gf args) w)
    {E : World → α → World → Array Value → Prop} (enc : α → δ → Array Value) {T1 : TypeId → Prop} {X : Nat → Prop} {T2 : TypeId → Prop} {L : List α} {w0 : World} (hseq : ∀ F, IsWide F → SeqL F P gf lb E T1 X T2 L w0)
    (Gx : α → δ → World → Prop) (hGx : ∀ x y, Still w.heap.size (fun _ => False) (fun (_ : Unit) W => Gx x y W))
    (hXb : ∀ k, X k → k < w.heap.size) (hT : ∀ t, T1 t → T2 t) (hb0 : Below w0.heap.size w0 w) (hE : ∀ V x W args, Below w.heap.size w V → E V x W args → ∃ y, args = enc x y ∧ Gx x y W) (hps : ∀ V x W args, E V x W args → args.size = ps.size)
    (I : List α → World → Prop) (Ix : Code → List α → World → Prop) (hI : Still w.heap.size T1 I) (hIx : ∀ c, Still w.heap.size T1 (Ix c)) (h0 : I [] w)
    (hab : ∃ tm : α → δ → Act, (∀ (F : Fence) (l : Nat) (x : α) (y : δ) (W : World) (K : Act → World → Prop), IsWide F → K (tm x y) W →
        assign.wpIn (F.inRound l) 0 P (Exit.then K (fun _ _ _ => False)) { tmps := (ps.zip (enc x y)).foldl (fun t (p, v) => t.setIfInBounds p v) a.tmps, defers := [] } W) ∧
      ∀ (F : Fence) (l : Nat) (pre : List α) (x : α) (y : δ) (W : World), IsWide F → F.depth = none → w.heap.size ≤ l → (∃ r, W.heap[l]? = some (.loop r)) → I pre W → pre ++ [x] <+: L → Gx x y W →
        body.wpIn (F.inRound l) 0 P (RoundPost w.heap.size X T2 I Ix (pre ++ [x]) W) (tm x y) W)
    (hdone : ∀ (D : Nat) (W : World), w.heap.size ≤ D → I L W → W.heap[D]? = some (.deferred (some [])) → Q .normal { a with defers := { target := .collected D, args := #[] } :: a.defers } W)
    (hstop : ∀ (D : Nat) (c : Code) (pre : List α) (W : World), w.heap.size ≤ D → pre <+: L → Ix c pre W → W.heap[D]? = some (.deferred (some [])) → c.wp P Q { a with defers := { target := .collected D, args := #[] } :: a.defers } W) :
    (Code.rangeFunc g ps assign body).wp P Q a w := by
  obtain ⟨tm, ha, hb⟩ := hab
  refine range_wp hg eg hseq hXb hT hb0 hps I Ix hI hIx h0 (fun x a' W => ∃ y, a' = tm x y ∧ Gx x y W) ?_ ?_ ?_ hdone hstop
  · rintro x a' _ Y Z ⟨y, q2, q4⟩ ht
    exact ⟨y, q2, hGx x y () _ _ q4 ht⟩
  · rintro F l pre x U args W K hF hi _ hU he hK
    obtain ⟨y, rfl, hy⟩ := hE _ _ _ _ hU he
    exact ha F l x y W K hF (hK _ _ (Keepm.refl _ _) (Kq.refl _ _ _) hi ⟨y, rfl, hy⟩)
  · rintro F l pre x a' W h1 h2 h3 h4 h5 h6 ⟨y, rfl, q4⟩
    exact hb F l pre x y W h1 h2 h3 h4 h5 h6 q4

/-- make([]T, n), as one operation. -/
theorem oper_mk {P : Program} {w : World} {o : Oper} {a : Act} {K : Act → World → Prop} {Q : Exit → Act → World → Prop} (l c : Operand) (t : TypeId) (hop : o.op = Op.makeSlice t l c)
    (e : TypeId) (i : TypeInfo) (z : Value) (h1 : P.underlying t = some (.slice e)) (h2 : P.info? e = some i) (h3 : i.zero = some z) (h4 : i.size = 1) (hz : z.cells = #[z])
    (kl kc : IntKind) (L C : Int) (n : Nat) (hl : a.eval l = .int kl L) (hc : a.eval c = .int kc C) (hL : L = (n : Int)) (hC : C = (n : Int)) (b2 : i.bytes * n ≤ 281474976710656) (b3 : n ≤ maxLen)
    (hK : ∀ w', Row w' e 1 (some ⟨w.heap.size, 0, none⟩) n n (List.replicate n z) (some w.heap.size) → Kp w w' (fun _ => False) → K (a.put o.dst (.slice (some ⟨w.heap.size, 0, none⟩) n n)) w') :
    Oper.wp P o a w K Q := by
  obtain ⟨w', hrun, hown, hgr⟩ := run_make_full (P := P) w w.heap.size t e i z 1 h1 h2 h3 h4 kl kc n b2 b3 (Nat.le_refl _)
  subst hL
  subst hC
  have he : (execOp a.eval o).run P w = .ok (.value (.slice (some ⟨w.heap.size, 0, none⟩) n n)) w' := by
    unfold execOp
    simp [hop, hl, hc, hrun, Result.andThen]
  unfold Oper.wp
  rw [he]
  refine hK w' ?_ ((Kp.of_grown hgr).mono (fun k h => by simp at h))
  obtain ⟨A, c', r, e1, e2, hrow⟩ := Row.of_owns hown
  simp only [Value.slice.injEq] at e1
  obtain ⟨rfl, -, rfl⟩ := e1
  have e3 : (madeCells z.cells (n * 1)).toList = List.replicate n z := by rw [hz, Nat.mul_one]; exact toList_madeCells_one z n
  rw [e3] at hrow
  rw [e2] at hrow
  exact hrow

end Go.Proofs.YtkameiopahcacaaDoor
