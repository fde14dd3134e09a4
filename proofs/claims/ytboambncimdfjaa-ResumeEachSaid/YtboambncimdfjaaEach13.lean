/- longwirelaw13.ResumeEach answers true. Condition: what is told reads as a list. -/
import Derived.Test.YtboambncimdfjaaMapC
import Derived.Test.YtboambncimdfjaaMade13
import Derived.Test.YtboambncimdfjaaSeqB
import Derived.Test.YtboambncimdfjaaWakes13
set_option linter.unusedVariables false
set_option linter.unusedSimpArgs false
namespace Go.Proofs.Ytboambncimdfjaa
open Go.RowKit Go.Shelf Go.Maps
attribute [local go_sem] Oper.semAt_some

/-- What stands in the law's boxes: the ask, the last id, the map of what has come, the id reached. -/
structure Env (w W : World) (E B next lm m : Nat) (A1 : Option Addr) (c1 : Nat) (L : List Hv) (r1 : Option Nat) (at_ : Int) (k : Nat) (ids : List Int) : Prop where
  b8 : Blk W E #[.bool false] 4
  b9 : Blk W B #[.int .u32 next, .slice A1 m c1] 26
  b10 : Blk W (B + 1) #[.int .u32 lm] 24
  b11 : Blk W (B + 3) #[.map (some (B + 2))] 28
  b12 : Blk W (B + 4) #[.int .u32 at_] 24
  cnt : Cnt W (B + 2) k ids
  row : Row W 35 4 A1 m c1 (hvCells L) r1
  kp : Kp w W (fun _ => False)
  le : w.heap.size ≤ E
  lt : E < B
section
variable {w W W' : World} {E B next lm m : Nat} {A1 : Option Addr} {c1 : Nat} {L : List Hv} {r1 : Option Nat} {at_ : Int} {k : Nat} {ids : List Int}
theorem Env.quiet (h : Env w W E B next lm m A1 c1 L r1 at_ k ids) (hk : Kp W W' (fun _ => False)) : Env w W' E B next lm m A1 c1 L r1 at_ k ids :=
  ⟨Blk.kp h.b8 hk (fun h => h), Blk.kp h.b9 hk (fun h => h), Blk.kp h.b10 hk (fun h => h), Blk.kp h.b11 hk (fun h => h), Blk.kp h.b12 hk (fun h => h), h.cnt.kp hk (fun h => h), h.row.kp hk (fun _ _ h => h), h.kp.quiet hk, h.le, h.lt⟩
theorem Env.turn {b0 : Nat} (h : Env w W E B next lm m A1 c1 L r1 at_ k ids) (ht : Turn b0 T0 W W') (hb : B + 4 < b0) : Env w W' E B next lm m A1 c1 L r1 at_ k ids :=
  ⟨ht.blk h.b8 (fun h => h), ht.blk h.b9 (fun h => h), ht.blk h.b10 (fun h => h), ht.blk h.b11 (fun h => h), ht.blk h.b12 (fun h => h), h.cnt.kp ht (fun q => by have := q.1; omega), ht.row h.row (fun h => h), Kp.trans h.kp ht (fun k hk => .inr (by have := hk.1; have := h.le; have := h.lt; omega)), h.le, h.lt⟩
theorem Env.nerow (h : Env w W E B next lm m A1 c1 L r1 at_ k ids) : r1 ≠ some (B + 2) := fun e => by
  obtain ⟨cur, hc⟩ := h.row.cellsAt e
  exact h.cnt.notCells hc
/-- The id reached is set. -/
theorem Env.setAt (h : Env w W E B next lm m A1 c1 L r1 at_ k ids) (v : Int) : Env w (W.setCell ⟨B + 4, 0, none⟩ (.int .u32 v)) E B next lm m A1 c1 L r1 v k ids := by
  have hk : Kp W (W.setCell ⟨B + 4, 0, none⟩ (.int .u32 v)) (fun j => j = B + 4) := (Kp.refl W _).set _ _ _ (.inl rfl)
  have := h.lt
  have := h.le
  exact ⟨Blk.kp h.b8 hk (by omega), Blk.kp h.b9 hk (by omega), Blk.kp h.b10 hk (by omega), Blk.kp h.b11 hk (by omega), h.b12.set 0 _, h.cnt.kp hk (by omega), h.row.kp hk (fun j q e => h.row.ne_type h.b12 (by decide) (by rw [q, e])), h.kp.set _ _ _ (.inr (by omega)), h.le, h.lt⟩
/-- One more has come. -/
theorem Env.more {k' : Nat} {ids' : List Int} (h : Env w W E B next lm m A1 c1 L r1 at_ k ids) (hk : Kp W W' (fun j => j = B + 2)) (hc : Cnt W' (B + 2) k' ids') : Env w W' E B next lm m A1 c1 L r1 at_ k' ids' := by
  have := h.lt
  have := h.le
  exact ⟨Blk.kp h.b8 hk (by omega), Blk.kp h.b9 hk (by omega), Blk.kp h.b10 hk (by omega), Blk.kp h.b11 hk (by omega), Blk.kp h.b12 hk (by omega), hc, h.row.kp hk (fun j q e => h.nerow (by rw [q, e])), h.kp.trans hk (fun j e => .inr (by omega)), h.le, h.lt⟩
theorem Env.low (h : Env w W E B next lm m A1 c1 L r1 at_ k ids) : ∀ ad, A1 = some ad → hvCells L ≠ [] → ad.block < W.heap.size := fun ad h1 _ => by
  obtain ⟨g, rfl, h2⟩ := h.row.addr_some h1
  exact h.row.lt h2
/-- What a body may not touch, the boxes that it writes left out. -/
def Xb (b0 B k : Nat) : Prop := k < b0 ∧ k ≠ B + 4 ∧ k ≠ B + 2
theorem Env.xa (h : Env w W E B next lm m A1 c1 L r1 at_ k ids) {b0 : Nat} (hb : W.heap.size ≤ b0) : ∀ ad, A1 = some ad → hvCells L ≠ [] → Xb b0 B ad.block := fun ad h1 h0 => by
  have h3 := h.low ad h1 h0
  obtain ⟨g, rfl, h2⟩ := h.row.addr_some h1
  refine ⟨by omega, fun e => ?_, fun e => ?_⟩
  · exact h.row.ne_type h.b12 (by decide) (by rw [h2]; simp only at e; rw [e])
  · exact h.nerow (by rw [h2]; simp only at e; rw [e])
theorem Env.kq (h : Env w W E B next lm m A1 c1 L r1 at_ k ids) (hk : Kp W W' (fun j => j = B + 4 ∨ j = B + 2)) (b0 : Nat) : Kq (Xb b0 B) TB W W' := Kq.of_kp' hk (by
  rintro j (rfl | rfl)
  · refine ⟨fun hx => hx.2.1 rfl, fun cs t fr hc ht => ?_⟩
    have hb := h.b12
    unfold Blk at hb
    rw [hb] at hc
    simp only [Option.some.injEq, Obj.cells.injEq] at hc
    rw [← hc.2.1] at ht
    exact tb_u32 ht
  · exact ⟨fun hx => hx.2.2 rfl, fun cs t fr hc _ => h.cnt.notCells hc⟩)
end

def lastOf (pre : List Int) : Int := match pre.getLast? with | some y => y | none => 0
theorem lastOf_snoc (pre : List Int) (x : Int) : lastOf (pre ++ [x]) = x := by simp [lastOf]
theorem lastOf_lt {l pre : List Int} {x : Int} (hl : l.Pairwise (· < ·)) (h : pre ++ [x] <+: l) (h0 : 0 < x) : lastOf pre < x := by
  unfold lastOf
  cases hg : pre.getLast? with
  | none => exact h0
  | some y =>
    have h1 := hl.sublist h.sublist
    rw [List.pairwise_append] at h1
    exact h1.2.2 y (List.mem_of_getLast? hg) x (by simp)
theorem hasB_mem' {l : List Hv} {x : Int} (h : hasB l x = false) : ∀ h ∈ l, h.id ≠ x := by
  intro y hy e
  have : hasB l x = true := by
    unfold hasB
    rw [List.any_eq_true]
    exact ⟨y, hy, by simpa using e⟩
  rw [h] at this
  simp at this

theorem filter_both {α : Type} (p : α → Bool) (l : List α) : (l.filter p).length + (l.filter (fun x => !p x)).length = l.length := by
  induction l with
  | nil => rfl
  | cons a l ih =>
    cases h : p a <;> simp [h] <;> omega
theorem hasB_iff {l : List Hv} {x : Int} : hasB l x = true ↔ x ∈ l.map (·.id) := by
  unfold hasB
  simp only [List.any_eq_true, List.mem_map, beq_iff_eq]
theorem each_len {next lm : Nat} {L : List Hv} (hmay : may next L = true) (hf : fits next L lm = 0) :
    (againL next L lm).length + (replayL next L lm).length + (pastL next L lm).length = next - 1 := by
  have hlt := fits_lt hf
  have h1 := hmay
  simp only [may, Bool.and_eq_true] at h1
  obtain ⟨hr, hb⟩ := mayF_rising _ _ _ h1.1.1
  have e1 : (L.filter (fun h => decide (h.id ≤ (lm : Int)))).map (·.id) = (spanL 1 (lm + 1)).filter (fun x => hasB L x) := by
    refine rising_ext (hr.sublist (List.filter_sublist.map _)) ((spanL_rising _ _).filter _) (fun x => ?_)
    simp only [List.mem_map, List.mem_filter, spanL_mem, decide_eq_true_eq, hasB_iff]
    constructor
    · rintro ⟨y, ⟨hy, hl⟩, rfl⟩
      have := (hb y hy).1
      exact ⟨⟨by omega, by omega⟩, y, hy, rfl⟩
    · rintro ⟨⟨q1, q2⟩, y, hy, rfl⟩
      exact ⟨y, ⟨hy, by omega⟩, rfl⟩
  have e2 := congrArg List.length e1
  rw [List.length_map] at e2
  have e3 := filter_both (fun x => hasB L x) (spanL 1 (lm + 1))
  rw [spanL_length] at e3
  unfold againL replayL pastL
  rw [if_pos hf, if_pos hf, if_pos hf, spanL_length, e2]
  omega
theorem each_mem {next lm : Nat} {L : List Hv} (hf : fits next L lm = 0) (id : Nat) (h0 : 1 ≤ id) (h1 : id < next) :
    (id : Int) ∈ (againL next L lm ++ (replayL next L lm).map (·.id)) ++ pastL next L lm := by
  unfold againL replayL pastL
  rw [if_pos hf, if_pos hf, if_pos hf]
  simp only [List.mem_append, List.mem_map, List.mem_filter, spanL_mem, decide_eq_true_eq]
  by_cases hl : lm < id
  · exact .inl (.inl ⟨by omega, by omega⟩)
  · cases hb : hasB L (id : Int) with
    | true =>
      obtain ⟨y, hy, he⟩ := List.mem_map.1 (hasB_iff.1 hb)
      exact .inl (.inr ⟨y, ⟨hy, by rw [he]; omega⟩, he⟩)
    | false => exact .inr ⟨⟨by omega, by omega⟩, by simp⟩
theorem each_none {next lm : Nat} {L : List Hv} (hf : fits next L lm ≠ 0) : againL next L lm = [] ∧ replayL next L lm = [] ∧ pastL next L lm = [] := by
  unfold againL replayL pastL
  rw [if_neg hf, if_neg hf, if_neg hf]
  exact ⟨rfl, rfl, rfl⟩
theorem each_flag {next lm : Nat} {L : List Hv} (hmay : may next L = true) (q : Nat) (hq : lm + 1 + q = next ∨ (next ≤ lm + 1 ∧ q = 0)) :
    (decide (lm < next) && (spanL (lm + 1) (lm + 1 + q)).all (fun x => hasB L x)) = decide (fits next L lm = 0) := by
  unfold fits
  rw [if_neg (by rw [hmay]; simp)]
  by_cases h : next ≤ lm
  · rw [if_pos h]
    have : decide (lm < next) = false := by simpa using h
    rw [this]
    rfl
  · rw [if_neg h]
    have h2 : decide (lm < next) = true := by simp; omega
    have h3 : lm + 1 + q = next := by omega
    rw [h2, h3, Bool.true_and]
    by_cases hfl : (spanL (lm + 1) next).filter (fun x => !hasB L x) = []
    · rw [if_pos hfl]
      rw [List.filter_eq_nil_iff] at hfl
      simp only [decide_true]
      rw [List.all_eq_true]
      intro x hx
      have := hfl x hx
      simpa using this
    · rw [if_neg hfl]
      simp only [show ((6 : Int) = 0) = False by simp, decide_false]
      rw [Bool.eq_false_iff]
      intro hall
      refine hfl (List.filter_eq_nil_iff.2 (fun x hx => ?_))
      have := List.all_eq_true.1 hall x hx
      simp [this]
theorem marks_ret3 {P : Program} {fn : Func} {R : Ending → World → Prop} {tmps : Array Value} {D1 D2 D3 : Nat} {W : World} (h1 : W.heap[D1]? = some (.deferred (some []))) (h2 : W.heap[D2]? = some (.deferred (some []))) (h3 : W.heap[D3]? = some (.deferred (some [])))
    (n1 : D1 < D2) (n2 : D2 < D3)
    (h : ∃ v, (results fn tmps).run P (((W.putObj D3 (.deferred none)).putObj D2 (.deferred none)).putObj D1 (.deferred none)) = .ok v (((W.putObj D3 (.deferred none)).putObj D2 (.deferred none)).putObj D1 (.deferred none)) ∧ R (.returned v) (((W.putObj D3 (.deferred none)).putObj D2 (.deferred none)).putObj D1 (.deferred none))) :
    LeavesInM Fence.wide 0 P fn tmps R [{ target := .collected D3, args := #[] }, { target := .collected D2, args := #[] }, { target := .collected D1, args := #[] }] .returning W := by
  have q2 : (W.putObj D3 (.deferred none)).heap[D2]? = some (.deferred (some [])) := (World.putObj_heap_other (by omega)).trans h2
  have q1 : ((W.putObj D3 (.deferred none)).putObj D2 (.deferred none)).heap[D1]? = some (.deferred (some [])) := (World.putObj_heap_other (by omega)).trans ((World.putObj_heap_other (by omega)).trans h1)
  exact ⟨by simp, .inl ⟨_, _, rfl, run_takeDeferred h3, by simp, .inl ⟨_, _, rfl, run_takeDeferred q2, by simp, .inl ⟨_, _, rfl, run_takeDeferred q1, h⟩⟩⟩⟩

theorem deferred_kpE {W W' : World} {D : Nat} {o : Obj} (hK : W.heap[D]? = some o) (hk : Kp W W' (fun _ => False)) : W'.heap[D]? = some o := (hk.blk D (Array.getElem?_eq_some_iff.1 hK).1 (fun h => h)).trans hK
theorem eq_hvh (w : World) (a b : Hv) : (binOp .eql 35 (.agg #[.int .u32 a.id, .int .u32 a.out, .int .u32 a.err, .bool a.st]) (.agg #[.int .u32 b.id, .int .u32 b.out, .int .u32 b.err, .bool b.st])).run Try.prog w = .ok (.bool (decide (a = b))) w := by
  have hS : Try.prog.underlying 35 = some (.struct (Try.prog.fieldsOf 35)) := by kernel_rfl
  have hp : Try.prog.stoodInHeld 35 = false := by kernel_rfl
  have u1 := Try.underlying24
  have u2 := Try.underlying4
  have a1 := Try.isAgg24
  have a2 := Try.isAgg4
  have z1 := Try.sizeOf24
  have z2 := Try.sizeOf4
  have e : (binOp .eql 35 (.agg #[.int .u32 a.id, .int .u32 a.out, .int .u32 a.err, .bool a.st]) (.agg #[.int .u32 b.id, .int .u32 b.out, .int .u32 b.err, .bool b.st])).run Try.prog w =
    ((Op.equalIn (9999 + 1) 35 (.agg #[.int .u32 a.id, .int .u32 a.out, .int .u32 a.err, .bool a.st]) (.agg #[.int .u32 b.id, .int .u32 b.out, .int .u32 b.err, .bool b.st])).run Try.prog w).andThen fun r w' => .ok (.bool r) w' := by
    simp only [binOp, Op.equal, Op.maxDepth, Sem.run_bind, Sem.run_pure]
  rw [e, run_equalIn_struct w 9999 _ _ _ hS hp]
  obtain ⟨a1, a2, a3, a4⟩ := a
  obtain ⟨b1, b2, b3, b4⟩ := b
  simp only [Program.fieldsOf, Try.underlying35, Hv.mk.injEq]
  go_simp
  by_cases h1 : a1 = b1 <;> by_cases h2 : a2 = b2 <;> by_cases h3 : a3 = b3 <;> by_cases h4 : a4 = b4 <;> simp [h1, h2, h3, h4]

theorem span_next {f t : Nat} {pre : List Int} {x : Int} (h : pre ++ [x] <+: spanL f t) : x = (f : Int) + (pre.length : Int) ∧ f + pre.length < t := by
  have h1 := h.length_le
  rw [spanL_length, List.length_append, List.length_singleton] at h1
  have h2 := List.prefix_iff_eq_take.1 h
  rw [List.length_append, List.length_singleton, spanL_take _ _ _ (by omega)] at h2
  have h3 := List.append_inj_right' h2 rfl
  simp only [List.cons.injEq, and_true] at h3
  exact ⟨h3, by omega⟩
theorem rise_new {l pre : List Int} {x : Int} (hl : l.Pairwise (· < ·)) (h : pre ++ [x] <+: l) : x ∉ pre := by
  have h1 := hl.sublist h.sublist
  rw [List.pairwise_append] at h1
  intro hx
  have := h1.2.2 x hx x (by simp)
  omega

set_option maxRecDepth 100000 in
set_option maxHeartbeats 4000000 in
theorem each_any (w : World) (nb : Nat) (hnb : nb ≤ 255) (op : Nat) (hop : op < 18446744073709551616) (A : Option Addr) (n c : Nat) (l : List Hv) (hl : l.length = n) (hrd : Rd w A n c (hvCells l)) (hok : ∀ h ∈ l, h.ok) (lb : Nat) (hlb : lb ≤ 255) :
    Calls Try.prog 3 #[.int .u8 nb, .int .u64 op, .slice A n c, .int .u8 lb] w fun e w' => e = .returned (.bool true) ∧ Kp w w' (fun _ => False) := by
  obtain ⟨lm, hlm⟩ : ∃ p : Nat, lb % 70 = p := ⟨_, rfl⟩
  have hlm70 : lm < 70 := by omega
  have ht1 : Int.tmod (lb : Int) 70 = (lm : Int) := by rw [Int.tmod_eq_emod_of_nonneg (by omega)]; omega
  clear hlm
  have hmade := V.mk (made_any (w.alloc (.cells #[.bool false] 4)) nb hnb op hop A n c l hl (hrd.alloc _) hok)
  have b8 := Blk.new w #[.bool false] 4
  have k8 := (Kp.refl w (fun _ => False)).alloc (.cells #[.bool false] 4)
  refine calls_of_wp_marks Try.func3 rfl ?_
  simp only [Try.ntmps3, List.size_toArray, List.length_cons, List.length_nil, Nat.reduceAdd, Nat.reduceSub, Array.replicate_succ, Array.replicate_zero, List.push_toArray, List.append_toArray, List.nil_append, List.cons_append]
  go_wp2_with fail
  refine hmade.out.mono ?_
  rintro e w1 ⟨next, m, L, hLm, hnx, hmay, hokL, A1, c1, r1, rfl, hr1, hnew1, hk1⟩
  have hm16 : m ≤ 16 := by
    simp only [may, Bool.and_eq_true, decide_eq_true_eq] at hmay
    omega
  have hmm := @run_makeMap Try.prog
  have b81 := Blk.kp b8 hk1 (fun h => h)
  have k81 := k8.quiet hk1
  clear b8 k8 hmade
  go_wp2_with fail
  clear hmm
  have env : Env w (((((w1.alloc (.cells #[.int .u32 next, .slice A1 m c1] 26)).alloc (.cells #[.int .u32 lm] 24)).alloc (.map #[] 0)).alloc (.cells #[.map (some (w1.heap.size + 2))] 28)).alloc (.cells #[.int .u32 lm] 24)) w.heap.size w1.heap.size next lm m A1 c1 L r1 lm 0 [] := by
    have hE := b81.lt
    have b9 := ((((Blk.new w1 #[.int .u32 next, .slice A1 m c1] 26).alloc (.cells #[.int .u32 lm] 24)).alloc (.map #[] 0)).alloc (.cells #[.map (some (w1.heap.size + 2))] 28)).alloc (.cells #[.int .u32 lm] 24)
    have b10 := (((Blk.new (w1.alloc (.cells #[.int .u32 next, .slice A1 m c1] 26)) #[.int .u32 lm] 24).alloc (.map #[] 0)).alloc (.cells #[.map (some (w1.heap.size + 2))] 28)).alloc (.cells #[.int .u32 lm] 24)
    have cm := (Cnt.made ((w1.alloc (.cells #[.int .u32 next, .slice A1 m c1] 26)).alloc (.cells #[.int .u32 lm] 24))).kp (((Kp.refl _ (fun _ => False)).alloc (.cells #[.map (some (w1.heap.size + 2))] 28)).alloc (.cells #[.int .u32 lm] 24)) (fun h => h)
    have b11 := (Blk.new (((w1.alloc (.cells #[.int .u32 next, .slice A1 m c1] 26)).alloc (.cells #[.int .u32 lm] 24)).alloc (.map #[] 0)) #[.map (some (w1.heap.size + 2))] 28).alloc (.cells #[.int .u32 lm] 24)
    have b12 := Blk.new ((((w1.alloc (.cells #[.int .u32 next, .slice A1 m c1] 26)).alloc (.cells #[.int .u32 lm] 24)).alloc (.map #[] 0)).alloc (.cells #[.map (some (w1.heap.size + 2))] 28)) #[.int .u32 lm] 24
    simp only [World.size_alloc] at b10 cm b11 b12
    exact ⟨((((b81.alloc _).alloc _).alloc _).alloc _).alloc _, b9, b10, b11, b12, cm, ((((hr1.alloc _).alloc _).alloc _).alloc _).alloc _, ((((k81.alloc _).alloc _).alloc _).alloc _).alloc _, Nat.le_refl _, hE⟩
  obtain ⟨W5, hW5⟩ : ∃ W5, ((((w1.alloc (.cells #[.int .u32 next, .slice A1 m c1] 26)).alloc (.cells #[.int .u32 lm] 24)).alloc (.map #[] 0)).alloc (.cells #[.map (some (w1.heap.size + 2))] 28)).alloc (.cells #[.int .u32 lm] 24) = W5 := ⟨_, rfl⟩
  rw [hW5] at env ⊢
  clear hW5 hr1 hnew1 hk1 b81 k81
  obtain ⟨E, hE⟩ : ∃ E, w.heap.size = E := ⟨_, rfl⟩
  rw [hE] at env ⊢
  have hEV := V.mk hE
  clear hE
  generalize w1.heap.size = B at *
  refine (again_any _ _ _ _ _ _).mono ?_
  rintro e W6 ⟨Ba, Bl, rfl, hba, hbl, _, _, hk6⟩
  have env6 := env.quiet hk6
  clear env hk6
  go_wp2_with fail
  refine (safe_u _ _ _).mono ?_
  rintro e W6' ⟨rfl, hW6⟩
  subst hW6
  go_wp2_with fail
  have ht6 : Told W6 (Xb W6.heap.size B) next A1 m c1 L lm Ba Bl := ⟨hba, hbl, env6.row.rd, env6.low, env6.xa (Nat.le_refl _)⟩
  have hB6 := env6.b12.lt
  have henv0 : Env w W6 E B next lm m A1 c1 L r1 ((lm + ([] : List Int).length : Nat) : Int) ([] : List Int).length [] := env6
  refine range_wpA (gf := 36) (lb := #[.pointer (some ⟨Ba, 0, none⟩), .pointer (some ⟨Bl, 0, none⟩)]) rfl (fun _ _ => rfl) (fun x => #[.int .u32 x]) (w0 := W6)
    (fun F hF => again1_in F hF W6 next hnx A1 m c1 L hLm hokL lm (by omega) Ba Bl (Xb W6.heap.size B) TB (fun _ h => h) ht6)
    (fun k hk => hk.1) (fun _ h => h.elim) (Below.refl _ _) (fun _ => rfl)
    (fun pre W => Env w W E B next lm m A1 c1 L r1 ((lm + pre.length : Nat) : Int) pre.length pre) (fun _ _ _ => False) (fun s Y Z h ht => h.turn ht hB6) (fun _ _ _ _ h _ => h) henv0 ?body ?done ?stop
  case body =>
    apply Exists.intro
    constructor
    · intro F l' x W K hF hK
      gi_wp2
      exact hK
    · rintro F l' pre x W hF hde hl' _ henv hpx
      have hx : x = ((lm + pre.length : Nat) : Int) + 1 ∧ lm + 1 + pre.length < next := by
        unfold againL at hpx
        split at hpx
        · have := span_next hpx
          omega
        · have := hpx.length_le
          simp at this
      have hnew : x ∉ pre := by
        unfold againL at hpx
        split at hpx
        · exact rise_new (spanL_rising _ _) hpx
        · have := hpx.length_le
          simp at this
      obtain ⟨p, hp⟩ : ∃ p, lm + pre.length = p := ⟨_, rfl⟩
      rw [hp] at henv hx
      obtain ⟨rfl, hxn⟩ := hx
      have hp1 : p + 1 < 4294967296 := by omega
      have hlen : V ((pre ++ [(p : Int) + 1]).length = pre.length + 1 ∧ lm + (pre.length + 1) = p + 1) := ⟨by simp, by omega⟩
      have env2 := henv.setAt ((p : Int) + 1)
      obtain ⟨W2, hput, hc2, hk2⟩ := env2.cnt.put (x := (p : Int) + 1) (by omega) (by omega) hnew (by simp only [maxLen]; omega)
      have hlook := env2.cnt.look (x := (p : Int) + 1) (by omega) (by omega)
      rw [if_neg hnew] at hlook
      have env3 := V.mk (env2.more hk2 hc2)
      have kp3 : Kp W W2 (fun j => j = B + 4 ∨ j = B + 2) := ((Kp.refl W (fun j => j = B + 4 ∨ j = B + 2)).set (B + 4) 0 (.int .u32 ((p : Int) + 1)) (.inl (.inl rfl))).trans hk2 (fun j e => .inl (.inr e))
      have hq := V.mk (henv.kq kp3 W6.heap.size)
      have hkm := V.mk (Keepm.of_kp (B := W6.heap.size) kp3 (fun j hj => .inl (by rcases hj with e | e <;> omega)))
      have y0 := henv.b12.cell' 0 rfl
      have y1 := henv.b12.free 0
      have y2 := env2.b11.cell' 0 rfl
      clear hnew hpx hc2 hk2 kp3 hxn hp
      gi_wp2
      exact ⟨hkm.out, hq.out, by dsimp only; rw [hlen.out.1, hlen.out.2]; exact env3.out⟩
  case done =>
    rintro D W hD henv hK
    obtain ⟨av, hav⟩ : ∃ v, ((lm + (againL next L lm).length : Nat) : Int) = v := ⟨_, rfl⟩
    obtain ⟨n1, hn1⟩ : ∃ v, (againL next L lm).length = v := ⟨_, rfl⟩
    rw [hav, hn1] at henv
    have hn1b : n1 ≤ next := by
      rw [← hn1]
      unfold againL
      split
      · rw [spanL_length]; omega
      · simp
    have hn1V := V.mk hn1
    clear hav hn1 env6 henv0 ht6 hba hbl
    have hDlt : D < W.heap.size := (Array.getElem?_eq_some_iff.1 hK).1
    have z0 := henv.b9.cell' 0 rfl
    have z1 := henv.b9.cell' 1 rfl
    have z2 := henv.b10.cell' 0 rfl
    go_wp2_with fail
    clear z0 z1 z2
    refine (replay_any _ _ _ _ _ _).mono ?_
    rintro e W7 ⟨Ba7, Bl7, rfl, hba7, hbl7, hBa7, hBl7, hk7⟩
    go_wp2_with fail
    refine (safe_h _ _ _).mono ?_
    rintro e W7' ⟨rfl, hW7⟩
    subst hW7
    have env7 := henv.quiet hk7
    have hK7 : W7.heap[D]? = some (.deferred (some [])) := (hk7.blk D hDlt (fun h => h)).trans hK
    have hD7 : D < W7.heap.size := Nat.lt_of_lt_of_le hDlt hk7.size
    have hB7 := env7.b12.lt
    have hge7 : B + 4 < W.heap.size := henv.b12.lt
    go_wp2_with fail
    have ht7 : Told W7 (Xb W7.heap.size B) next A1 m c1 L lm Ba7 Bl7 := ⟨hba7, hbl7, env7.row.rd, env7.low, env7.xa (Nat.le_refl _)⟩
    have h07 : Env w W7 E B next lm m A1 c1 L r1 av (n1 + ([] : List Hv).length) (againL next L lm ++ ([] : List Hv).map (·.id)) ∧ W7.heap[D]? = some (.deferred (some [])) ∧ W7.heap.size ≤ W7.heap.size := ⟨by simpa using env7, hK7, Nat.le_refl _⟩
    refine range_wpB (gf := 40) (lb := #[.pointer (some ⟨Ba7, 0, none⟩), .pointer (some ⟨Bl7, 0, none⟩)]) rfl (fun _ _ => rfl) (fun x : Hv => #[.agg #[.int .u32 x.id, .int .u32 x.out, .int .u32 x.err, .bool x.st]]) (fun x : Hv => #[.int .u32 x.id, .int .u32 x.out, .int .u32 x.err, .bool x.st]) 35 (w0 := W7)
      (fun F hF => replay1_in F hF W7 next hnx A1 m c1 L hLm hokL lm (by omega) Ba7 Bl7 (Xb W7.heap.size B) TB (fun _ h => h) ht7 ⟨hbl7.lt, by omega, by omega⟩)
      (fun k hk => hk.1) (fun _ h => h.elim) (Below.refl _ _) (fun _ => rfl)
      (fun pre W => Env w W E B next lm m A1 c1 L r1 av (n1 + pre.length) (againL next L lm ++ pre.map (·.id)) ∧ W.heap[D]? = some (.deferred (some [])) ∧ W7.heap.size ≤ W.heap.size) (fun _ _ _ => False)
      (fun s Y Z h ht => ⟨h.1.turn ht hB7, (Kp.blk ht D (Array.getElem?_eq_some_iff.1 h.2.1).1 (fun q => by have := q.1; omega)).trans h.2.1, Nat.le_trans h.2.2 (Kp.size ht)⟩) (fun _ _ _ _ h _ => h) (fun _ _ h => h.2.2) h07 ?body2 ?done2 ?stop2
    case stop2 =>
      rintro D2 c pre W' hD hpre h
      exact h.elim
    case done2 =>
      rintro D2 W' hD2 ⟨henv2, hK2a, hs2⟩ hK2
      obtain ⟨ids2, hids2⟩ : ∃ v, againL next L lm ++ (replayL next L lm).map (·.id) = v := ⟨_, rfl⟩
      obtain ⟨n2, hn2⟩ : ∃ v, n1 + (replayL next L lm).length = v := ⟨_, rfl⟩
      have hn2b : n2 ≤ next + m := by
        have h2 : (replayL next L lm).length ≤ L.length := by
          unfold replayL
          split
          · exact List.length_filter_le _ _
          · simp
        omega
      have hsep : ∀ x : Int, x ≤ (lm : Int) → hasB L x = false → x ∉ ids2 := by
        intro x hx1 hx2 hc
        rw [← hids2] at hc
        rcases List.mem_append.1 hc with q | q
        · unfold againL at q
          split at q
          · rw [spanL_mem] at q; omega
          · simp at q
        · obtain ⟨y, hy, he⟩ := List.mem_map.1 q
          refine hasB_mem' hx2 y ?_ he
          unfold replayL at hy
          split at hy
          · exact (List.mem_filter.1 hy).1
          · simp at hy
      rw [hids2, hn2] at henv2
      have hids2V := V.mk hids2
      have hn2V := V.mk hn2
      have hsepV := V.mk hsep
      clear hids2 hn2 hsep env7 h07 ht7 hba7 hbl7
      have hsz2 : B + 4 < W'.heap.size := henv2.b12.lt
      have henv3 := henv2.setAt 0
      have k3 : Kp W' (W'.setCell ⟨B + 4, 0, none⟩ (.int .u32 0)) (fun j => j = B + 4) := (Kp.refl W' _).set _ _ _ (.inl rfl)
      have f12 := henv2.b12.free 0
      have z12 := henv2.b12.cell' 0 rfl
      have z0 := henv3.b9.cell' 0 rfl
      have z1 := henv3.b9.cell' 1 rfl
      have z2 := henv3.b10.cell' 0 rfl
      go_wp2_with fail
      clear z0 z1 z2 f12 z12
      refine (past_any _ _ _ _ _ _).mono ?_
      rintro e W8 ⟨Ba8, Bl8, rfl, hba8, hbl8, _, _, hk8⟩
      go_wp2_with fail
      refine (safe_u _ _ _).mono ?_
      rintro e W8' ⟨rfl, hW8⟩
      subst hW8
      have env8 := henv3.quiet hk8
      have k38 := k3.quiet hk8
      have hK8 : W8.heap[D]? = some (.deferred (some [])) := (k38.blk D (Array.getElem?_eq_some_iff.1 hK2a).1 (by omega)).trans hK2a
      have hK8b : W8.heap[D2]? = some (.deferred (some [])) := (k38.blk D2 (Array.getElem?_eq_some_iff.1 hK2).1 (by omega)).trans hK2
      have hB8 := env8.b12.lt
      have hDlt8 := (Array.getElem?_eq_some_iff.1 hK8).1
      have hDlt8b := (Array.getElem?_eq_some_iff.1 hK8b).1
      clear henv2 henv3 k3 k38 hk8
      go_wp2_with fail
      have ht8 : Told W8 (Xb W8.heap.size B) next A1 m c1 L lm Ba8 Bl8 := ⟨hba8, hbl8, env8.row.rd, env8.low, env8.xa (Nat.le_refl _)⟩
      have h08 : Env w W8 E B next lm m A1 c1 L r1 (lastOf []) (n2 + ([] : List Int).length) (ids2 ++ []) ∧ W8.heap[D]? = some (.deferred (some [])) ∧ W8.heap[D2]? = some (.deferred (some [])) := ⟨by simpa [lastOf] using env8, hK8, hK8b⟩
      refine range_wpA (gf := 41) (lb := #[.pointer (some ⟨Ba8, 0, none⟩), .pointer (some ⟨Bl8, 0, none⟩)]) rfl (fun _ _ => rfl) (fun x => #[.int .u32 x]) (w0 := W8)
        (fun F hF => past1_in F hF W8 next hnx A1 m c1 L hLm hokL lm (by omega) Ba8 Bl8 (Xb W8.heap.size B) TB (fun _ h => h) (fun k h => h.1) ht8)
        (fun k hk => hk.1) (fun _ h => h.elim) (Below.refl _ _) (fun _ => rfl)
        (fun pre W => Env w W E B next lm m A1 c1 L r1 (lastOf pre) (n2 + pre.length) (ids2 ++ pre) ∧ W.heap[D]? = some (.deferred (some [])) ∧ W.heap[D2]? = some (.deferred (some []))) (fun _ _ _ => False)
        (fun s Y Z h ht => ⟨h.1.turn ht hB8, (Kp.blk ht D (Array.getElem?_eq_some_iff.1 h.2.1).1 (fun q => by have := q.1; omega)).trans h.2.1, (Kp.blk ht D2 (Array.getElem?_eq_some_iff.1 h.2.2).1 (fun q => by have := q.1; omega)).trans h.2.2⟩) (fun _ _ _ _ h _ => h) h08 ?body3 ?done3 ?stop3
      case stop3 =>
        rintro D3 c pre Wz hD3 hpre h
        exact h.elim
      case done3 =>
        rintro D3 Wz hD3 ⟨henv, hKa, hKb⟩ hKc
        obtain ⟨a3, ha3⟩ : ∃ v, lastOf (pastL next L lm) = v := ⟨_, rfl⟩
        obtain ⟨n3, hn3⟩ : ∃ v, n2 + (pastL next L lm).length = v := ⟨_, rfl⟩
        obtain ⟨ids3, hids3⟩ : ∃ v, ids2 ++ pastL next L lm = v := ⟨_, rfl⟩
        rw [ha3, hn3, hids3] at henv
        have hidsV := V.mk (show (againL next L lm ++ (replayL next L lm).map (·.id)) ++ pastL next L lm = ids3 by rw [hids2V.out, hids3])
        clear ha3 hn3 hids3 env8 h08 ht8 hba8 hbl8 hn2V hsepV
        have hmm := henv.row.le
        have hlenV := V.mk hLm
        have hD12 : D < D2 := by omega
        have hD23 : D2 < D3 := by omega
        have hK1V := V.mk hKa
        have hK2V := V.mk hKb
        have hK3V := V.mk hKc
        have y90 := henv.b9.cell' 0 rfl
        have y10 := henv.b10.cell' 0 rfl
        have hmayV := V.mk hmay
        clear hK hK2 hK2a hK7 hK8 hK8b hKa hKb hKc
        go_wp2
        go_loopw [21, 22, 23, 25] (fun f id _ _ wr => ∃ q : Nat, (lm + 1 + q ≤ next ∨ q = 0) ∧ id = .int .u32 ((lm + 1 + q : Nat) : Int) ∧ f = .bool (decide (lm < next) && (spanL (lm + 1) (lm + 1 + q)).all (fun x => hasB L x)) ∧ Kp Wz wr (fun _ => False)) (fun _ id _ _ _ => next - (intOf id).toNat)
        case atStart => exact ⟨0, .inr rfl, by simp, by simp [spanL], Kp.refl _ _⟩
        case round =>
          obtain ⟨q, hq, rfl, rfl, hkr⟩ := hrel
          have henvq := henv.quiet hkr
          have y90 := henvq.b9.cell' 0 rfl
          have y91 := henvq.b9.cell' 1 rfl
          by_cases hgo : lm + 1 + q < next
          · obtain ⟨id, hid⟩ : ∃ v, lm + 1 + q = v := ⟨_, rfl⟩
            obtain ⟨fl, hfl⟩ : ∃ v, (decide (lm < next) && (spanL (lm + 1) (lm + 1 + q)).all (fun x => hasB L x)) = v := ⟨_, rfl⟩
            have hflV : V ((decide (lm < next) && (spanL (lm + 1) (lm + 1 + (q + 1))).all (fun x => hasB L x)) = (fl && hasB L (id : Int))) := ⟨by
              have e1 : spanL (lm + 1) (lm + 1 + (q + 1)) = spanL (lm + 1) (lm + 1 + q) ++ [(id : Int)] := by
                have := spanL_take (lm + 1) (lm + 1 + (q + 1)) q (by omega)
                rw [List.take_of_length_le (by rw [spanL_length]; omega)] at this
                rw [this]
                have e2 : (spanL (lm + 1) (lm + 1 + (q + 1))).take q = spanL (lm + 1) (lm + 1 + q) := by
                  unfold spanL
                  rw [← List.map_take, List.take_range]
                  congr 2
                  omega
                rw [e2, ← hid]
                simp
              rw [e1, List.all_append, ← hfl]
              simp [Bool.and_assoc]⟩
            rw [hid] at hgo ⊢
            rw [show (decide (lm < next) && (spanL (lm + 1) id).all (fun x => hasB L x)) = fl by rw [← hid]; exact hfl]
            have hidq := V.mk hid
            clear hfl hid
            have d1 : decide ((id : Int) < (next : Int)) = true := by simp; omega
            have d2 : decide (id < next) = true := by simpa using hgo
            have hid32 : (id : Int) + 1 < 4294967296 := by omega
            go_wp2
            go_loopw [23, 25, 127] (fun t _ i wr2 => ∃ k : Nat, k ≤ m ∧ i = .int .i64 k ∧ t = .bool (hasB (L.take k) (id : Int)) ∧ Kp Wz wr2 (fun _ => False)) (fun _ _ i _ => m - (intOf i).toNat)
            case atStart => exact ⟨0, Nat.zero_le _, rfl, by simp [hasB], hkr⟩
            case round =>
              obtain ⟨k, hkm, rfl, rfl, hkr2⟩ := hrel
              by_cases hgo2 : k < m
              · have hm0 : 0 < m := by omega
                obtain ⟨ab, ao, rfl, hcs⟩ := (henv.quiet hkr2).row.rd.base hm0 (by rw [hvCells_length, hlenV.out]; omega)
                obtain ⟨u0, u1, u2, u3⟩ := hv_at hcs k (by rw [hlenV.out]; omega)
                have hts := V.mk (hasB_take_succ L (id : Int) k (by rw [hlenV.out]; omega))
                clear hcs
                generalize L[k]'(by rw [hlenV.out]; omega) = u at *
                have hka := hkr2.alloc (.cells #[.int .u32 u.id, .int .u32 u.out, .int .u32 u.err, .bool u.st] 35)
                obtain ⟨b, hb⟩ : ∃ b, (u.id == (id : Int)) = b := ⟨_, rfl⟩
                obtain ⟨f, hf⟩ : ∃ b, hasB (L.take k) (id : Int) = b := ⟨_, rfl⟩
                have hfin : V (hasB (L.take (k + 1)) (id : Int) = (f || b)) := ⟨by rw [hts.out, ← hf, ← hb]⟩
                rw [hf]
                clear hf hts
                have hgd : decide ((k : Int) < (m : Int)) = true := by simp; omega
                have hgd2 : decide (k < m) = true := by simpa using hgo2
                cases f with
                | true =>
                  go_wp2
                  go_roundw
                  case rel => exact ⟨k + 1, by omega, by go_num, by rw [hfin.out]; rfl, hka⟩
                  case measure => simp [intOf]; omega
                | false =>
                  go_wp2
                  go_roundw
                  case rel => exact ⟨k + 1, by omega, by go_num, by rw [hfin.out]; rfl, hka⟩
                  case measure => simp [intOf]; omega
              · obtain rfl : k = m := by omega
                have hend : hasB (L.take k) (id : Int) = hasB L (id : Int) := by rw [List.take_of_length_le (by rw [hlenV.out]; omega)]
                rw [hend]
                obtain ⟨hb2, hhb2⟩ : ∃ b, hasB L (id : Int) = b := ⟨_, rfl⟩
                rw [hhb2]
                have hhV := V.mk hhb2
                clear hend hhb2
                cases fl with
                | true =>
                  go_wp2
                  go_roundw
                  case rel => exact ⟨q + 1, .inl (by have := hidq.out; omega), by have := hidq.out; go_num, by rw [hflV.out, hhV.out]; rfl, hkr2⟩
                  case measure => simp [intOf]; omega
                | false =>
                  go_wp2
                  go_roundw
                  case rel => exact ⟨q + 1, .inl (by have := hidq.out; omega), by have := hidq.out; go_num, by rw [hflV.out, hhV.out]; rfl, hkr2⟩
                  case measure => simp [intOf]; omega
          · have hfl := each_flag (lm := lm) hmayV.out q (by omega)
            rw [hfl]
            clear hfl
            obtain ⟨id, hid⟩ : ∃ v, lm + 1 + q = v := ⟨_, rfl⟩
            rw [hid] at hgo ⊢
            clear hid hq y91
            have d1 : decide ((id : Int) < (next : Int)) = false := by simp; omega
            have d2 : decide (id < next) = false := by simpa using hgo
            have y10 := henvq.b10.cell' 0 rfl
            have y91 := henvq.b9.cell' 1 rfl
            have hft := fits_any wr next hnx A1 m c1 L hlenV.out henvq.row.rd henvq.low hokL lm (by omega)
            by_cases hf0 : fits next L lm = 0
            · have hfl : decide (fits next L lm = 0) = true := by simpa using hf0
              rw [hfl]
              rw [hf0] at hft
              have hftV := V.mk hft
              have hf0V := V.mk hf0
              clear hfl hft hf0
              go_wp2_with fail
              refine hftV.out.mono ?_
              rintro e wa ⟨rfl, hka⟩
              have kza := hkr.quiet hka
              have henva := henv.quiet kza
              have x90 := henva.b9.cell' 0 rfl
              have x91 := henva.b9.cell' 1 rfl
              have hmy := may_any wa next (by omega) (by omega) A1 m c1 L hlenV.out henva.row.rd hokL
              rw [hmayV.out] at hmy
              have hmyV := V.mk hmy
              clear hmy hftV
              go_wp2_with fail
              refine hmyV.out.mono ?_
              rintro e wb ⟨rfl, hkb⟩
              have kzb := kza.quiet hkb
              clear x90 x91 y90 y91 y10 hmyV
              go_wp2_with fail
              have hn0 : 1 ≤ next := by have := fits_lt hf0V.out; omega
              go_loopw [26] (fun i W => ∃ j : Nat, 1 ≤ j ∧ j ≤ next ∧ i = .int .u32 j ∧ Kp Wz W (fun _ => False)) (fun i _ => next - (intOf i).toNat)
              case atStart => exact ⟨1, Nat.le_refl _, hn0, rfl, kzb⟩
              case round =>
                obtain ⟨j, hj1, hjn, rfl, hkj⟩ := hrel
                have henvW := henv.quiet hkj
                have x90 := henvW.b9.cell' 0 rfl
                have x11 := henvW.b11.cell' 0 rfl
                by_cases hgo3 : j < next
                · have hj := each_mem hf0V.out j hj1 hgo3
                  rw [hidsV.out] at hj
                  have hlook := henvW.cnt.look (x := (j : Int)) (by omega) (by omega)
                  rw [if_pos hj] at hlook
                  clear hj
                  have e1 : decide ((j : Int) < (next : Int)) = true := by simp; omega
                  have e2 : decide (j < next) = true := by simpa using hgo3
                  have e4 : (j : Int) + 1 < 4294967296 := by omega
                  go_wp2
                  go_roundw
                  case rel => exact ⟨j + 1, by omega, by omega, by go_num, hkj⟩
                  case measure => simp [intOf]; omega
                · obtain rfl : j = next := by omega
                  have hlen := henvW.cnt.len 3
                  have hl3 : ((ids3.length : Nat) : Int) = (j : Int) - 1 := by
                    have h1 := each_len hmayV.out hf0V.out
                    rw [← hidsV.out]
                    simp only [List.length_append, List.length_map]
                    omega
                  rw [hl3] at hlen
                  clear hl3
                  go_wp2_with fail
                  refine (wakes_any _).mono ?_
                  rintro e wc ⟨rfl, hkc⟩
                  clear x90 x11 hlen
                  have kall := hkj.quiet hkc
                  have kfin := hkc
                  have henvF := henvW.quiet kfin
                  have f8 := henvF.b8.free 0
                  have c8 := henvF.b8.cell' 0 rfl
                  have hE3 : E < D3 := by have := henvF.lt; omega
                  have hE2 : E < D2 := by have := henvF.lt; omega
                  have hE1 : E < D := by have := henvF.lt; omega
                  have b8' := ((((henvF.b8.set 0 (.bool true)).putObj (D := D3) (.deferred none) (by omega)).putObj (D := D2) (.deferred none) (by omega)).putObj (D := D) (.deferred none) (by omega))
                  have c8' := b8'.cell' 0 rfl
                  have kE : Kp w (wc.setCell ⟨E, 0, none⟩ (.bool true)) (fun _ => False) := henvF.kp.set _ _ _ (.inr henvF.le)
                  have kD := ((kE.putObj (D := D3) (.deferred none) (by have := henvF.le; omega)).putObj (D := D2) (.deferred none) (by have := henvF.le; omega)).putObj (D := D) (.deferred none) (by have := henvF.le; omega)
                  have g1 := V.mk (deferred_set (deferred_kpE hK1V.out kall) (p := ⟨E, 0, none⟩) (by simp only; omega) (.bool true))
                  have g2 := V.mk (deferred_set (deferred_kpE hK2V.out kall) (p := ⟨E, 0, none⟩) (by simp only; omega) (.bool true))
                  have g3 := V.mk (deferred_set (deferred_kpE hK3V.out kall) (p := ⟨E, 0, none⟩) (by simp only; omega) (.bool true))
                  go_wp2
                  exact marks_ret3 g1.out g2.out g3.out hD12 hD23 ⟨.bool true, by simp [results, Try.results3, go_sem, c8'], rfl, kD⟩
            · have hfl : decide (fits next L lm = 0) = false := by simpa using hf0
              rw [hfl]
              obtain ⟨e1, e2, e3⟩ := each_none hf0
              have hnil : ids3 = [] := by rw [← hidsV.out, e1, e2, e3]; rfl
              have hne : (fits next L lm == (0 : Int)) = false := by simpa using hf0
              obtain ⟨fv, hfv⟩ : ∃ v, fits next L lm = v := ⟨_, rfl⟩
              rw [hfv] at hft hne
              have hftV := V.mk hft
              clear hfl hft hf0 e1 e2 e3 hfv
              go_wp2_with fail
              refine hftV.out.mono ?_
              rintro e wa ⟨rfl, hka⟩
              have kza := hkr.quiet hka
              have henva := henv.quiet kza
              have x90 := henva.b9.cell' 0 rfl
              have x91 := henva.b9.cell' 1 rfl
              have hmy := may_any wa next (by omega) (by omega) A1 m c1 L hlenV.out henva.row.rd hokL
              rw [hmayV.out] at hmy
              have hmyV := V.mk hmy
              clear hmy hftV
              go_wp2_with fail
              refine hmyV.out.mono ?_
              rintro e wb ⟨rfl, hkb⟩
              have kzb := kza.quiet hkb
              clear x90 x91 y90 y91 y10 hmyV
              have henvW := henv.quiet kzb
              have x11 := henvW.b11.cell' 0 rfl
              have hlen := henvW.cnt.len 3
              rw [hnil] at hlen
              go_wp2_with fail
              refine (wakes_any _).mono ?_
              rintro e wc ⟨rfl, hkc⟩
              clear x11 hlen
              have kall := kzb.quiet hkc
              have kfin := hkc
              have henvF := henvW.quiet kfin
              have f8 := henvF.b8.free 0
              have c8 := henvF.b8.cell' 0 rfl
              have hE3 : E < D3 := by have := henvF.lt; omega
              have hE2 : E < D2 := by have := henvF.lt; omega
              have hE1 : E < D := by have := henvF.lt; omega
              have b8' := ((((henvF.b8.set 0 (.bool true)).putObj (D := D3) (.deferred none) (by omega)).putObj (D := D2) (.deferred none) (by omega)).putObj (D := D) (.deferred none) (by omega))
              have c8' := b8'.cell' 0 rfl
              have kE : Kp w (wc.setCell ⟨E, 0, none⟩ (.bool true)) (fun _ => False) := henvF.kp.set _ _ _ (.inr henvF.le)
              have kD := ((kE.putObj (D := D3) (.deferred none) (by have := henvF.le; omega)).putObj (D := D2) (.deferred none) (by have := henvF.le; omega)).putObj (D := D) (.deferred none) (by have := henvF.le; omega)
              have g1 := V.mk (deferred_set (deferred_kpE hK1V.out kall) (p := ⟨E, 0, none⟩) (by simp only; omega) (.bool true))
              have g2 := V.mk (deferred_set (deferred_kpE hK2V.out kall) (p := ⟨E, 0, none⟩) (by simp only; omega) (.bool true))
              have g3 := V.mk (deferred_set (deferred_kpE hK3V.out kall) (p := ⟨E, 0, none⟩) (by simp only; omega) (.bool true))
              go_wp2
              exact marks_ret3 g1.out g2.out g3.out hD12 hD23 ⟨.bool true, by simp [results, Try.results3, go_sem, c8'], rfl, kD⟩
      case body3 =>
        apply Exists.intro
        constructor
        · intro F l' x Wy K hF hK'
          gi_wp2
          exact hK'
        · rintro F l' pre x Wy hF hde hl' _ ⟨henv, hKa, hKb⟩ hpx
          have hmem : x ∈ pastL next L lm := hpx.subset (by simp)
          have hmem2 : 1 ≤ x ∧ x ≤ (lm : Int) ∧ hasB L x = false := by
            unfold pastL at hmem
            split at hmem
            · simp only [List.mem_filter, spanL_mem] at hmem
              obtain ⟨⟨q1, q2⟩, q3⟩ := hmem
              exact ⟨by omega, by omega, by simpa using q3⟩
            · simp at hmem
          obtain ⟨hx1, hxl, hxb⟩ := hmem2
          have hrise : (pastL next L lm).Pairwise (· < ·) := by
            unfold pastL
            split
            · exact (spanL_rising _ _).filter _
            · exact List.Pairwise.nil
          have hlast := lastOf_lt hrise hpx (by omega)
          have hnew : x ∉ ids2 ++ pre := by
            intro hc
            rcases List.mem_append.1 hc with q | q
            · exact hsepV.out x hxl hxb q
            · exact rise_new hrise hpx q
          have hplen : pre.length < 100 := by
            have h1 := hpx.length_le
            have h2 : (pastL next L lm).length ≤ lm := by
              unfold pastL
              split
              · have := List.length_filter_le (fun x => !hasB L x) (spanL 1 (lm + 1))
                rw [spanL_length] at this
                omega
              · simp
            simp only [List.length_append, List.length_singleton] at h1
            omega
          obtain ⟨a0, ha0⟩ : ∃ v, lastOf pre = v := ⟨_, rfl⟩
          rw [ha0] at henv hlast
          clear ha0
          have hidne := V.mk (hasB_mem' hxb)
          have hlenV := V.mk hLm
          have hnewV := V.mk hnew
          have hmm := henv.row.le
          have y9 := henv.b9.cell' 1 rfl
          have y10 := henv.b10.cell' 0 rfl
          have y11 := henv.b11.cell' 0 rfl
          have y12 := henv.b12.cell' 0 rfl
          have d1 : decide (x ≤ a0) = false := by simp; omega
          have d2 : decide (x > (lm : Int)) = false := by simp; omega
          have d3 : decide ((lm : Int) < x) = false := by simp; omega
          clear hmem hpx hrise hnew hxb
          gi_wp2
          gi_loopw [20, 98] (fun _ i wr => ∃ k : Nat, k ≤ m ∧ i = .int .i64 k ∧ Kp Wy wr (fun _ => False)) (fun _ i _ => m - (intOf i).toNat)
          case atStart => exact ⟨0, Nat.zero_le _, rfl, Kp.refl _ _⟩
          case round =>
            obtain ⟨k, hkm, rfl, hkr⟩ := hrel
            by_cases hgo : k < m
            · have hm0 : 0 < m := by omega
              obtain ⟨ab, ao, rfl, hcs⟩ := (henv.quiet hkr).row.rd.base hm0 (by rw [hvCells_length, hlenV.out]; omega)
              obtain ⟨u0, u1, u2, u3⟩ := hv_at hcs k (by rw [hlenV.out]; omega)
              have hne := hidne.out (L[k]'(by rw [hlenV.out]; omega)) (List.getElem_mem _)
              clear hcs
              generalize L[k]'(by rw [hlenV.out]; omega) = u at *
              have hka := hkr.alloc (.cells #[.int .u32 u.id, .int .u32 u.out, .int .u32 u.err, .bool u.st] 35)
              have hne2 : (u.id == x) = false := by simpa using hne
              have hne3 : decide (u.id = x) = false := by simpa using hne
              clear hne
              have hgd : decide ((k : Int) < (m : Int)) = true := by simp; omega
              have hgd2 : decide (k < m) = true := by simpa using hgo
              gi_wp2
              go_roundw
              case rel => exact ⟨k + 1, by omega, by go_num, hka⟩
              case measure => simp [intOf]; omega
            · obtain rfl : k = m := by omega
              have henvR := henv.quiet hkr
              have env2 := henvR.setAt x
              obtain ⟨W2, hput, hc2, hk2⟩ := env2.cnt.put (x := x) (by omega) (by omega) hnewV.out (by simp only [maxLen]; omega)
              have hlook := env2.cnt.look (x := x) (by omega) (by omega)
              rw [if_neg hnewV.out] at hlook
              have env3 := V.mk (env2.more hk2 hc2)
              have kp3 : Kp Wy W2 (fun j => j = B + 4 ∨ j = B + 2) := ((hkr.mono (fun _ h => h.elim)).set (B + 4) 0 (.int .u32 x) (.inl (.inl rfl))).trans hk2 (fun j e => .inl (.inr e))
              have hq := V.mk (henv.kq kp3 W8.heap.size)
              have hkmp := V.mk (Keepm.of_kp (B := W8.heap.size) kp3 (fun j hj => .inl (by rcases hj with e | e <;> omega)))
              have hK3 := V.mk ((kp3.blk D (Array.getElem?_eq_some_iff.1 hKa).1 (by rintro (e | e) <;> omega)).trans hKa)
              have hK3b := V.mk ((kp3.blk D2 (Array.getElem?_eq_some_iff.1 hKb).1 (by rintro (e | e) <;> omega)).trans hKb)
              have v12 := henvR.b12.free 0
              have v12c := henvR.b12.cell' 0 rfl
              have v11 := env2.b11.cell' 0 rfl
              clear hc2 hk2 kp3 env2 henvR y9 y10 y11 y12
              gi_wp2
              refine ⟨hkmp.out, hq.out, ?_, hK3.out, hK3b.out⟩
              have e1 : ids2 ++ (pre ++ [x]) = (ids2 ++ pre) ++ [x] := by simp
              have e2 : n2 + (pre ++ [x]).length = n2 + pre.length + 1 := by simp [Nat.add_assoc]
              rw [e1, e2, lastOf_snoc]
              exact env3.out
    case body2 =>
      apply Exists.intro
      constructor
      · intro F l' x W' K hF hK'
        gi_wp2
        generalize W'.heap.size = Bx at hK' ⊢
        exact hK'
      · rintro F l' pre x Bx W' hF hde hl' _ ⟨henv2, hK2, hs2⟩ hpx hBx hbx
        have x0 := hbx.cell' 0 rfl
        have x1 := hbx.cell' 1 rfl
        have x2 := hbx.cell' 2 rfl
        have x3 := hbx.cell' 3 rfl
        have hmem : x ∈ replayL next L lm := hpx.subset (by simp)
        have hplen : pre.length + 1 ≤ m := by
          have h1 := hpx.length_le
          have h2 : (replayL next L lm).length ≤ L.length := by
            unfold replayL
            split
            · exact List.length_filter_le _ _
            · simp
          simp only [List.length_append, List.length_singleton] at h1
          omega
        have hmem2 : fits next L lm = 0 ∧ x ∈ L ∧ x.id ≤ (lm : Int) := by
          unfold replayL at hmem
          split at hmem
          · rename_i hf
            simp only [List.mem_filter, decide_eq_true_eq] at hmem
            exact ⟨hf, hmem⟩
          · simp at hmem
        obtain ⟨hfit, hxL, hxid⟩ := hmem2
        have hxok := hokL x hxL
        have hrise : (L.map (·.id)).Pairwise (· < ·) := by
          have h1 := hmay
          simp only [may, Bool.and_eq_true] at h1
          exact (mayF_rising _ _ _ h1.1.1).1
        have hnew : x.id ∉ againL next L lm ++ pre.map (·.id) := by
          intro hc
          rcases List.mem_append.1 hc with q | q
          · unfold againL at q
            rw [if_pos hfit, spanL_mem] at q
            omega
          · have h1 : pre.map (·.id) ++ [x.id] <+: (replayL next L lm).map (·.id) := by
              have := hpx.map (·.id)
              simpa using this
            refine rise_new ?_ h1 q
            unfold replayL
            rw [if_pos hfit]
            exact hrise.sublist ((List.filter_sublist (p := fun h : Hv => decide (h.id ≤ (lm : Int)))).map (·.id))
        have hm0 : 0 < m := by rw [← hLm]; exact List.length_pos_of_mem hxL
        have hmm := henv2.row.le
        have hlenV := V.mk hLm
        have hnewV := V.mk hnew
        have hxLV := V.mk hxL
        have y9 := henv2.b9.cell' 1 rfl
        clear hmem hpx hrise hnew hxL
        gi_wp2
        gi_loopw [15, 17, 58] (fun fd _ i wr => ∃ k : Nat, k ≤ m ∧ i = .int .i64 k ∧ fd = .bool (decide (x ∈ L.take k)) ∧ Kp W' wr (fun _ => False)) (fun _ _ i _ => m - (intOf i).toNat)
        case atStart => exact ⟨0, Nat.zero_le _, rfl, by simp, Kp.refl _ _⟩
        case round =>
          obtain ⟨k, hkm, rfl, rfl, hkr⟩ := hrel
          by_cases hgo : k < m
          · obtain ⟨ab, ao, rfl, hcs⟩ := (henv2.quiet hkr).row.rd.base hm0 (by rw [hvCells_length, hlenV.out]; omega)
            obtain ⟨u0, u1, u2, u3⟩ := hv_at hcs k (by rw [hlenV.out]; omega)
            have hts := V.mk (List.take_succ_eq_append_getElem (show k < L.length by rw [hlenV.out]; omega))
            clear hcs
            generalize L[k]'(by rw [hlenV.out]; omega) = u at *
            have hka := hkr.alloc (.cells #[.int .u32 u.id, .int .u32 u.out, .int .u32 u.err, .bool u.st] 35)
            have hbx2 := Blk.kp hbx hka (fun h => h)
            have v0 := hbx2.cell' 0 rfl
            have v1 := hbx2.cell' 1 rfl
            have v2 := hbx2.cell' 2 rfl
            have v3 := hbx2.cell' 3 rfl
            have heq := fun w => eq_hvh w u x
            obtain ⟨b, hb⟩ : ∃ b, decide (u = x) = b := ⟨_, rfl⟩
            obtain ⟨f, hf⟩ : ∃ b, decide (x ∈ L.take k) = b := ⟨_, rfl⟩
            have hfin : V (decide (x ∈ L.take (k + 1)) = (f || b)) := ⟨by
              rw [hts.out, ← hf, ← hb]
              simp only [List.mem_append, List.mem_singleton, Bool.decide_or, eq_comm (a := x) (b := u)]⟩
            rw [hb] at heq
            rw [hf]
            clear hb hf
            have hgd : decide ((k : Int) < (m : Int)) = true := by simp; omega
            have hgd2 : decide (k < m) = true := by simpa using hgo
            cases f with
            | true =>
              gi_wp2
              go_roundw
              case rel => exact ⟨k + 1, by omega, by go_num, by rw [hfin.out]; rfl, hka⟩
              case measure => simp [intOf]; omega
            | false =>
              gi_wp2
              go_roundw
              case rel => exact ⟨k + 1, by omega, by go_num, by rw [hfin.out]; rfl, hka⟩
              case measure => simp [intOf]; omega
          · obtain rfl : k = m := by omega
            have hall : decide (x ∈ L.take k) = true := by rw [List.take_of_length_le (by rw [hlenV.out]; omega)]; simpa using hxLV.out
            rw [hall]
            have henvR := henv2.quiet hkr
            have hbxR := Blk.kp hbx hkr (fun h => h)
            have z0 := hbxR.cell' 0 rfl
            have z10 := henvR.b10.cell' 0 rfl
            have z11 := henvR.b11.cell' 0 rfl
            have hlook := henvR.cnt.look (x := x.id) hxok.i0 hxok.i1
            rw [if_neg hnewV.out] at hlook
            obtain ⟨W2, hput, hc2, hk2⟩ := henvR.cnt.put (x := x.id) hxok.i0 hxok.i1 hnewV.out (by simp only [maxLen]; omega)
            have env3 := V.mk (henvR.more hk2 hc2)
            have kp3 : Kp W' W2 (fun j => j = B + 4 ∨ j = B + 2) := (hkr.mono (fun _ h => h.elim)).trans hk2 (fun j e => .inl (.inr e))
            have hq := V.mk (henv2.kq kp3 W7.heap.size)
            have hkmp := V.mk (Keepm.of_kp (B := W7.heap.size) kp3 (fun j hj => .inl (by rcases hj with e | e <;> omega)))
            have hK3 := V.mk ((kp3.blk D (Array.getElem?_eq_some_iff.1 hK2).1 (by rintro (e | e) <;> omega)).trans hK2)
            have hs3 := V.mk (Nat.le_trans hs2 kp3.size)
            have d1 : decide (x.id > (lm : Int)) = false := by simpa using hxid
            have d2 : decide ((lm : Int) < x.id) = false := by simpa using hxid
            clear hall hc2 hk2 kp3 x0 x1 x2 x3 y9 henvR hbxR hxid
            gi_wp2
            refine ⟨hkmp.out, hq.out, ?_, hK3.out, hs3.out⟩
            have e1 : againL next L lm ++ (pre ++ [x]).map (·.id) = (againL next L lm ++ pre.map (·.id)) ++ [x.id] := by simp
            have e2 : n1 + (pre ++ [x]).length = n1 + pre.length + 1 := by simp [Nat.add_assoc]
            rw [e1, e2]
            exact env3.out
  case stop =>
    rintro D c pre W hD hpre h
    exact h.elim

end Go.Proofs.Ytboambncimdfjaa
