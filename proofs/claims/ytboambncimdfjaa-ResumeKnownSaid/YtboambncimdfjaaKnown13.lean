/- longwirelaw13.ResumeKnown answers true. Closed. -/
import Derived.Test.YtboambncimdfjaaBack13
import Derived.Test.YtboambncimdfjaaSeqB
set_option linter.unusedVariables false
set_option linter.unusedSimpArgs false
namespace Go.Proofs.Ytboambncimdfjaa
open Go.RowKit Go.Shelf
attribute [local go_sem] Oper.semAt_some

def oneL : List Hv := [⟨2, 258, 1, true⟩]
def oneB : List Int := [0, 0, 0, 3, 1, 0, 0, 0, 2, 0, 0, 1, 2, 0, 0, 0, 1, 1]
def oddB : List Int := [0, 0, 0, 3, 1, 0, 0, 0, 2, 0, 0, 1, 2, 0, 0, 0, 1, 2]
theorem one_ok : ∀ h ∈ oneL, h.ok := by
  intro h hh
  simp only [oneL, List.mem_singleton] at hh
  subst hh
  exact ⟨by decide, by decide, by decide, by decide, by decide, by decide⟩
theorem one_form : formOf 3 oneL = (oneB, 0) := by decide
theorem odd_parse : parseP oddB = (0, [], 5) := by decide
theorem nil_parse : parseP [] = (0, [], 4) := by decide
theorem zero_parse : parseP [0, 0, 0, 0, 0] = (0, [], 5) := by decide

/-- make of a slice of structs. -/
theorem wpList_mks {P : Program} {w : World} {ops : Array Oper} {rest : List Oper} {o : Oper} {a : Act} {Q : Exit → Act → World → Prop}
    (hg : Region.wanted o (yielded ops a.tmps) = true) (l c : Operand) (t : TypeId) (hop : o.op = Op.makeSlice t l c)
    (e : TypeId) (i : TypeInfo) (z : Value) (sz : Nat) (h1 : P.underlying t = some (.slice e)) (h2 : P.info? e = some i) (h3 : i.zero = some z) (h4 : i.size = sz) (n : Nat) (xs : List Value) (hz : (madeCells z.cells (n * sz)).toList = xs)
    (kl kc : IntKind) (L C : Int) (hl : a.eval l = .int kl L) (hc : a.eval c = .int kc C) (hL : L = (n : Int)) (hC : C = (n : Int)) (b2 : i.bytes * n ≤ 281474976710656) (b3 : n ≤ maxLen)
    (hK : ∀ w', Row w' e sz (some ⟨w.heap.size, 0, none⟩) n n xs (some w.heap.size) → Kp w w' (fun _ => False) → wpList P ops Q rest (a.put o.dst (.slice (some ⟨w.heap.size, 0, none⟩) n n)) w') :
    wpList P ops Q (o :: rest) a w := by
  obtain ⟨w', hrun, hown, hgr⟩ := run_make_full (P := P) w w.heap.size t e i z sz h1 h2 h3 h4 kl kc n b2 b3 (Nat.le_refl _)
  subst hL
  subst hC
  refine wpList_ok hg (w' := w') (by
    unfold execOp
    simp [hop, hl, hc, hrun, Result.andThen]) (hK w' ?_ ((Kp.of_grown hgr).mono (fun k h => by simp at h)))
  obtain ⟨A, c', r, e1, e2, hrow⟩ := Row.of_owns hown
  simp only [Value.slice.injEq] at e1
  obtain ⟨rfl, -, rfl⟩ := e1
  rw [hz] at hrow
  rw [e2] at hrow
  exact hrow

def seventeen : List Hv := List.replicate 17 ⟨0, 0, 0, false⟩
theorem made17 : (madeCells (Value.agg #[.int .u32 0, .int .u32 0, .int .u32 0, .bool false]).cells (17 * 4)).toList = hvCells seventeen := by kernel_rfl

theorem small_ok {l : List Hv} (h : (l.all fun h => decide (0 ≤ h.id) && decide (h.id < 4294967296) && decide (0 ≤ h.out) && decide (h.out < 4294967296) && decide (0 ≤ h.err) && decide (h.err < 4294967296)) = true) : ∀ h ∈ l, h.ok := by
  intro x hx
  have := List.all_eq_true.1 h x hx
  simp only [Bool.and_eq_true, decide_eq_true_eq] at this
  exact ⟨this.1.1.1.1.1, this.1.1.1.1.2, this.1.1.1.2, this.1.1.2, this.1.2, this.2⟩
theorem fits_bad {nx : Nat} {l : List Hv} (h : may nx l = false) (last : Nat) : fits nx l last = 1 := by unfold fits; rw [if_pos h]
theorem form_bad {nx : Int} {l : List Hv} (h : may nx l = false) : formOf nx l = ([], 1) := by unfold formOf; rw [if_neg (by rw [h]; simp)]
def fullL (k : Nat) : List Hv := (List.range k).map (fun (j : Nat) => ⟨4294967279 + (j : Int), 4294967295, 0, false⟩)
theorem fullL_length (k : Nat) : (fullL k).length = k := by simp [fullL]
theorem fullL_succ (k : Nat) : fullL (k + 1) = fullL k ++ [⟨4294967279 + (k : Int), 4294967295, 0, false⟩] := by simp [fullL, List.range_succ]
theorem full_may : may 4294967295 (fullL 16) = true := by decide
theorem full_form : formOf 4294967295 (fullL 16) = (askB 4294967295 (fullL 16), 0) := by unfold formOf; rw [if_pos full_may]
theorem full_len : (askB 4294967295 (fullL 16)).length = 213 := by rw [askB_length, fullL_length]
theorem full_ok : ∀ h ∈ fullL 16, h.ok := small_ok (by decide)
theorem full_fits : fits 4294967295 (fullL 16) 4294967278 = 0 := by decide
theorem full_fits1 : fits 4294967295 (fullL 16) 4294967294 = 0 := by decide
theorem full_fits2 : fits 4294967295 (fullL 16) 4294967295 = 5 := by decide
theorem one_fits3 : fits 3 oneL 3 = 5 := by decide
theorem one_fits0 : fits 3 oneL 0 = 6 := by decide
theorem one_fits1 : fits 3 oneL 1 = 0 := by decide
theorem nil_fits0 : fits 1 [] 0 = 0 := by decide
theorem again16 : ((againL 4294967295 (fullL 16) 4294967278).take 99).length = 16 := by
  unfold againL
  rw [if_pos full_fits, List.length_take, spanL_length]
  rfl
theorem past_four : 4 ≤ (pastL 4294967295 (fullL 16) 4294967278).length := by
  unfold pastL
  rw [if_pos full_fits]
  unfold spanL
  rw [show 4294967278 + 1 - 1 = 4 + 4294967274 from rfl, List.range_add, List.map_append, List.filter_append, List.length_append]
  have h : ((List.map (fun (i : Nat) => ((1 : Nat) : Int) + (i : Int)) (List.range 4)).filter (fun x => !hasB (fullL 16) x)).length = 4 := by decide
  rw [h]
  exact Nat.le_add_right _ _
theorem tb_int : ¬ TB 3 := by unfold TB; decide
theorem deferred_kp {W W' : World} {D : Nat} {o : Obj} (hK : W.heap[D]? = some o) (hk : Kp W W' (fun _ => False)) : W'.heap[D]? = some o := (hk.blk D (Array.getElem?_eq_some_iff.1 hK).1 (fun h => h)).trans hK
/-- One of the asks that may not be. -/
def BadAsk (T : Value) (k : Nat) (W : World) : Prop :=
  ∃ (nx : Nat) (A : Option Addr) (n c : Nat) (l : List Hv), (∀ w, (Instr.index 70 T (.int .i64 k)).run Try.prog w = .ok (.agg #[.int .u32 nx, .slice A n c]) w) ∧ nx < 4294967296 ∧ l.length = n ∧ Rd W A n c (hvCells l) ∧ (∀ ad, A = some ad → hvCells l ≠ [] → ad.block < W.heap.size) ∧ (∀ h ∈ l, h.ok) ∧ may nx l = false

set_option maxRecDepth 100000 in
set_option maxHeartbeats 4000000 in
theorem known_any (w : World) :
    Calls Try.prog 6 #[] w fun e w' => e = .returned (.bool true) ∧ Kp w w' (fun _ => False) := by
  refine calls_of_wp_marks Try.func6 rfl ?_
  simp only [Try.ntmps6, List.size_toArray, List.length_cons, List.length_nil, Nat.reduceAdd, Nat.reduceSub, Array.replicate_succ, Array.replicate_zero, List.push_toArray, List.append_toArray, List.nil_append, List.cons_append]
  go_wp2_with fail
  have k1 := ((Kp.refl w (fun _ => False)).alloc (.cells #[.int .u32 2, .int .u32 258, .int .u32 1, .bool true] 35)).alloc (.cells #[.int .u32 3, .slice (some ⟨w.heap.size, 0, none⟩) 1 1] 26)
  have rd1 := (Rd.lit w 35 (0, 0) 1 [.int .u32 2, .int .u32 258, .int .u32 1, .bool true] (by simp [maxLen])).alloc (.cells #[.int .u32 3, .slice (some ⟨w.heap.size, 0, none⟩) 1 1] 26)
  have b1 := Blk.new (w.alloc (.cells #[.int .u32 2, .int .u32 258, .int .u32 1, .bool true] 35)) #[.int .u32 3, .slice (some ⟨w.heap.size, 0, none⟩) 1 1] 26
  rw [World.size_alloc] at b1
  obtain ⟨w2, hW2⟩ : ∃ w2, (w.alloc (.cells #[.int .u32 2, .int .u32 258, .int .u32 1, .bool true] 35)).alloc (.cells #[.int .u32 3, .slice (some ⟨w.heap.size, 0, none⟩) 1 1] 26) = w2 := ⟨_, rfl⟩
  rw [hW2] at k1 rd1 b1 ⊢
  clear hW2
  have hsz1 := b1.lt
  obtain ⟨B0, hB0⟩ : ∃ B, w.heap.size = B := ⟨_, rfl⟩
  rw [hB0] at b1 rd1 hsz1 ⊢
  have hB0V := V.mk hB0
  clear hB0
  have rd1' : Rd w2 (some ⟨B0, 0, none⟩) 1 1 (hvCells oneL) := rd1
  clear rd1
  have hbf := bytes_any w2 3 (by omega) (some ⟨B0, 0, none⟩) 1 1 oneL rfl rd1' one_ok
  have e33 : ((3 : Nat) : Int) = 3 := rfl
  rw [e33, one_form] at hbf
  clear e33
  refine hbf.mono ?_
  rintro e w3 ⟨A3, n3, c3, r3, rfl, hn3, hr3, hnew3, hk3⟩
  clear hbf
  have hn3' : n3 = 18 := hn3.symm
  subst hn3'
  have hr3' : Row w3 5 1 A3 18 c3 (B8 oneB) r3 := hr3
  obtain ⟨g, rfl, rfl⟩ := hr3'.addr (by omega)
  have hc3 := hr3'.le
  have hc3i : (18 : Int) ≤ (c3 : Int) := by have := hc3.1; omega
  clear hr3 hn3
  have b13 := Blk.kp b1 hk3 (fun h => h)
  have rd3 := rd1'.kp hk3 (fun _ _ _ h => h)
  have k3 := k1.quiet hk3
  have hg := hnew3 g rfl
  have hb18 := Rd.lit w3 5 (0, 0) 18 (B8 oneB) (by simp [maxLen])
  have k4 := (Kp.refl w3 (fun _ => False)).alloc (.cells (B8 oneB).toArray 5)
  obtain ⟨w4, hW4⟩ : ∃ w4, w3.alloc (.cells (B8 oneB).toArray 5) = w4 := ⟨_, rfl⟩
  rw [hW4] at hb18 k4
  have hr4 := hr3'.kp k4 (fun _ _ h => h)
  have heq := eqb_any w4 (some ⟨g, 0, none⟩) (some ⟨w3.heap.size, 0, none⟩) 18 18 c3 18 oneB oneB rfl rfl hr4.rd hb18 (by unfold IsB; decide) (by unfold IsB; decide)
  rw [show decide (oneB = oneB) = true by simp, ← hW4] at heq
  have heqV := V.mk heq
  have hWV := V.mk hW4
  clear heq hW4
  have b14 := Blk.kp b13 k4 (fun h => h)
  have rd4 := rd3.kp k4 (fun _ _ _ h => h)
  have k04 := k3.quiet k4
  clear k1 hk3 k3 b1 b13 rd1' rd3 hr3' hb18
  have f17 := hr4.free 17
  have c17 := hr4.at_ 17 (.int .u8 1) rfl
  go_wp2_with fail
  refine heqV.out.mono ?_
  rintro e x4 ⟨rfl, hx4⟩
  rw [hWV.out] at hx4
  subst hx4
  have hr5 := hr4.stored 17 (.int .u8 2)
  have e5 : (B8 oneB).set 17 (.int .u8 2) = B8 oddB := rfl
  rw [e5] at hr5
  have b5 := b14.far (p := ⟨g, 17, none⟩) (by simp only; omega) (.int .u8 2)
  have rd5 := rd4.kp ((Kp.refl w4 (fun j => j = g)).set g 17 (.int .u8 2) (.inl rfl)) (fun ad h1 _ h2 => by simp only [Option.some.injEq] at h1; subst h1; simp only at h2; omega)
  have k05 := k04.set g 17 (.int .u8 2) (.inr (by rw [hB0V.out]; omega))
  obtain ⟨w5, hW5⟩ : ∃ w5, w4.setCell ⟨g, 17, none⟩ (.int .u8 2) = w5 := ⟨_, rfl⟩
  rw [hW5] at b5 rd5 k05 hr5
  have hW5V := V.mk hW5
  clear hW5 b14 rd4 k04 k4 heqV
  have hodd := parse_any w5 (some ⟨g, 0, none⟩) 18 c3 oddB rfl hr5.rd (by unfold IsB; decide) (by omega)
  rw [odd_parse] at hodd
  have hoddV := V.mk hodd
  clear hodd
  go_wp2_with fail
  rw [hW5V.out]
  refine hoddV.out.mono ?_
  rintro e w6 ⟨A6, n6, c6, r6, rfl, hn6, hr6, _, hk6⟩
  have b6 := Blk.kp b5 hk6 (fun h => h)
  have rd6 := rd5.kp hk6 (fun _ _ _ h => h)
  have k06 := k05.quiet hk6
  clear hoddV hW5V hWV f17 c17 hr4 hr5 hn6 hr6 hk6 b5 rd5 k05 e5 hc3 hc3i hg hnew3
  go_wp2_with fail
  have b7 := b6.alloc (.cells #[.int .u32 0, .slice A6 n6 c6] 26)
  have rd7 := rd6.alloc (.cells #[.int .u32 0, .slice A6 n6 c6] 26)
  have k07 := k06.alloc (.cells #[.int .u32 0, .slice A6 n6 c6] 26)
  obtain ⟨w7, hW7⟩ : ∃ w7, w6.alloc (.cells #[.int .u32 0, .slice A6 n6 c6] 26) = w7 := ⟨_, rfl⟩
  rw [hW7] at b7 rd7 k07 ⊢
  clear hW7 b6 rd6 k06
  generalize w6.heap.size = B6
  have hnil := parse_any w7 none 0 0 [] rfl (Rd.nil w7) (by unfold IsB; decide) (by omega)
  rw [nil_parse] at hnil
  refine hnil.mono ?_
  rintro e w8 ⟨A8, n8, c8, r8, rfl, hn8, hr8, _, hk8⟩
  have b8 := Blk.kp b7 hk8 (fun h => h)
  have rd8 := rd7.kp hk8 (fun _ _ _ h => h)
  have k08 := k07.quiet hk8
  clear hnil hn8 hr8 hk8 b7 rd7 k07
  obtain ⟨i0, hi, hz0, hz1, hz2⟩ := info_parts i_have
  obtain ⟨i1, hi', hz0', hz1', hz2'⟩ := info_parts i_byte
  go_wp2_with (at_make; refine wpList_mk (by rfl) (.const (.int .i64 5)) (.const (.int .i64 5)) 57 rfl 5 i1 (.int .u8 0) u_bytes hi' hz0' hz1' rfl .i64 .i64 5 5 5 (by rfl) (by rfl) rfl rfl (by rw [hz2']; omega) (by simp only [maxLen]; omega) ?_)
  intro w9 hr9 hk9
  generalize w8.heap.size = B8z at *
  have b9 := (b8.alloc (.cells #[.int .u32 0, .slice A8 n8 c8] 26))
  have rd9 := (rd8.alloc (.cells #[.int .u32 0, .slice A8 n8 c8] 26))
  have k09 := (k08.alloc (.cells #[.int .u32 0, .slice A8 n8 c8] 26))
  have b9 := Blk.kp b9 hk9 (fun h => h)
  have rd9 := rd9.kp hk9 (fun _ _ _ h => h)
  have k09 := k09.quiet hk9
  clear b8 rd8 k08 hk9
  have hr9 : Row w9 5 1 (some ⟨B8z + 1, 0, none⟩) 5 5 (B8 [0, 0, 0, 0, 0]) (some (B8z + 1)) := hr9
  have hzero := V.mk (parse_any w9 _ 5 5 [0, 0, 0, 0, 0] rfl hr9.rd (by unfold IsB; decide) (by omega))
  rw [zero_parse] at hzero
  go_wp2_with fail
  refine hzero.out.mono ?_
  rintro e w10 ⟨A10, n10, c10, r10, rfl, hn10, hr10, _, hk10⟩
  have b10 := Blk.kp b9 hk10 (fun h => h)
  have rd10 := rd9.kp hk10 (fun _ _ _ h => h)
  have k010 := k09.quiet hk10
  clear hzero hn10 hr10 hk10 b9 rd9 k09 hr9
  go_wp2_with (at_make; go_loud (refine wpList_mks (by rfl) (.const (.int .i64 17)) (.const (.int .i64 17)) 23 rfl 35 i0 (.agg #[.int .u32 0, .int .u32 0, .int .u32 0, .bool false]) 4 u_haves hi hz0 hz1 17 (hvCells seventeen) made17 .i64 .i64 17 17 (by rfl) (by rfl) rfl rfl (by rw [hz2]; omega) (by simp only [maxLen]; omega) ?_))
  intro w11 hr11 hk11
  obtain ⟨P, hP⟩ : ∃ P, w10.heap.size = P := ⟨_, rfl⟩
  have hra := (((Rd.lit (w10.alloc (.cells #[.int .u32 0, .slice A10 n10 c10] 26)) 35 (0, 0) 1 [.int .u32 0, .int .u32 0, .int .u32 0, .bool false] (by simp [maxLen])).alloc (.cells #[.int .u32 2, .int .u32 0, .int .u32 0, .bool false] 35)).alloc (.cells #[.int .u32 3, .int .u32 0, .int .u32 0, .bool false, .int .u32 3, .int .u32 0, .int .u32 0, .bool false] 35)).alloc (.cells #[.int .u32 3, .int .u32 0, .int .u32 0, .bool false, .int .u32 2, .int .u32 0, .int .u32 0, .bool false] 35)
  have hrb := ((Rd.lit ((w10.alloc (.cells #[.int .u32 0, .slice A10 n10 c10] 26)).alloc (.cells #[.int .u32 0, .int .u32 0, .int .u32 0, .bool false] 35)) 35 (0, 0) 1 [.int .u32 2, .int .u32 0, .int .u32 0, .bool false] (by simp [maxLen])).alloc (.cells #[.int .u32 3, .int .u32 0, .int .u32 0, .bool false, .int .u32 3, .int .u32 0, .int .u32 0, .bool false] 35)).alloc (.cells #[.int .u32 3, .int .u32 0, .int .u32 0, .bool false, .int .u32 2, .int .u32 0, .int .u32 0, .bool false] 35)
  have hrc := (Rd.lit (((w10.alloc (.cells #[.int .u32 0, .slice A10 n10 c10] 26)).alloc (.cells #[.int .u32 0, .int .u32 0, .int .u32 0, .bool false] 35)).alloc (.cells #[.int .u32 2, .int .u32 0, .int .u32 0, .bool false] 35)) 35 (0, 0) 2 [.int .u32 3, .int .u32 0, .int .u32 0, .bool false, .int .u32 3, .int .u32 0, .int .u32 0, .bool false] (by simp [maxLen])).alloc (.cells #[.int .u32 3, .int .u32 0, .int .u32 0, .bool false, .int .u32 2, .int .u32 0, .int .u32 0, .bool false] 35)
  have hrd := Rd.lit ((((w10.alloc (.cells #[.int .u32 0, .slice A10 n10 c10] 26)).alloc (.cells #[.int .u32 0, .int .u32 0, .int .u32 0, .bool false] 35)).alloc (.cells #[.int .u32 2, .int .u32 0, .int .u32 0, .bool false] 35)).alloc (.cells #[.int .u32 3, .int .u32 0, .int .u32 0, .bool false, .int .u32 3, .int .u32 0, .int .u32 0, .bool false] 35)) 35 (0, 0) 2 [.int .u32 3, .int .u32 0, .int .u32 0, .bool false, .int .u32 2, .int .u32 0, .int .u32 0, .bool false] (by simp [maxLen])
  have k11 := ((((k010.alloc (.cells #[.int .u32 0, .slice A10 n10 c10] 26)).alloc (.cells #[.int .u32 0, .int .u32 0, .int .u32 0, .bool false] 35)).alloc (.cells #[.int .u32 2, .int .u32 0, .int .u32 0, .bool false] 35)).alloc (.cells #[.int .u32 3, .int .u32 0, .int .u32 0, .bool false, .int .u32 3, .int .u32 0, .int .u32 0, .bool false] 35)).alloc (.cells #[.int .u32 3, .int .u32 0, .int .u32 0, .bool false, .int .u32 2, .int .u32 0, .int .u32 0, .bool false] 35)
  have b11 := ((((b10.alloc (.cells #[.int .u32 0, .slice A10 n10 c10] 26)).alloc (.cells #[.int .u32 0, .int .u32 0, .int .u32 0, .bool false] 35)).alloc (.cells #[.int .u32 2, .int .u32 0, .int .u32 0, .bool false] 35)).alloc (.cells #[.int .u32 3, .int .u32 0, .int .u32 0, .bool false, .int .u32 3, .int .u32 0, .int .u32 0, .bool false] 35)).alloc (.cells #[.int .u32 3, .int .u32 0, .int .u32 0, .bool false, .int .u32 2, .int .u32 0, .int .u32 0, .bool false] 35)
  have rd11 := ((((rd10.alloc (.cells #[.int .u32 0, .slice A10 n10 c10] 26)).alloc (.cells #[.int .u32 0, .int .u32 0, .int .u32 0, .bool false] 35)).alloc (.cells #[.int .u32 2, .int .u32 0, .int .u32 0, .bool false] 35)).alloc (.cells #[.int .u32 3, .int .u32 0, .int .u32 0, .bool false, .int .u32 3, .int .u32 0, .int .u32 0, .bool false] 35)).alloc (.cells #[.int .u32 3, .int .u32 0, .int .u32 0, .bool false, .int .u32 2, .int .u32 0, .int .u32 0, .bool false] 35)
  simp only [World.size_alloc, hP] at hra hrb hrc hrd hr11 hk11 k11
  have hsz11 := hk11.size
  simp only [World.size_alloc, hP] at hsz11
  have b11 := Blk.kp b11 hk11 (fun h => h)
  have rd11 := rd11.kp hk11 (fun _ _ _ h => h)
  have k11 := k11.quiet hk11
  have hra := hra.kp hk11 (fun _ _ _ h => h)
  have hrb := hrb.kp hk11 (fun _ _ _ h => h)
  have hrc := hrc.kp hk11 (fun _ _ _ h => h)
  have hrd := hrd.kp hk11 (fun _ _ _ h => h)
  have hlt17 := hr11.lt rfl
  clear hk11 b10 rd10 k010
  go_wp2
  rw [hP]
  have hPV := V.mk hP
  clear hP
  obtain ⟨T, hT⟩ : ∃ T : Value, (.agg #[.int .u32 0, .slice none 0 0, .int .u32 2, .slice (some ⟨P + 1, 0, none⟩) 1 1, .int .u32 2, .slice (some ⟨P + 1 + 1, 0, none⟩) 1 1, .int .u32 9, .slice (some ⟨P + 1 + 1 + 1, 0, none⟩) 2 2, .int .u32 9, .slice (some ⟨P + 1 + 1 + 1 + 1, 0, none⟩) 2 2, .int .u32 99, .slice (some ⟨P + 1 + 1 + 1 + 1 + 1, 0, none⟩) 17 17] : Value) = T := ⟨_, rfl⟩
  have htab : ∀ k : Nat, k < 6 → BadAsk T k w11 := by
    intro k hk
    have h6 : k = 0 ∨ k = 1 ∨ k = 2 ∨ k = 3 ∨ k = 4 ∨ k = 5 := by omega
    rw [← hT]
    rcases h6 with rfl | rfl | rfl | rfl | rfl | rfl
    · exact ⟨0, none, 0, 0, [], (fun _ => by kernel_rfl), by omega, rfl, Rd.nil _, (fun _ h => by cases h), (fun h hh => by simp at hh), by decide⟩
    · exact ⟨2, _, 1, 1, [⟨0, 0, 0, false⟩], (fun _ => by kernel_rfl), by omega, rfl, hra, (fun ad h _ => by simp only [Option.some.injEq] at h; subst h; simp only; omega), small_ok (by decide), by decide⟩
    · exact ⟨2, _, 1, 1, [⟨2, 0, 0, false⟩], (fun _ => by kernel_rfl), by omega, rfl, hrb, (fun ad h _ => by simp only [Option.some.injEq] at h; subst h; simp only; omega), small_ok (by decide), by decide⟩
    · exact ⟨9, _, 2, 2, [⟨3, 0, 0, false⟩, ⟨3, 0, 0, false⟩], (fun _ => by kernel_rfl), by omega, rfl, hrc, (fun ad h _ => by simp only [Option.some.injEq] at h; subst h; simp only; omega), small_ok (by decide), by decide⟩
    · exact ⟨9, _, 2, 2, [⟨3, 0, 0, false⟩, ⟨2, 0, 0, false⟩], (fun _ => by kernel_rfl), by omega, rfl, hrd, (fun ad h _ => by simp only [Option.some.injEq] at h; subst h; simp only; omega), small_ok (by decide), by decide⟩
    · exact ⟨99, _, 17, 17, seventeen, (fun _ => by kernel_rfl), by omega, rfl, hr11.rd, (fun ad h _ => by simp only [Option.some.injEq] at h; subst h; simp only; omega), small_ok (by decide), by decide⟩
  rw [hT]
  have htV := V.mk htab
  clear htab hT hra hrb hrc hrd hr11 hlt17 hsz11
  go_loopw [11, 12, 13, 69] (fun _ _ _ i wr => ∃ k : Nat, k ≤ 6 ∧ i = .int .i64 k ∧ Kp w11 wr (fun _ => False)) (fun _ _ _ i _ => 6 - (intOf i).toNat)
  case atStart => exact ⟨0, by omega, rfl, Kp.refl _ _⟩
  case round =>
    obtain ⟨k, hk6, rfl, hkr⟩ := hrel
    by_cases hgo : k < 6
    · obtain ⟨nx, A, n, c, l, hidx, hnx, hl, hrdl, hlow, hokl, hmay⟩ := htV.out k hgo
      have e1 := form_bad (nx := (nx : Int)) hmay
      have e2 := fits_bad hmay 0
      have d1 : decide ((k : Int) < 6) = true := by simp; omega
      have d2 : decide (k < 6) = true := by simpa using hgo
      have kb := hkr.alloc (.cells #[.int .u32 nx, .slice A n c] 26)
      have bb := Blk.new wr #[.int .u32 nx, .slice A n c] 26
      go_wp2_with fail
      obtain ⟨wb, hWb⟩ : ∃ wb, wr.alloc (.cells #[.int .u32 nx, .slice A n c] 26) = wb := ⟨_, rfl⟩
      rw [hWb] at kb bb ⊢
      clear hWb
      generalize wr.heap.size = Bb at *
      have hby := bytes_any wb nx hnx A n c l hl (hrdl.kp kb (fun _ _ _ h => h)) hokl
      rw [e1] at hby
      refine hby.mono ?_
      rintro e wc ⟨Ac, nc, cc, rc, rfl, hnc, hrc, _, hkc⟩
      have kc := kb.quiet hkc
      have bc := Blk.kp bb hkc (fun h => h)
      have x0 := bc.cell' 0 rfl
      have x1 := bc.cell' 1 rfl
      have hmy := may_any wc nx (by omega) (by omega) A n c l hl (hrdl.kp kc (fun _ _ _ h => h)) hokl
      rw [hmay] at hmy
      have hmyV := V.mk hmy
      clear hmy hby e1 hrc hnc bb kb
      go_wp2_with fail
      refine hmyV.out.mono ?_
      rintro e wd ⟨rfl, hkd⟩
      have kd := kc.quiet hkd
      have bd := Blk.kp bc hkd (fun h => h)
      have y0 := bd.cell' 0 rfl
      have y1 := bd.cell' 1 rfl
      have hft := fits_any wd nx hnx A n c l hl (hrdl.kp kd (fun _ _ _ h => h)) (fun ad h1 h2 => Nat.lt_of_lt_of_le (hlow ad h1 h2) kd.size) hokl 0 (by omega)
      rw [e2] at hft
      have hftV := V.mk hft
      clear hft e2 hmyV x0 x1
      go_wp2_with fail
      refine hftV.out.mono ?_
      rintro e we ⟨rfl, hke⟩
      have ke := kd.quiet hke
      go_wp2
      go_roundw
      case rel => exact ⟨k + 1, by omega, by go_num, ke⟩
      case measure => simp [intOf]; omega
    · obtain rfl : k = 6 := by omega
      clear htV
      go_wp2
      have bf0 := Blk.new wr #[.int .u32 4294967295, .slice none 0 0] 26
      have kf0 := hkr.alloc (.cells #[.int .u32 4294967295, .slice none 0 0] 26)
      obtain ⟨wf, hWf⟩ : ∃ wf, wr.alloc (.cells #[.int .u32 4294967295, .slice none 0 0] 26) = wf := ⟨_, rfl⟩
      rw [hWf] at bf0 kf0 ⊢
      clear hWf
      have b1f := Blk.kp b11 kf0 (fun h => h)
      have rd1f := rd11.kp kf0 (fun _ _ _ h => h)
      have k0f := k11.quiet kf0
      have hszf := bf0.lt
      have hBfs : B0 + 1 < wr.heap.size := Nat.lt_of_lt_of_le b11.lt hkr.size
      clear b11 rd11 k11 kf0 hkr
      obtain ⟨Bf, hBf⟩ : ∃ B, wr.heap.size = B := ⟨_, rfl⟩
      rw [hBf] at bf0 hszf hBfs ⊢
      clear hBf
      go_loopw [15, 90] (fun _ i W => ∃ (k : Nat) (A1 : Option Addr) (c1 : Nat) (r1 : Option Nat), k ≤ 16 ∧ i = .int .u32 k ∧ Blk W Bf #[.int .u32 4294967295, .slice A1 k c1] 26 ∧
          Row W 35 4 A1 k c1 (hvCells (fullL k)) r1 ∧ New wf r1 ∧ Kp wf W (fun j => j = Bf)) (fun _ i _ => 16 - (intOf i).toNat)
      case atStart => exact ⟨0, none, 0, none, by omega, rfl, bf0, Row.nil _ _ _, New.none _, Kp.refl _ _⟩
      case round =>
        obtain ⟨k, A1, c1, r1, hk16, rfl, hbw, hrow, hnew, hkr⟩ := hrel
        have w0 := hbw.cell' 0 rfl
        have w1 := hbw.cell' 1 rfl
        by_cases hgo : k < 16
        · have hkm : k + 1 ≤ maxLen := by simp only [maxLen]; omega
          have d1 : decide ((k : Int) < 16) = true := by simp; omega
          have d2 : decide (k < 16) = true := by simpa using hgo
          have hgoI : (k : Int) < 16 := by omega
          go_wp2_with (at_builtin; refine wpList_app (by rfl) (.tmp 94) (.tmp 101) 23 rfl 35 i0 (.agg #[.int .u32 0, .int .u32 0, .int .u32 0, .bool false]) 4 16 u_haves hi hz0 hz1 hz2 rfl (by decide) A1 k c1 _ r1 (by rfl) (hrow.alloc _) _ 1 1 [.int .u32 (4294967279 + (k : Int)), .int .u32 4294967295, .int .u32 0, .bool false] (by rfl) (Rd.lit _ _ _ 1 _ (by simp [maxLen])) rfl (by simp [Value.oneCell']) (k + 1) rfl (by omega) hkm ?_)
          intro A2 c2 r2 w2' hrow2 hkp2 hfr2 _
          have hne1 : r1 ≠ some Bf := hrow.ne_type hbw (by decide)
          have hbw2 := Blk.kp (hbw.alloc (.cells #[.int .u32 (4294967279 + (k : Int)), .int .u32 4294967295, .int .u32 0, .bool false] 35)) hkp2 hne1
          have hka := hkr.alloc (.cells #[.int .u32 (4294967279 + (k : Int)), .int .u32 4294967295, .int .u32 0, .bool false] 35)
          have hnew2 : New wf r2 := hnew.fr hka.size hfr2
          have hne2 : r2 ≠ some Bf := hrow2.ne_type hbw2 (by decide)
          have hk2 : Kp wf (w2'.setCell ⟨Bf, 1, none⟩ (.slice A2 (k + 1) c2)) (fun j => j = Bf) := (hka.trans hkp2 (fun j hj => .inr (hnew j hj))).set _ _ _ (.inl rfl)
          have hb3 := hbw2.set 1 (.slice A2 (k + 1) c2)
          have e2 : hvCells (fullL k) ++ [.int .u32 (4294967279 + (k : Int)), .int .u32 4294967295, .int .u32 0, .bool false] = hvCells (fullL (k + 1)) := by rw [fullL_succ, hvCells_append]; simp [hvCells, Hv.cells]
          rw [e2] at hrow2
          have hr3 := hrow2.far (p := ⟨Bf, 1, none⟩) hne2 (.slice A2 (k + 1) c2)
          have t1 := hbw2.cell' 1 rfl
          have t2 := hbw2.free 1
          clear e2 hrow hkp2 hfr2 hrow2 w0 w1
          go_wp2
          go_roundw
          case rel =>
            refine ⟨_, _, _, _, _, _, _, _, _, _, _, _, _, _, _, _, ?_, rfl⟩
            exact ⟨k + 1, A2, c2, r2, by omega, by go_num, hb3, hr3, hnew2, hk2⟩
          case measure => simp [intOf]; omega
        · obtain rfl : k = 16 := by omega
          have b1W := Blk.kp b1f hkr (by omega)
          have rd1W := rd1f.kp hkr (fun ad h1 _ h2 => by simp only [Option.some.injEq] at h1; subst h1; simp only at h2; omega)
          have kW : Kp w wr (fun _ => False) := k0f.trans hkr (fun j e => .inr (by rw [hB0V.out, e]; omega))
          have hlowF : ∀ ad, A1 = some ad → hvCells (fullL 16) ≠ [] → ad.block < wr.heap.size := fun ad h1 _ => by
            obtain ⟨g', rfl, h2⟩ := hrow.addr_some h1
            exact hrow.lt h2
          have hbf := bytes_any wr 4294967295 (by omega) A1 16 c1 (fullL 16) (fullL_length 16) hrow.rd full_ok
          have e33 : ((4294967295 : Nat) : Int) = 4294967295 := rfl
          rw [e33, full_form] at hbf
          clear e33 b1f rd1f k0f hkr hnew bf0
          have hbfV := V.mk hbf
          clear hbf
          go_wp2_with fail
          refine hbfV.out.mono ?_
          rintro e W1 ⟨A20, n20, c20, r20, rfl, hn20, hr20, _, hk20⟩
          have hn20' : n20 = 213 := by rw [← hn20]; exact full_len
          subst hn20'
          have hb20 := Blk.kp hbw hk20 (fun h => h)
          have hrow20 := hrow.kp hk20 (fun _ _ h => h)
          have b1x := Blk.kp b1W hk20 (fun h => h)
          have rd1x := rd1W.kp hk20 (fun _ _ _ h => h)
          have k20 := kW.quiet hk20
          have hlow20 : ∀ ad, A1 = some ad → hvCells (fullL 16) ≠ [] → ad.block < W1.heap.size := fun ad h1 h2 => Nat.lt_of_lt_of_le (hlowF ad h1 h2) hk20.size
          clear hbfV hn20 hr20 hk20 hbw hrow b1W rd1W kW hlowF w0 w1
          have hb21 := hb20.alloc (.cells #[.int .i64 0] 3)
          have hrow21 := hrow20.alloc (.cells #[.int .i64 0] 3)
          have b1y := b1x.alloc (.cells #[.int .i64 0] 3)
          have rd1y := rd1x.alloc (.cells #[.int .i64 0] 3)
          have k21 := k20.alloc (.cells #[.int .i64 0] 3)
          have bm := Blk.new W1 #[.int .i64 0] 3
          have q0 := hb21.cell' 0 rfl
          have q1 := hb21.cell' 1 rfl
          go_wp2_with fail
          clear q0 q1
          obtain ⟨W2, hW2⟩ : ∃ W2, W1.alloc (.cells #[.int .i64 0] 3) = W2 := ⟨_, rfl⟩
          have hlow21 : ∀ ad, A1 = some ad → hvCells (fullL 16) ≠ [] → ad.block < W2.heap.size := fun ad h1 h2 => by
            have := hlow20 ad h1 h2
            rw [← hW2, World.size_alloc]; omega
          rw [hW2] at hb21 hrow21 b1y rd1y k21 bm ⊢
          have hlo := k20.size
          have hlo2 := hb20.lt
          clear hW2 hb20 hrow20 b1x rd1x k20 hlow20
          obtain ⟨Bm, hBm⟩ : ∃ B, W1.heap.size = B := ⟨_, rfl⟩
          rw [hBm] at bm hlo hlo2 ⊢
          clear hBm
          refine (past_any _ _ _ _ _ _).mono ?_
          rintro e W3 ⟨Ba, Bl, rfl, hba, hbl, hBa, hBl, hk3⟩
          go_wp2_with fail
          refine (safe_u _ _ _).mono ?_
          rintro e W4 ⟨rfl, hW4⟩
          subst hW4
          have hb22 := Blk.kp hb21 hk3 (fun h => h)
          have hrow22 := hrow21.kp hk3 (fun _ _ h => h)
          have b1z := Blk.kp b1y hk3 (fun h => h)
          have rd1z := rd1y.kp hk3 (fun _ _ _ h => h)
          have k22 := k21.quiet hk3
          have bm2 := Blk.kp bm hk3 (fun h => h)
          have hlow22 : ∀ ad, A1 = some ad → hvCells (fullL 16) ≠ [] → ad.block < W3.heap.size := fun ad h1 h2 => Nat.lt_of_lt_of_le (hlow21 ad h1 h2) hk3.size
          clear hb21 hrow21 b1y rd1y k21 bm hlow21 hk3
          go_wp2_with fail
          have hBmlt := bm2.lt
          have hne1 : B0 + 1 ≠ Bm := by
            intro h
            rw [h] at b1z
            unfold Blk at b1z bm2
            rw [b1z] at bm2
            simp at bm2
          have hnef : Bf ≠ Bm := by
            intro h
            rw [h] at hb22
            unfold Blk at hb22 bm2
            rw [hb22] at bm2
            simp at bm2
          have hner : r1 ≠ some Bm := hrow22.ne_type bm2 (by decide)
          have hb0ne : B0 ≠ Bm := by omega
          have ht : Told W3 (fun k => k < W3.heap.size ∧ k ≠ Bm) 4294967295 A1 16 c1 (fullL 16) 4294967278 Ba Bl := ⟨hba, hbl, hrow22.rd, hlow22, fun ad h1 h2 => ⟨hlow22 ad h1 h2, by
            obtain ⟨g', rfl, h3⟩ := hrow22.addr_some h1
            intro h
            exact hner (by rw [h3]; simp only at h; rw [h])⟩⟩
          refine range_wp0 (gf := 41) (lb := #[.pointer (some ⟨Ba, 0, none⟩), .pointer (some ⟨Bl, 0, none⟩)]) rfl (fun _ _ => rfl) (fun x => #[.int .u32 x]) (w0 := W3)
            (fun F hF => past1_in F hF W3 4294967295 (by omega) A1 16 c1 (fullL 16) (fullL_length 16) full_ok 4294967278 (by omega) Ba Bl (fun k => k < W3.heap.size ∧ k ≠ Bm) TB (fun _ h => h) (fun k h => h.1) ht)
            (fun k hk => hk.1) (fun _ h => h.elim) (Below.refl _ _) (fun _ => rfl)
            (fun pre W => pre.length < 4 ∧ Blk W Bm #[.int .i64 pre.length] 3 ∧ Kp W3 W (fun k => k = Bm))
            (fun c pre W => c = .exit 4 ∧ Blk W Bm #[.int .i64 4] 3 ∧ Kp W3 W (fun k => k = Bm)) ?_ ?_ ⟨by simp, bm2, Kp.refl _ _⟩ ?body ?done ?stop
          · rintro s Y Z ⟨p1, p2, p3⟩ ht
            exact ⟨p1, ht.blk p2 (fun h => h), Kp.trans p3 ht (fun k hk => .inr hk.1)⟩
          · rintro c s Y Z ⟨p1, p2, p3⟩ ht
            exact ⟨p1, ht.blk p2 (fun h => h), Kp.trans p3 ht (fun k hk => .inr hk.1)⟩
          case body =>
            rintro F l' pre x W hF hde hl' _ ⟨hlen, hb, hk⟩ hpx
            clear hpx
            have hq : ∀ v, Kq (fun k => k < W3.heap.size ∧ k ≠ Bm) TB W (W.setCell ⟨Bm, 0, none⟩ v) := fun v => Kq.of_kp' ((Kp.refl W (fun k => k = Bm)).set _ _ _ (.inl rfl)) (by
              rintro k rfl
              refine ⟨fun hx => hx.2 rfl, fun cs t fr hc ht => ?_⟩
              unfold Blk at hb
              rw [hb] at hc
              simp only [Option.some.injEq, Obj.cells.injEq] at hc
              rw [← hc.2.1] at ht
              exact tb_int ht)
            have hkm : ∀ v, Keepm W3.heap.size W (W.setCell ⟨Bm, 0, none⟩ v) := fun v => Keepm.of_kp ((Kp.refl W (fun k => k = Bm)).set _ _ _ (.inl rfl)) (fun k hk => .inl (by omega))
            have hks : ∀ v, Kp W3 (W.setCell ⟨Bm, 0, none⟩ v) (fun k => k = Bm) := fun v => hk.set _ _ _ (.inl rfl)
            have hbs := fun v => hb.set 0 v
            have hqV := V.mk hq
            have hkmV := V.mk hkm
            have hksV := V.mk hks
            have hbsV := V.mk hbs
            clear hq hkm hks hbs
            have s1 := hb.free 0
            have hlV : V ((pre ++ [x]).length = pre.length + 1) := ⟨by simp⟩
            have h4 : pre.length = 0 ∨ pre.length = 1 ∨ pre.length = 2 ∨ pre.length = 3 := by omega
            rcases h4 with h4 | h4 | h4 | h4
            · rw [h4] at hb hlV
              have s0 : W.cell? ⟨Bm, 0, none⟩ = some (.int .i64 0) := hb.cell' 0 rfl
              clear h4 hlen
              gi_wp2
              exact ⟨hkmV.out _, hqV.out _, by rw [hlV.out]; omega, by rw [hlV.out]; exact hbsV.out _, hksV.out _⟩
            · rw [h4] at hb hlV
              have s0 : W.cell? ⟨Bm, 0, none⟩ = some (.int .i64 1) := hb.cell' 0 rfl
              clear h4 hlen
              gi_wp2
              exact ⟨hkmV.out _, hqV.out _, by rw [hlV.out]; omega, by rw [hlV.out]; exact hbsV.out _, hksV.out _⟩
            · rw [h4] at hb hlV
              have s0 : W.cell? ⟨Bm, 0, none⟩ = some (.int .i64 2) := hb.cell' 0 rfl
              clear h4 hlen
              gi_wp2
              exact ⟨hkmV.out _, hqV.out _, by rw [hlV.out]; omega, by rw [hlV.out]; exact hbsV.out _, hksV.out _⟩
            · rw [h4] at hb hlV
              have s0 : W.cell? ⟨Bm, 0, none⟩ = some (.int .i64 3) := hb.cell' 0 rfl
              clear h4 hlen
              gi_wp2
              exact ⟨hkmV.out _, rfl, hbsV.out _, hksV.out _⟩
          case done =>
            rintro D W hD ⟨hlen, _, _⟩ hK
            exact absurd hlen (Nat.not_lt.2 past_four)
          case stop =>
            rintro D c pre W hD hpre ⟨rfl, hb, hk⟩ hK
            clear hpre
            have b1W := Blk.kp b1z hk hne1
            have rd1W : Rd W (some ⟨B0, 0, none⟩) 1 1 (hvCells oneL) := rd1z.kp hk (fun ad h1 _ h2 => by simp only [Option.some.injEq] at h1; subst h1; exact hb0ne h2)
            have hbfW := Blk.kp hb22 hk hnef
            have hrowW := hrow22.kp hk (fun k h1 h2 => hner (by rw [h1, h2]))
            have kW : Kp w W (fun _ => False) := k22.trans hk (fun j e => .inr (by rw [e]; exact hlo))
            have hlowW : ∀ ad, A1 = some ad → hvCells (fullL 16) ≠ [] → ad.block < W.heap.size := fun ad h1 h2 => Nat.lt_of_lt_of_le (hlow22 ad h1 h2) hk.size
            have hlow1 : ∀ ad, some (⟨B0, 0, none⟩ : Addr) = some ad → hvCells oneL ≠ [] → ad.block < W.heap.size := fun ad h1 _ => by
              simp only [Option.some.injEq] at h1
              subst h1
              have := b1W.lt
              simp only
              omega
            have hDge : w.heap.size ≤ D := Nat.le_trans k22.size hD
            have e3 : ((3 : Nat) : Int) = 3 := rfl
            have e0 : ((0 : Nat) : Int) = 0 := rfl
            have e1 : ((1 : Nat) : Int) = 1 := rfl
            have eN : ((4294967295 : Nat) : Int) = 4294967295 := rfl
            have eM : ((4294967294 : Nat) : Int) = 4294967294 := rfl
            have eL : ((4294967278 : Nat) : Int) = 4294967278 := rfl
            have f1 := fun W' (hk' : Kp W W' (fun _ => False)) => fits_any W' 3 (by omega) (some ⟨B0, 0, none⟩) 1 1 oneL rfl (rd1W.kp hk' (fun _ _ _ h => h)) (fun ad h1 h2 => Nat.lt_of_lt_of_le (hlow1 ad h1 h2) hk'.size) one_ok 3 (by omega)
            have f2 := fun W' (hk' : Kp W W' (fun _ => False)) => fits_any W' 3 (by omega) (some ⟨B0, 0, none⟩) 1 1 oneL rfl (rd1W.kp hk' (fun _ _ _ h => h)) (fun ad h1 h2 => Nat.lt_of_lt_of_le (hlow1 ad h1 h2) hk'.size) one_ok 0 (by omega)
            have f3 := fun W' (hk' : Kp W W' (fun _ => False)) => fits_any W' 3 (by omega) (some ⟨B0, 0, none⟩) 1 1 oneL rfl (rd1W.kp hk' (fun _ _ _ h => h)) (fun ad h1 h2 => Nat.lt_of_lt_of_le (hlow1 ad h1 h2) hk'.size) one_ok 1 (by omega)
            have f4 := fun W' (hk' : Kp W W' (fun _ => False)) => fits_any W' 4294967295 (by omega) A1 16 c1 (fullL 16) (fullL_length 16) (hrowW.rd.kp hk' (fun _ _ _ h => h)) (fun ad h1 h2 => Nat.lt_of_lt_of_le (hlowW ad h1 h2) hk'.size) full_ok 4294967278 (by omega)
            have f5 := fun W' (hk' : Kp W W' (fun _ => False)) => fits_any W' 4294967295 (by omega) A1 16 c1 (fullL 16) (fullL_length 16) (hrowW.rd.kp hk' (fun _ _ _ h => h)) (fun ad h1 h2 => Nat.lt_of_lt_of_le (hlowW ad h1 h2) hk'.size) full_ok 4294967294 (by omega)
            have f6 := fun W' (hk' : Kp W W' (fun _ => False)) => fits_any W' 4294967295 (by omega) A1 16 c1 (fullL 16) (fullL_length 16) (hrowW.rd.kp hk' (fun _ _ _ h => h)) (fun ad h1 h2 => Nat.lt_of_lt_of_le (hlowW ad h1 h2) hk'.size) full_ok 4294967295 (by omega)
            have f9 := fun W' => fits_any W' 1 (by omega) none 0 0 [] rfl (Rd.nil W') (fun _ h => by cases h) (fun h hh => by simp at hh) 0 (by omega)
            rw [one_fits3, e3] at f1
            rw [one_fits0, e3, e0] at f2
            rw [one_fits1, e3, e1] at f3
            rw [full_fits, eN, eL] at f4
            rw [full_fits1, eN, eM] at f5
            rw [full_fits2, eN] at f6
            rw [nil_fits0, e1, e0] at f9
            have f1V := V.mk f1
            have f2V := V.mk f2
            have f3V := V.mk f3
            have f4V := V.mk f4
            have f5V := V.mk f5
            have f6V := V.mk f6
            have f9V := V.mk f9
            clear f1 f2 f3 f4 f5 f6 f9 e3 e0 e1 eN eM eL hlow1 hlow22 rd1z hb22 hrow22 b1z bm2 k22 hk hba hbl ht
            have y0 := b1W.cell' 0 rfl
            have y1 := b1W.cell' 1 rfl
            have y2 := hbfW.cell' 0 rfl
            have y3 := hbfW.cell' 1 rfl
            have y4 := hb.cell' 0 rfl
            have hcells : ∀ W', Kp W W' (fun _ => False) → W'.cell? ⟨B0 + 1, 0, none⟩ = some (.int .u32 3) ∧ W'.cell? ⟨B0 + 1, 1, none⟩ = some (.slice (some ⟨B0, 0, none⟩) 1 1) ∧ W'.cell? ⟨Bf, 0, none⟩ = some (.int .u32 4294967295) ∧ W'.cell? ⟨Bf, 1, none⟩ = some (.slice A1 16 c1) ∧ W'.cell? ⟨Bm, 0, none⟩ = some (.int .i64 4) := fun W' hk =>
              ⟨hk.cell y0 (fun h => h), hk.cell y1 (fun h => h), hk.cell y2 (fun h => h), hk.cell y3 (fun h => h), hk.cell y4 (fun h => h)⟩
            have hcV := V.mk hcells
            clear hcells y0 y1 y2 y3 y4
            obtain ⟨y0, y1, y2, y3, y4⟩ := hcV.out W (Kp.refl W _)
            go_wp2_with fail
            clear y0 y1 y2 y3 y4
            refine (f1V.out W (Kp.refl W _)).mono ?_
            rintro e e1 ⟨rfl, k1'⟩
            have k1 := k1'
            obtain ⟨y0, y1, y2, y3, y4⟩ := hcV.out e1 (k1)
            go_wp2_with fail
            clear y0 y1 y2 y3 y4
            refine (f2V.out e1 k1).mono ?_
            rintro e e2 ⟨rfl, k2'⟩
            have k2 := k1.quiet k2'
            obtain ⟨y0, y1, y2, y3, y4⟩ := hcV.out e2 (k2)
            go_wp2_with fail
            clear y0 y1 y2 y3 y4
            refine (f3V.out e2 k2).mono ?_
            rintro e e3 ⟨rfl, k3'⟩
            have k3 := k2.quiet k3'
            obtain ⟨y0, y1, y2, y3, y4⟩ := hcV.out e3 (k3)
            go_wp2_with fail
            clear y0 y1 y2 y3 y4
            refine (f4V.out e3 k3).mono ?_
            rintro e e4 ⟨rfl, k4'⟩
            have k4 := k3.quiet k4'
            obtain ⟨y0, y1, y2, y3, y4⟩ := hcV.out e4 (k4)
            go_wp2_with fail
            clear y0 y1 y2 y3 y4
            refine (f5V.out e4 k4).mono ?_
            rintro e e5 ⟨rfl, k5'⟩
            have k5 := k4.quiet k5'
            obtain ⟨y0, y1, y2, y3, y4⟩ := hcV.out e5 (k5)
            go_wp2_with fail
            clear y0 y1 y2 y3 y4
            refine (f6V.out e5 k5).mono ?_
            rintro e e6 ⟨rfl, k6'⟩
            have k6 := k5.quiet k6'
            obtain ⟨y0, y1, y2, y3, y4⟩ := hcV.out e6 (k6)
            go_wp2_with fail
            clear y0 y1 y2 y3 y4
            refine (again_any _ _ _ _ _ _).mono ?_
            rintro e e7 ⟨Ba7, Bl7, rfl, haa7, hll7, _, _, k7'⟩
            have k7 := k6.quiet k7'
            have htt7 : Told e7 (fun k => k < e7.heap.size) 4294967295 A1 16 c1 (fullL 16) 4294967278 Ba7 Bl7 := ⟨haa7, hll7, hrowW.rd.kp k7 (fun _ _ _ h => h), (fun ad h1 h2 => Nat.lt_of_lt_of_le (hlowW ad h1 h2) k7.size), (fun ad h1 h2 => Nat.lt_of_lt_of_le (hlowW ad h1 h2) k7.size)⟩
            obtain ⟨y0, y1, y2, y3, y4⟩ := hcV.out e7 (k7)
            go_wp2_with fail
            clear y0 y1 y2 y3 y4
            refine (firstAgain e7 4294967295 (by omega) A1 16 c1 (fullL 16) (fullL_length 16) full_ok 4294967278 (by omega) Ba7 Bl7 htt7 99 (by omega)).mono ?_
            rintro e e8 ⟨Ax, nx, cx, rx, rfl, hnx, _, _, k8'⟩
            rw [again16] at hnx
            subst hnx
            have k8 := k7.quiet k8'
            obtain ⟨y0, y1, y2, y3, y4⟩ := hcV.out e8 (k8)
            go_wp2_with fail
            clear y0 y1 y2 y3 y4
            refine (f9V.out e8).mono ?_
            rintro e e9 ⟨rfl, k9'⟩
            have k9 := k8.quiet k9'
            obtain ⟨y0, y1, y2, y3, y4⟩ := hcV.out e9 (k9)
            go_wp2_with fail
            clear y0 y1 y2 y3 y4
            refine (wakes_any _).mono ?_
            rintro e e10 ⟨rfl, k10'⟩
            have k10 := k9.quiet k10'
            go_wp2
            exact marks_ret (deferred_kp hK k10) ⟨_, results_tmp rfl _ _ _, rfl, (kW.quiet k10).putObj (.deferred none) hDge⟩

end Go.Proofs.Ytboambncimdfjaa
