/- longwirelaw13.ResumeBack answers true. Condition: what is told reads as a list, the form as bytes. -/
import Derived.Test.YtboambncimdfjaaBack13M
import Derived.Test.YtboambncimdfjaaMade13
import Derived.Test.YtboambncimdfjaaReads13
set_option linter.unusedVariables false
set_option linter.unusedSimpArgs false
namespace Go.Proofs.Ytboambncimdfjaa
open Go.RowKit

/-- bytes.Clone: nil, or new memory that reads the same. -/
theorem bclone_any (w : World) (A : Option Addr) (n c : Nat) (x : List Int) (hx : x.length = n) (hrd : Rd w A n c (B8 x)) (hn : n ≤ 1048576) :
    Calls Try.prog 34 #[.slice A n c] w fun e w' => ∃ A' c' r', e = .returned (.slice A' n c') ∧ Row w' 5 1 A' n c' (B8 x) r' ∧ New w r' ∧ Kp w w' (fun _ => False) := by
  obtain ⟨i0, hi, hz0, hz1, hz2⟩ := info_parts i_byte
  have hnil := fun (A : Option Addr) (n c : Nat) (w : World) => Lib.run_eql_slice_nil (P := Try.prog) w 57 5 A n c 0 0 u_bytes
  have hxV := V.mk hx
  clear hx
  cases A with
  | none =>
    have hc := hrd.2.2.1 rfl
    have hnc := hrd.1
    obtain rfl : n = 0 := by omega
    have hx0 : x = [] := List.eq_nil_of_length_eq_zero hxV.out
    clear hc
    go_enter Try.func34, Try.ntmps34
    go_wp2
    go_ret
    exact ⟨none, 0, none, rfl, by rw [hx0]; exact Row.nil _ _ _, New.none _, Kp.refl _ _⟩
  | some ad =>
    go_enter Try.func34, Try.ntmps34
    go_wp2_with (at_builtin; refine wpList_app rfl (.tmp 5) (.tmp 6) 57 rfl 5 i0 (.int .u8 0) 1 1 u_bytes hi hz0 hz1 hz2 rfl (by decide) _ 0 0 [] _ (by rfl) (Row.made0 w _ 1) (some ad) n c (B8 x) (by rfl) (hrd.alloc _) (by simp [hxV.out, B8]) (B8_one x) n (by omega) (by omega) (by simp only [maxLen]; omega) ?_)
    intro A' c' r' w' hrow hkp hfr _
    go_wp2
    go_ret
    refine ⟨A', c', r', rfl, hrow, ?_, ?_⟩
    · intro k hk
      rcases hfr.of_lt hk with h | h
      · simp only [Option.some.injEq] at h; omega
      · rw [World.size_alloc] at h; omega
    · exact ((Kp.refl w (fun _ => False)).alloc _).trans hkp (fun k hk => .inr (by cases hk; exact Nat.le_refl _))

set_option maxRecDepth 100000 in
set_option maxHeartbeats 4000000 in
theorem back_any (w : World) (op : Nat) (hop : op < 18446744073709551616) (A : Option Addr) (n c : Nat) (l : List Hv) (hl : l.length = n) (hrd : Rd w A n c (hvCells l)) (hok : ∀ h ∈ l, h.ok) (cut : Nat) (hcut : cut ≤ 255)
    (Ab : Option Addr) (nb cb : Nat) (bs : List Int) (hbl : bs.length = nb) (hrb : Rd w Ab nb cb (B8 bs)) (hby : IsB bs) :
    Calls Try.prog 7 #[.int .u64 op, .slice A n c, .int .u8 cut, .slice Ab nb cb] w fun e w' => e = .returned (.bool true) ∧ Kp w w' (fun _ => False) := by
  obtain ⟨mb, hmb⟩ : ∃ m, min nb 300 = m := ⟨_, rfl⟩
  have hbm : (bs.take mb).length = mb := by rw [List.length_take]; omega
  have hmb3 : mb ≤ 300 := by omega
  have hmbn : mb ≤ nb := by omega
  have hby2 : IsB (bs.take mb) := fun x hx => hby x (List.mem_of_mem_take hx)
  have hncb : nb ≤ cb ∧ cb ≤ 9223372036854775807 := ⟨hrb.1, by have := hrb.2.1; simpa [maxLen] using this⟩
  have e300 : (if (300 : Int) < (nb : Int) then (300 : Int) else (nb : Int)) = (mb : Int) := by split <;> omega
  have hi0 : (0 : Int) ≤ (mb : Int) := by omega
  have hi1 : (mb : Int) ≤ (cb : Int) := by omega
  have hrb2 : Rd w Ab mb cb (B8 (bs.take mb)) := by
    have h0 := hrb.pre mb hmbn
    simpa [B8, List.map_take] using h0
  clear hmb
  obtain ⟨pb, hpb⟩ : ∃ p : Nat, op / 72057594037927936 = p := ⟨_, rfl⟩
  have hpb2 : pb ≤ 255 := by omega
  have hpi : (op : Int) / 72057594037927936 = (pb : Int) := by omega
  have hmade := V.mk (made_any w pb hpb2 op hop A n c l hl hrd hok)
  go_enter Try.func7, Try.ntmps7
  go_wp2_with fail
  refine hmade.out.mono ?_
  rintro e w1 ⟨next, m, L, hLm, hnx, hmay, hokL, A1, c1, r1, rfl, hr1, _, hk1⟩
  have hm16 : m ≤ 16 := by
    simp only [may, Bool.and_eq_true, decide_eq_true_eq] at hmay
    omega
  go_wp2_with fail
  have k12 := (Kp.refl w1 (fun _ => False)).alloc (.cells #[.int .u32 next, .slice A1 m c1] 26)
  have b2 := Blk.new w1 #[.int .u32 next, .slice A1 m c1] 26
  have r2 := hr1.alloc (.cells #[.int .u32 next, .slice A1 m c1] 26)
  obtain ⟨w2, hW2⟩ : ∃ w2, w1.alloc (.cells #[.int .u32 next, .slice A1 m c1] 26) = w2 := ⟨_, rfl⟩
  rw [hW2] at k12 b2 r2 ⊢
  clear hW2
  have q2 := hk1.quiet k12
  generalize w1.heap.size = B2 at *
  clear k12 hk1 hr1 hmade
  have hf : formOf next L = (askB next L, 0) := by unfold formOf; rw [if_pos hmay]
  have hbf := bytes_any w2 next hnx A1 m c1 L hLm r2.rd hokL
  have hAl := askB_length next L
  have hAb : IsB (askB next L) := by
    have := formOf_isB (next := (next : Int)) (l := L) (by omega) (by omega) hokL (by omega)
    rwa [hf] at this
  rw [hf] at hbf
  have hp1 := parse_form (next := (next : Int)) (l := L) (by omega) (by omega) hokL hmay
  have hp2 := parse_short (next := (next : Int)) (l := L)
  have hp3 := parse_long (next := (next : Int)) (l := L)
  rw [hLm] at hAl
  clear hf
  obtain ⟨AB, hAB⟩ : ∃ AB, askB next L = AB := ⟨_, rfl⟩
  rw [hAB] at hbf hAl hAb hp1 hp2 hp3
  clear hAB
  refine hbf.mono ?_
  rintro e w3 ⟨A3, n3, c3, r3, rfl, hn3, hr3, _, hk3⟩
  clear hbf
  have hn35 : 5 ≤ n3 := by simp only at hn3; omega
  have hn3m : n3 ≤ 213 := by simp only at hn3; omega
  have hn3' : AB.length = n3 := hn3
  have hr3' : Row w3 5 1 A3 n3 c3 (B8 AB) r3 := hr3
  clear hn3 hr3
  have hc3 := hr3'.le
  have hpa := parse_any w3 A3 n3 c3 AB hn3' hr3'.rd hAb (by omega)
  rw [parse_same _ hAb, hp1] at hpa
  have hpaV := V.mk hpa
  clear hpa hp1
  have hp2V := V.mk hp2
  have hp3V := V.mk hp3
  have hAlV := V.mk hn3'
  clear hp2 hp3 hAl
  go_wp2_with fail
  refine hpaV.out.mono ?_
  rintro e w4 ⟨A4, n4, c4, r4, rfl, hn4, hr4, _, hk4⟩
  clear hpaV
  have hn4' : L.length = n4 := hn4
  obtain rfl : n4 = m := by omega
  have hr4' : Row w4 35 4 A4 n4 c4 (hvCells L) r4 := hr4
  clear hn4 hr4
  go_wp2_with fail
  have k5 := (Kp.refl w4 (fun _ => False)).alloc (.cells #[.int .u32 next, .slice A4 n4 c4] 26)
  have b5 := Blk.new w4 #[.int .u32 next, .slice A4 n4 c4] 26
  have r5 := hr4'.alloc (.cells #[.int .u32 next, .slice A4 n4 c4] 26)
  obtain ⟨w5, hW5⟩ : ∃ w5, w4.alloc (.cells #[.int .u32 next, .slice A4 n4 c4] 26) = w5 := ⟨_, rfl⟩
  rw [hW5] at k5 b5 r5 ⊢
  clear hW5
  generalize w4.heap.size = B5 at *
  have q35 := hk4.quiet k5
  have q25 := hk3.quiet q35
  have b25 := Blk.kp b2 q25 (fun h => h)
  have rL5 := r2.kp q25 (fun _ _ h => h)
  have rF5 := hr3'.kp q35 (fun _ _ h => h)
  have q5 := q2.quiet q25
  clear q25 q35 q2 k5 hk4 hk3 b2 r2 hr4' hr3'
  have x0 := b25.cell' 0 rfl
  have x1 := b25.cell' 1 rfl
  have y0 := b5.cell' 0 rfl
  have y1 := b5.cell' 1 rfl
  have d1 : decide ((n3 : Int) > 213) = false := by simp; omega
  have d2 : decide (213 < n3) = false := by simp; omega
  have d3 : ¬ n3 = 0 := by omega
  have d4 : ((n3 : Int) == 0) = false := by simp; omega
  have hcells : ∀ W, Kp w5 W (fun _ => False) → W.cell? ⟨B2, 0, none⟩ = some (.int .u32 next) ∧ W.cell? ⟨B2, 1, none⟩ = some (.slice A1 n4 c1) ∧ W.cell? ⟨B5, 0, none⟩ = some (.int .u32 next) ∧ W.cell? ⟨B5, 1, none⟩ = some (.slice A4 n4 c4) := fun W hk =>
    ⟨hk.cell x0 (fun h => h), hk.cell x1 (fun h => h), hk.cell y0 (fun h => h), hk.cell y1 (fun h => h)⟩
  have hcV := V.mk hcells
  clear hcells
  go_region_held3 (fun W => W.cell? ⟨B2, 0, none⟩ = some (.int .u32 next) ∧ W.cell? ⟨B2, 1, none⟩ = some (.slice A1 n4 c1) ∧ W.cell? ⟨B5, 0, none⟩ = some (.int .u32 next) ∧ W.cell? ⟨B5, 1, none⟩ = some (.slice A4 n4 c4)) (first | exact hcV.out _ (Kp.refl w5 _).drew | exact hcV.out _ k7 | exact hcV.out _ k6 | exact hHeld)
    ((first | (go_at_call 33; refine (like_any _ _ _ _ _ _ _ _ L hn4' hLm (r5.rd.kp k6 (fun _ _ _ h => h)) hr6.rd (by omega)).mono ?_; rintro e e7 ⟨rfl, k7'⟩; have k7 := k6.quiet k7')
            | (go_at_call 18; refine (of_any _ next A1 n4 c1 L hLm rL5.rd.drew (by omega)).mono ?_; rintro e e6 ⟨A6, c6, r6, rfl, hr6, _, k6'⟩; have k6 := Kp.of_drew k6')
            | fail "no arm fits"))
  have rF7 := rF5.kp k7 (fun _ _ h => h)
  have q7 := q5.quiet k7
  clear rF5 rL5 r5 b25 b5 x0 x1 y0 y1 hcV hr6 k6 k6' k7' k7 q5
  obtain ⟨qc, hqc⟩ : ∃ q, cut % n3 = q := ⟨_, rfl⟩
  have hqn : qc < n3 := by rw [← hqc]; exact Nat.mod_lt _ (by omega)
  have d6 : Int.tmod (cut : Int) (n3 : Int) = (qc : Int) := by rw [Int.tmod_eq_emod_of_nonneg (by omega)]; omega
  clear hqc
  have d8 : (qc : Int) ≤ (c3 : Int) := by have := hc3.1; omega
  have d9 : (0 : Int) ≤ (qc : Int) := by omega
  have hle3 := hc3.1
  have hmx : c3 ≤ 9223372036854775807 := by have := hc3.2; simpa [maxLen] using this
  have hlq : (AB.take qc).length = qc := by rw [List.length_take, hAlV.out]; omega
  have rFq : Rd e7 A3 qc c3 (B8 (AB.take qc)) := by
    have h0 := rF7.rd.pre qc (by omega)
    simpa [B8, List.map_take] using h0
  have hAbq : IsB (AB.take qc) := fun x hx => hAb x (List.mem_of_mem_take hx)
  have hpq := parse_any e7 A3 qc c3 (AB.take qc) hlq rFq hAbq (by omega)
  rw [parse_same _ hAbq, hp2V.out qc (by rw [hAlV.out]; omega)] at hpq
  have hpqV := V.mk hpq
  clear hpq hlq rFq hAbq hp2V
  go_wp2_with fail
  refine hpqV.out.mono ?_
  rintro e w8 ⟨A8, n8, c8, r8, rfl, hn8, hr8, _, hk8⟩
  clear hpqV
  have q8 := q7.quiet hk8
  have rF8 := rF7.kp hk8 (fun _ _ h => h)
  clear q7 rF7 hk8 hr8
  go_wp2_with fail
  have k9 := (Kp.refl w8 (fun _ => False)).alloc (.cells #[.int .u32 0, .slice A8 n8 c8] 26)
  obtain ⟨w9, hW9⟩ : ∃ w9, w8.alloc (.cells #[.int .u32 0, .slice A8 n8 c8] 26) = w9 := ⟨_, rfl⟩
  rw [hW9] at k9 ⊢
  clear hW9
  have q9 := q8.quiet k9
  have rF9 := rF8.kp k9 (fun _ _ h => h)
  clear q8 rF8 k9 hn8
  generalize w8.heap.size = B8' at *
  refine (bclone_any w9 A3 n3 c3 AB hAlV.out rF9.rd (by omega)).mono ?_
  rintro e w10 ⟨A10, c10, r10, rfl, hr10, hnew10, hk10⟩
  have q10 := q9.quiet hk10
  clear rF9
  have hr10' := hr10.alloc (.cells #[.int .u8 0] 5)
  have hl1 := Rd.lit w10 5 (0, 0) 1 [.int .u8 0] (by simp [maxLen])
  obtain ⟨i1, hi', hz0', hz1', hz2'⟩ := info_parts i_byte
  have hAlong : IsB (AB ++ [0]) := hAb.append (fun c hc => by rw [List.mem_singleton] at hc; omega)
  have hlong : (AB ++ [0]).length = n3 + 1 := by rw [List.length_append, hAlV.out]; rfl
  have hB8 : V (B8 AB ++ [.int .u8 0] = B8 (AB ++ [0])) := ⟨by simp [B8]⟩
  go_wp2_with (at_builtin; refine wpList_app (by rfl) (.tmp 74) (.tmp 75) 57 rfl 5 i1 (.int .u8 0) 1 1 u_bytes hi' hz0' hz1' hz2' rfl (by decide) A10 n3 c10 _ r10 (by rfl) hr10' _ 1 1 [.int .u8 0] (by rfl) hl1 rfl (by simp [Value.oneCell']) (n3 + 1) rfl (by omega) (by simp only [maxLen]; omega) ?_)
  intro A11 c11 r11 w11 hrow11 hkp11 hfr11 _
  have q11 : Kp w w11 (fun _ => False) := (q10.alloc (.cells #[.int .u8 0] 5)).trans hkp11 (fun j hj => .inr (by have := hnew10 j hj; have := q9.size; omega))
  rw [hB8.out] at hrow11
  have hpl := parse_any w11 A11 (n3 + 1) c11 (AB ++ [0]) hlong hrow11.rd hAlong (by omega)
  rw [parse_same _ hAlong, hp3V.out] at hpl
  have hplV := V.mk hpl
  clear hpl hr10 hr10' hl1 hkp11 hfr11 q10 q9 hk10 hnew10 hp3V hAlong hlong hrow11
  go_wp2_with fail
  refine hplV.out.mono ?_
  rintro e w12 ⟨A12, n12, c12, r12, rfl, hn12, hr12, _, hk12⟩
  clear hplV hr12
  have q12 := q11.quiet hk12
  clear q11 hk12 hn12
  go_wp2_with fail
  have q13 := q12.alloc (.cells #[.int .u32 0, .slice A12 n12 c12] 26)
  obtain ⟨w13, hW13⟩ : ∃ w13, w12.alloc (.cells #[.int .u32 0, .slice A12 n12 c12] 26) = w13 := ⟨_, rfl⟩
  rw [hW13] at q13 ⊢
  clear hW13 q12
  generalize w12.heap.size = B12 at *
  have hrb13 := hrb2.kp q13 (fun _ _ _ h => h)
  clear hrb2 hrb
  have hpb := parse_any w13 Ab mb cb (bs.take mb) hbm hrb13 hby2 (by omega)
  rcases parse_back hby2 with (h | h) | ⟨nx, L2, h, hx0, hx1, hmy2, hbk⟩
  · rw [parse_same _ hby2, h] at hpb
    refine hpb.mono ?_
    clear hpb
    rintro e w14 ⟨A14, n14, c14, r14, rfl, hn14, hr14, _, hk14⟩
    have q14 := q13.quiet hk14
    obtain rfl : n14 = 0 := hn14.symm
    clear hr14 hk14 q13
    go_wp2_with fail
    have q15 := q14.alloc (.cells #[.int .u32 0, .slice A14 0 c14] 26)
    have b15 := Blk.new w14 #[.int .u32 0, .slice A14 0 c14] 26
    obtain ⟨w15, hW15⟩ : ∃ w15, w14.alloc (.cells #[.int .u32 0, .slice A14 0 c14] 26) = w15 := ⟨_, rfl⟩
    rw [hW15] at q15 b15 ⊢
    clear hW15 q14
    generalize w14.heap.size = B14 at *
    have z0 := b15.cell' 0 rfl
    have z1 := b15.cell' 1 rfl
    go_wp2_with fail
    refine (wakes_any _).mono ?_
    rintro e w16 ⟨rfl, hk16⟩
    go_wp2
    go_ret
    exact ⟨rfl, q15.quiet hk16⟩
  · rw [parse_same _ hby2, h] at hpb
    refine hpb.mono ?_
    clear hpb
    rintro e w14 ⟨A14, n14, c14, r14, rfl, hn14, hr14, _, hk14⟩
    have q14 := q13.quiet hk14
    obtain rfl : n14 = 0 := hn14.symm
    clear hr14 hk14 q13
    go_wp2_with fail
    have q15 := q14.alloc (.cells #[.int .u32 0, .slice A14 0 c14] 26)
    have b15 := Blk.new w14 #[.int .u32 0, .slice A14 0 c14] 26
    obtain ⟨w15, hW15⟩ : ∃ w15, w14.alloc (.cells #[.int .u32 0, .slice A14 0 c14] 26) = w15 := ⟨_, rfl⟩
    rw [hW15] at q15 b15 ⊢
    clear hW15 q14
    generalize w14.heap.size = B14 at *
    have z0 := b15.cell' 0 rfl
    have z1 := b15.cell' 1 rfl
    go_wp2_with fail
    refine (wakes_any _).mono ?_
    rintro e w16 ⟨rfl, hk16⟩
    go_wp2
    go_ret
    exact ⟨rfl, q15.quiet hk16⟩
  · rw [parse_same _ hby2, h] at hpb
    refine hpb.mono ?_
    clear hpb
    rintro e w14 ⟨A14, n14, c14, r14, rfl, hn14, hr14, _, hk14⟩
    have hn14' : L2.length = n14 := hn14
    have hr14' : Row w14 35 4 A14 n14 c14 (hvCells L2) r14 := hr14
    have q14 := q13.quiet hk14
    have hrb14 := hrb13.kp hk14 (fun _ _ _ h => h)
    clear hr14 hk14 q13 hn14 hrb13
    obtain ⟨nx, rfl⟩ : ∃ k : Nat, nx = k := ⟨nx.toNat, by omega⟩
    have hokL2 : ∀ h ∈ L2, h.ok := by
      have e1 : itemsQ ((bs.take mb).drop 5) ((bs.take mb).getD 4 0).toNat = L2 := by
        unfold parseQ at h
        split at h
        · simp at h
        · split at h
          · simp at h
          · split at h
            · simp at h
            · simp only [Prod.mk.injEq] at h
              exact h.2.1
      rw [← e1]
      exact itemsQ_ok (fun c hc => hby2 c (List.mem_of_mem_drop hc)) _
    go_wp2_with fail
    have q15 := q14.alloc (.cells #[.int .u32 nx, .slice A14 n14 c14] 26)
    have b15 := Blk.new w14 #[.int .u32 nx, .slice A14 n14 c14] 26
    have r15 := hr14'.alloc (.cells #[.int .u32 nx, .slice A14 n14 c14] 26)
    have hrb15 := hrb14.alloc (.cells #[.int .u32 nx, .slice A14 n14 c14] 26)
    obtain ⟨w15, hW15⟩ : ∃ w15, w14.alloc (.cells #[.int .u32 nx, .slice A14 n14 c14] 26) = w15 := ⟨_, rfl⟩
    rw [hW15] at q15 b15 r15 hrb15 ⊢
    clear hW15 q14 hr14' hrb14
    generalize w14.heap.size = B14 at *
    have z0 := b15.cell' 0 rfl
    have z1 := b15.cell' 1 rfl
    have hf2 : formOf nx L2 = (bs.take mb, 0) := by unfold formOf; rw [if_pos hmy2, hbk]
    have hbf2 := bytes_any w15 nx (by omega) A14 n14 c14 L2 hn14' r15.rd hokL2
    rw [hf2] at hbf2
    clear hf2 hbk h
    have hbf2V := V.mk hbf2
    clear hbf2
    go_wp2_with fail
    refine hbf2V.out.mono ?_
    rintro e w16 ⟨A16, n16, c16, r16, rfl, hn16, hr16, _, hk16⟩
    have hn16' : (bs.take mb).length = n16 := hn16
    have hr16' : Row w16 5 1 A16 n16 c16 (B8 (bs.take mb)) r16 := hr16
    have q16 := q15.quiet hk16
    have z0' := hk16.cell z0 (fun h => h)
    have z1' := hk16.cell z1 (fun h => h)
    have r16L := r15.kp hk16 (fun _ _ h => h)
    have hrb16 := hrb15.kp hk16 (fun _ _ _ h => h)
    have hmyV := V.mk hmy2
    have hbmV := V.mk hbm
    have hnV := V.mk hn16'
    clear z0 z1 hk16 hr16 hn16 r15 hrb15 q15 hbf2V hmy2 hbm hn16'
    have may2 := may_any w16 (nx : Int) (by omega) (by omega) A14 n14 c14 L2 hn14' r16L.rd hokL2
    rw [hmyV.out] at may2
    have may2V := V.mk may2
    clear may2
    go_wp2_with fail
    refine may2V.out.mono ?_
    rintro e w17 ⟨rfl, hk17⟩
    have r17 := hr16'.kp hk17 (fun _ _ h => h)
    have hrb17 := hrb16.kp hk17 (fun _ _ _ h => h)
    have q17 := q16.quiet hk17
    clear hr16' hrb16 q16 hk17 may2V
    have heq := eqb_any w17 A16 Ab n16 mb c16 cb (bs.take mb) (bs.take mb) hnV.out hbmV.out r17.rd hrb17 hby2 hby2
    rw [show decide (bs.take mb = bs.take mb) = true by simp] at heq
    have heqV := V.mk heq
    clear heq
    go_wp2_with fail
    refine heqV.out.mono ?_
    rintro e w18 ⟨rfl, rfl⟩
    clear heqV
    go_wp2_with fail
    refine (wakes_any _).mono ?_
    rintro e w19 ⟨rfl, hk19⟩
    go_wp2
    go_ret
    exact ⟨rfl, q17.quiet hk19⟩

end Go.Proofs.Ytboambncimdfjaa
