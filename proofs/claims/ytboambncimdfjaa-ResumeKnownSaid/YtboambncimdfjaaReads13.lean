/- longwirelaw13.ResumeReads answers true. Condition: what is told reads as a list, the form as bytes. -/
import Derived.Test.YtboambncimdfjaaRParse13
import Derived.Test.YtboambncimdfjaaFew13
import Derived.Test.YtboambncimdfjaaOf13
import Derived.Test.YtboambncimdfjaaWakes13
import Derived.Test.YtboambncimdfjaaRForm13
import Derived.Test.YtboambncimdfjaaHeldE
set_option linter.unusedVariables false
set_option linter.unusedSimpArgs false
namespace Go.Proofs.Ytboambncimdfjaa
open Go.RowKit

theorem be4_isB {n : Int} (h0 : 0 ≤ n) (h1 : n < 4294967296) : IsB (be4 n) := by
  intro c hc
  simp only [be4, be2, List.cons_append, List.nil_append, List.mem_cons, List.not_mem_nil, or_false] at hc
  rcases hc with rfl | rfl | rfl | rfl <;> omega
theorem IsB.append {a b : List Int} (h1 : IsB a) (h2 : IsB b) : IsB (a ++ b) := fun c hc => (List.mem_append.1 hc).elim (h1 c) (h2 c)
theorem hvB_isB {h : Hv} (ho : h.ok) : IsB (hvB h) := by
  unfold hvB
  refine IsB.append (IsB.append (IsB.append (be4_isB ho.i0 ho.i1) (be4_isB ho.o0 ho.o1)) (be4_isB ho.e0 ho.e1)) ?_
  intro c hc
  rw [List.mem_singleton] at hc
  subst hc
  split <;> omega
theorem formOf_isB {next : Int} {l : List Hv} (h0 : 0 ≤ next) (h1 : next < 4294967296) (hok : ∀ h ∈ l, h.ok) (hl : l.length ≤ 255) : IsB (formOf next l).1 := by
  unfold formOf
  split
  · refine IsB.append (IsB.append (be4_isB h0 h1) ?_) ?_
    · intro c hc
      rw [List.mem_singleton] at hc
      omega
    · intro c hc
      obtain ⟨h, hh, hc⟩ := List.mem_flatMap.1 hc
      exact hvB_isB (hok h hh) c hc
  · intro c hc
    cases hc
theorem parseQ_len (bs : List Int) : (parseQ bs).2.1.length ≤ 16 := by
  unfold parseQ
  split
  · simp
  · split
    · simp
    · split
      · simp
      · rename_i h
        have h2 : may (numB (bs.take 4)) (itemsQ (bs.drop 5) (bs.getD 4 0).toNat) = true := by
          rcases Bool.eq_false_or_eq_true (may (numB (bs.take 4)) (itemsQ (bs.drop 5) (bs.getD 4 0).toNat)) with q | q
          · exact q
          · exact absurd (.inr q) h
        simp only [may, Bool.and_eq_true, decide_eq_true_eq] at h2
        exact h2.2

set_option maxRecDepth 100000 in
set_option maxHeartbeats 1000000 in
theorem like_any (w : World) (nx : Int) (A1 A2 : Option Addr) (n1 n2 c1 c2 : Nat) (l : List Hv) (hl1 : l.length = n1) (hl2 : l.length = n2) (h1 : Rd w A1 n1 c1 (hvCells l)) (h2 : Rd w A2 n2 c2 (hvCells l)) (hn : n1 ≤ 100000) :
    Calls Try.prog 33 #[.agg #[.int .u32 nx, .slice A1 n1 c1], .agg #[.int .u32 nx, .slice A2 n2 c2]] w fun e w' => e = .returned (.bool true) ∧ Kp w w' (fun _ => False) := by
  have hk := ((Kp.refl w (fun _ => False)).alloc (.cells #[.int .u32 nx, .slice A1 n1 c1] 26)).alloc (.cells #[.int .u32 nx, .slice A2 n2 c2] 44)
  have hb1 := (Blk.new w #[.int .u32 nx, .slice A1 n1 c1] 26).alloc (.cells #[.int .u32 nx, .slice A2 n2 c2] 44)
  have hb2 := Blk.new (w.alloc (.cells #[.int .u32 nx, .slice A1 n1 c1] 26)) #[.int .u32 nx, .slice A2 n2 c2] 44
  rw [World.size_alloc] at hb2
  obtain ⟨wa, hW⟩ : ∃ wa, (w.alloc (.cells #[.int .u32 nx, .slice A1 n1 c1] 26)).alloc (.cells #[.int .u32 nx, .slice A2 n2 c2] 44) = wa := ⟨_, rfl⟩
  have hWV := V.mk hW
  rw [hW] at hk hb1 hb2
  clear hW
  have x0 := hb1.cell' 0 rfl
  have x1 := hb1.cell' 1 rfl
  have y0 := hb2.cell' 0 rfl
  have y1 := hb2.cell' 1 rfl
  have rd1 := h1.kp hk (fun _ _ _ h => h)
  have rd2 := h2.kp hk (fun _ _ _ h => h)
  have hfd : ∀ (A : Option Addr) (c : Nat) (w : World), (Instr.field 44 (.agg #[.int .u32 nx, .slice A n1 c]) 1).run Try.prog w = .ok (.slice A n1 c) w := fun _ _ _ => by kernel_rfl
  go_enter Try.func33, Try.ntmps33
  go_wp2_with fail
  rw [hWV.out]
  generalize w.heap.size = B at *
  go_region_held3 (fun W => W.cell? ⟨B, 0, none⟩ = some (.int .u32 nx) ∧ W.cell? ⟨B, 1, none⟩ = some (.slice A1 n1 c1) ∧ W.cell? ⟨B + 1, 0, none⟩ = some (.int .u32 nx) ∧ W.cell? ⟨B + 1, 1, none⟩ = some (.slice A2 n2 c2)) (exact ⟨by assumption, by assumption, by assumption, by assumption⟩)
    ((first | (go_at_call 25; refine (eqr_any _ _ _ _ _ _ _ l l hl1 hl2 hr3.rd (rd2.kp (Kp.of_drew hk3) (fun _ _ _ h => h))).mono ?_; rw [show decide (l = l) = true by simp]; rintro e e4 ⟨rfl, hk4⟩; have z0 := hk4.cell t0 (fun h => h); have z1 := hk4.cell t1 (fun h => h); have z2 := hk4.cell t2 (fun h => h); have z3 := hk4.cell t3 (fun h => h))
            | (go_at_call 18; refine (of_any _ nx A1 n1 c1 l hl1 rd1.drew hn).mono ?_; rintro e e3 ⟨A3, c3, r3, rfl, hr3, hn3, hk3⟩; have t0 := (Kp.of_drew hk3).cell x0 (fun h => h); have t1 := (Kp.of_drew hk3).cell x1 (fun h => h); have t2 := (Kp.of_drew hk3).cell y0 (fun h => h); have t3 := (Kp.of_drew hk3).cell y1 (fun h => h))
            | fail "no arm fits"))
  all_goals
    go_wp2
    go_ret
    exact ⟨rfl, (hk.quiet (Kp.of_drew hk3)).quiet hk4⟩

set_option maxRecDepth 100000 in
set_option maxHeartbeats 4000000 in
theorem reads_any (w : World) (next : Nat) (hn1 : next < 4294967296) (A : Option Addr) (n c : Nat) (l : List Hv) (hl : l.length = n) (hrd : Rd w A n c (hvCells l)) (hok : ∀ h ∈ l, h.ok)
    (Ab : Option Addr) (nb cb : Nat) (bs : List Int) (hbl : bs.length = nb) (hrb : Rd w Ab nb cb (B8 bs)) (hby : IsB bs) :
    Calls Try.prog 5 #[.agg #[.int .u32 next, .slice A n c], .slice Ab nb cb] w fun e w' => e = .returned (.bool true) ∧ Kp w w' (fun _ => False) := by
  obtain ⟨m, hm⟩ : ∃ m, min n 20 = m := ⟨_, rfl⟩
  have hlm : (l.take 20).length = m := by rw [List.length_take]; omega
  have hm20 : m ≤ 20 := by omega
  have hok2 : ∀ h ∈ l.take 20, h.ok := fun h hh => hok h (List.mem_of_mem_take hh)
  obtain ⟨mb, hmb⟩ : ∃ m, min nb 300 = m := ⟨_, rfl⟩
  have hbm : (bs.take mb).length = mb := by rw [List.length_take]; omega
  have hmb3 : mb ≤ 300 := by omega
  have hmbn : mb ≤ nb := by omega
  have hby2 : IsB (bs.take mb) := fun x hx => hby x (List.mem_of_mem_take hx)
  have hncb : nb ≤ cb ∧ cb ≤ 9223372036854775807 := ⟨hrb.1, by have := hrb.2.1; simpa [maxLen] using this⟩
  have e300 : (if (300 : Int) < (nb : Int) then (300 : Int) else (nb : Int)) = (mb : Int) := by split <;> omega
  have hi0 : (0 : Int) ≤ (mb : Int) := by omega
  have hi1 : (mb : Int) ≤ (cb : Int) := by omega
  have hrb2 : Rd w Ab mb cb (B8 (bs.take mb)) := by
    have h0 := hrb.pre mb hmbn
    simpa [B8, List.map_take] using h0
  have hk0 := (Kp.refl w (fun _ => False)).alloc (.cells #[.int .u32 next, .slice A n c] 26)
  have hb0 := Blk.new w #[.int .u32 next, .slice A n c] 26
  have hfew := V.mk (few_any (w.alloc (.cells #[.int .u32 next, .slice A n c] 26)).drew next A n c l hl (hrd.kp hk0 (fun _ _ _ h => h)).drew m hm)
  have hlV := V.mk hlm
  generalize l.take 20 = L at *
  clear hm hlm
  obtain ⟨wa, hW⟩ : ∃ wa, w.alloc (.cells #[.int .u32 next, .slice A n c] 26) = wa := ⟨_, rfl⟩
  have hWV := V.mk hW
  rw [hW] at hk0 hb0 hfew
  clear hW
  have q0 := hb0.cell' 0 rfl
  have q1 := hb0.cell' 1 rfl
  go_enter Try.func5, Try.ntmps5
  go_wp2_with fail
  rw [hWV.out]
  obtain ⟨B0, hB0⟩ : ∃ B, w.heap.size = B := ⟨_, rfl⟩
  rw [hB0] at hb0 q0 q1 ⊢
  have hB0 := V.mk hB0
  refine wp_region_noPanic ?_
  refine wp_region_E (fun W => W.cell? ⟨B0, 0, none⟩ = some (.int .u32 next) ∧ W.cell? ⟨B0, 1, none⟩ = some (.slice A n c)) [7] (by kernel_rfl) ⟨q0, q1⟩ (fun hHeld => ?_)
  refine wpAnyE_load [1,7] (i := 0) (oi := ⟨some 13, _, _, _, _, _⟩) (v := ?_) rfl (by kernel_rfl) (by kernel_rfl) (by kernel_rfl) (by kernel_rfl) (by kernel_rfl) (by kernel_rfl) (fun _ _ _ h => h) (Or.inl ⟨by rfl, ?_⟩) hHeld ?_
  rotate_left
  · intro W' hSw; (try dsimp only at hSw); go_simp <;> with_reducible rfl
  try simp only [Act.put, List.setIfInBounds_toArray, List.set_cons_zero, List.set_cons_succ]
  refine wpAnyE_take (i := 2) (oi := ⟨some 15, _, _, _, _, _⟩) (v := ?_) rfl (by kernel_rfl) (by kernel_rfl) (by kernel_rfl) (fun _ _ _ h => h) (Or.inl ⟨by rfl, ?_⟩) ?_
  rotate_left
  · intro W' _; go_simp <;> with_reducible rfl
  try simp only [Act.put, List.setIfInBounds_toArray, List.set_cons_zero, List.set_cons_succ]
  refine wpAnyE_take (i := 3) (oi := ⟨some 16, _, _, _, _, _⟩) (v := ?_) rfl (by kernel_rfl) (by kernel_rfl) (by kernel_rfl) (fun _ _ _ h => h) (Or.inl ⟨by rfl, ?_⟩) ?_
  rotate_left
  · intro W' _; go_simp <;> with_reducible rfl
  try simp only [Act.put, List.setIfInBounds_toArray, List.set_cons_zero, List.set_cons_succ]
  refine wpAnyE_take (i := 4) (oi := ⟨some 17, _, _, _, _, _⟩) (v := ?_) rfl (by kernel_rfl) (by kernel_rfl) (by kernel_rfl) (fun _ _ _ h => h) (Or.inl ⟨by rfl, ?_⟩) ?_
  rotate_left
  · intro W' _; go_simp <;> with_reducible rfl
  try simp only [Act.put, List.setIfInBounds_toArray, List.set_cons_zero, List.set_cons_succ]
  refine wpAnyE_take (i := 5) (oi := ⟨some 18, _, _, _, _, _⟩) (v := ?_) rfl (by kernel_rfl) (by kernel_rfl) (by kernel_rfl) (fun _ _ _ h => h) (Or.inl ⟨by rfl, ?_⟩) ?_
  rotate_left
  · intro W' _; go_simp <;> with_reducible rfl
  try simp only [Act.put, List.setIfInBounds_toArray, List.set_cons_zero, List.set_cons_succ]
  refine wpAnyE_take (i := 6) (oi := ⟨some 19, _, _, _, _, _⟩) (v := ?_) rfl (by kernel_rfl) (by kernel_rfl) (by kernel_rfl) (fun _ _ _ h => h) (Or.inl ⟨by rfl, ?_⟩) ?_
  rotate_left
  · intro W' _; go_simp <;> with_reducible rfl
  try simp only [Act.put, List.setIfInBounds_toArray, List.set_cons_zero, List.set_cons_succ]
  refine wpAnyE_step (i := 1) (by kernel_rfl) rfl (fun K hK => ?_)
  go_simp
  go_at_call 17
  refine hfew.out.mono ?_
  rintro e w1 ⟨A1, c1, r1, rfl, hr1, hn1', hk1⟩
  have p0 := (Kp.of_drew hk1).cell q0 (fun h => h)
  have p1 := (Kp.of_drew hk1).cell q1 (fun h => h)
  have hb1 := Blk.kp hb0 (Kp.of_drew hk1) (fun h => h)
  have f0 := hb1.free 0
  have f1 := hb1.free 1
  go_simp
  refine hK.out _ _ (fun _ hHeld => ?_) ?_
  · (try dsimp only); exact ⟨p0, p1⟩
  clear hK K
  try simp only [Act.put, List.setIfInBounds_toArray, List.set_cons_zero, List.set_cons_succ]
  refine wpAnyE_step (i := 7) (by kernel_rfl) rfl (fun K hK => ?_)
  go_simp
  refine hK.out _ _ (fun h => by simp at h) ?_
  clear hK K
  try simp only [Act.put, List.setIfInBounds_toArray, List.set_cons_zero, List.set_cons_succ]
  refine wpAnyE_take (i := 8) (oi := ⟨some 1, _, _, _, _, _⟩) (v := ?_) rfl (by kernel_rfl) (by kernel_rfl) (by kernel_rfl) (fun _ _ _ h => h) (Or.inl ⟨by rfl, ?_⟩) ?_
  rotate_left
  · intro W' _; go_simp <;> with_reducible rfl
  try simp only [Act.put, List.setIfInBounds_toArray, List.set_cons_zero, List.set_cons_succ]
  refine wpAnyE_done (by kernel_rfl) ?_ _
  refine NoPanic.normal ?_
  have hk0d : Kp w wa.drew (fun _ => False) := hk0.drew
  have hne1 : r1 ≠ some B0 := fun e => by have := hn1' _ e; have := hb0.lt; simp only [World.size_drew] at *; omega
  have hb2 := ((hb1.set 0 (.int .u32 next)).set 1 (.slice A1 m c1))
  have hr2 := (hr1.far (p := ⟨B0, 0, none⟩) hne1 (.int .u32 next)).far (p := ⟨B0, 1, none⟩) hne1 (.slice A1 m c1)
  have hk2 : Kp w ((w1.setCell ⟨B0, 0, none⟩ (.int .u32 next)).setCell ⟨B0, 1, none⟩ (.slice A1 m c1)) (fun _ => False) :=
    ((hk0d.quiet hk1).set _ _ _ (.inr (Nat.le_of_eq hB0.out))).set _ _ _ (.inr (Nat.le_of_eq hB0.out))
  obtain ⟨w2, hW2⟩ : ∃ w2, (w1.setCell ⟨B0, 0, none⟩ (.int .u32 next)).setCell ⟨B0, 1, none⟩ (.slice A1 m c1) = w2 := ⟨_, rfl⟩
  rw [hW2] at hb2 hr2 hk2 ⊢
  clear hW2 hHeld q0 q1 p0 p1 f0 f1 hfew hb1 hb0 hk1 hk0d hr1 hn1' hne1
  have hrb2' := hrb2.kp hk2 (fun _ _ _ h => h)
  clear hrb hrb2
  have x0 := hb2.cell' 0 rfl
  have x1 := hb2.cell' 1 rfl
  have hF := V.mk (formOf_isB (next := (next : Int)) (l := L) (by omega) (by omega) hok2 (by rw [hlV.out]; omega))
  have hbf := V.mk (bytes_any w2 next hn1 A1 m c1 L hlV.out hr2.rd hok2)
  have hrbf := fun w4 A4 c4 (h4 : Rd w4 A4 m c4 (hvCells L)) => rbytes_any w4 next hn1 A4 m c4 L hlV.out h4 hok2
  obtain ⟨F, hFe⟩ : ∃ F, formOf next L = F := ⟨_, rfl⟩
  rw [hFe] at hF hbf hrbf
  clear hFe
  have hrbV := V.mk hrbf
  clear hrbf
  go_wp2_with fail
  refine hbf.out.mono ?_
  rintro e w3 ⟨A3, n3, c3, r3, rfl, hn3, hr3, _, hk3⟩
  have hb3 := Blk.kp hb2 hk3 (fun h => h)
  have x30 := hb3.cell' 0 rfl
  have x31 := hb3.cell' 1 rfl
  clear x0 x1
  go_wp2_with fail
  refine (of_any w3 next A1 m c1 L hlV.out (hr2.kp hk3 (fun _ _ h => h)).rd (by omega)).mono ?_
  rintro e w4 ⟨A4, c4, r4, rfl, hr4, _, hk4⟩
  go_wp2_with fail
  refine (hrbV.out w4 A4 c4 hr4.rd).mono ?_
  rintro e w5 ⟨A5, n5, c5, r5, rfl, hn5, hr5, _, hk5⟩
  have q25 := (hk3.quiet hk4).quiet hk5
  have hlR := parseQ_len (bs.take mb)
  have hpar := fun w5 (h : Rd w5 Ab mb cb (B8 (bs.take mb))) => parse_any w5 Ab mb cb (bs.take mb) hbm h hby2 (by omega)
  have hqar := fun w5 (h : Rd w5 Ab mb cb (B8 (bs.take mb))) => rparse_any w5 Ab mb cb (bs.take mb) hbm h hby2 (by omega)
  rw [parse_same _ hby2] at hpar
  obtain ⟨⟨ra, rl, re⟩, hR⟩ : ∃ R, parseQ (bs.take mb) = R := ⟨_, rfl⟩
  rw [hR] at hlR hpar hqar
  clear hR
  have hlR := V.mk hlR
  have hpar := V.mk hpar
  have hqar := V.mk hqar
  go_wp2_with fail
  refine (hpar.out w5 (hrb2'.kp q25 (fun _ _ _ h => h))).mono ?_
  rintro e w6 ⟨A6, n6, c6, r6, rfl, hn6, hr6, _, hk6⟩
  have q26 := q25.quiet hk6
  go_wp2_with fail
  have k67 := (Kp.refl w6 (fun _ => False)).alloc (.cells #[.int .u32 ra, .slice A6 n6 c6] 26)
  have b67 := Blk.new w6 #[.int .u32 ra, .slice A6 n6 c6] 26
  have b68 := Blk.kp hb2 q26 (fun h => h)
  have b68 := b68.alloc (.cells #[.int .u32 ra, .slice A6 n6 c6] 26)
  have r67 := hr6.alloc (.cells #[.int .u32 ra, .slice A6 n6 c6] 26)
  obtain ⟨w7, hW7⟩ : ∃ w7, w6.alloc (.cells #[.int .u32 ra, .slice A6 n6 c6] 26) = w7 := ⟨_, rfl⟩
  rw [hW7] at k67 b67 b68 r67 ⊢
  clear hW7
  have q27 := q26.quiet k67
  refine (hqar.out w7 (hrb2'.kp q27 (fun _ _ _ h => h))).mono ?_
  rintro e w8 ⟨A8, n8, c8, r8, rfl, hn8, hr8, _, hk8⟩
  have q28 := q27.quiet hk8
  go_wp2_with fail
  have k89 := (Kp.refl w8 (fun _ => False)).alloc (.cells #[.int .u32 ra, .slice A8 n8 c8] 44)
  have b89 := Blk.new w8 #[.int .u32 ra, .slice A8 n8 c8] 44
  have r89 := hr8.alloc (.cells #[.int .u32 ra, .slice A8 n8 c8] 44)
  obtain ⟨w9, hW9⟩ : ∃ w9, w8.alloc (.cells #[.int .u32 ra, .slice A8 n8 c8] 44) = w9 := ⟨_, rfl⟩
  rw [hW9] at k89 b89 r89 ⊢
  clear hW9
  have q29 := q28.quiet k89
  have b0 := Blk.kp hb2 q29 (fun h => h)
  have b6 := Blk.kp b67 (hk8.quiet k89) (fun h => h)
  have rL := hr2.kp q29 (fun _ _ h => h)
  have rR6 := r67.kp (hk8.quiet k89) (fun _ _ h => h)
  have rF3 := hr3.kp ((((hk4.quiet hk5).quiet hk6).quiet k67).quiet (hk8.quiet k89)) (fun _ _ h => h)
  have rF5 := hr5.kp ((hk6.quiet k67).quiet (hk8.quiet k89)) (fun _ _ h => h)
  have kw9 := hk2.quiet q29
  clear q29 q28 q27 q26 q25 k89 k67 hk8 hk6 hk5 hk4 hk3 hk2 hk0 b67 b68 r67 hr8 hr6 hr5 hr4 hr3 hr2 hb3 hb2 x30 x31 hrb2' hpar hqar hbf hrbV hrd
  generalize w6.heap.size = B6 at *
  generalize w8.heap.size = B8' at *
  have y0 := b0.cell' 0 rfl
  have y1 := b0.cell' 1 rfl
  have y2 := b6.cell' 0 rfl
  have y3 := b6.cell' 1 rfl
  have y4 := b89.cell' 0 rfl
  have y5 := b89.cell' 1 rfl
  have hcells : ∀ W, Kp w9 W (fun _ => False) → W.cell? ⟨B0, 0, none⟩ = some (.int .u32 next) ∧ W.cell? ⟨B0, 1, none⟩ = some (.slice A1 m c1) ∧ W.cell? ⟨B6, 0, none⟩ = some (.int .u32 ra) ∧ W.cell? ⟨B6, 1, none⟩ = some (.slice A6 n6 c6) ∧ W.cell? ⟨B8', 0, none⟩ = some (.int .u32 ra) ∧ W.cell? ⟨B8', 1, none⟩ = some (.slice A8 n8 c8) := fun W hk =>
    ⟨hk.cell y0 (fun h => h), hk.cell y1 (fun h => h), hk.cell y2 (fun h => h), hk.cell y3 (fun h => h), hk.cell y4 (fun h => h), hk.cell y5 (fun h => h)⟩
  have hn6' : rl.length = n6 := hn6
  have hn8' : rl.length = n8 := hn8
  have hle : n6 ≤ 100000 := by
    have h1 : rl.length ≤ 16 := hlR.out
    omega
  have rR6' : Rd w9 A6 n6 c6 (hvCells rl) := rR6.rd
  have rR8' : Rd w9 A8 n8 c8 (hvCells rl) := r89.rd
  have hcV := V.mk hcells
  clear hcells
  go_wp2_with fail
  go_region_held3 (fun W => W.cell? ⟨B0, 0, none⟩ = some (.int .u32 next) ∧ W.cell? ⟨B0, 1, none⟩ = some (.slice A1 m c1) ∧ W.cell? ⟨B6, 0, none⟩ = some (.int .u32 ra) ∧ W.cell? ⟨B6, 1, none⟩ = some (.slice A6 n6 c6) ∧ W.cell? ⟨B8', 0, none⟩ = some (.int .u32 ra) ∧ W.cell? ⟨B8', 1, none⟩ = some (.slice A8 n8 c8)) (first | exact hcV.out _ (Kp.refl w9 _).drew | exact hcV.out _ k6 | exact hcV.out _ k5 | exact hcV.out _ k4 | exact hcV.out _ k3 | exact hcV.out _ k2 | exact hHeld)
    ((first | (go_at_call 16; refine (wakes_any _).mono ?_; rintro e e6 ⟨rfl, k6'⟩; have k6 := k5.quiet k6')
            | (go_at_call 33; refine (like_any _ _ _ _ _ _ _ _ rl hn6' hn8' (rR6'.kp k4 (fun _ _ _ h => h)) (rR8'.kp k4 (fun _ _ _ h => h)) hle).mono ?_; rintro e e5 ⟨rfl, k5'⟩; have k5 := k4.quiet k5')
            | (go_at_call 32; refine (rmay_any _ next (by omega) (by omega) _ _ _ L hlV.out hr3.rd hok2).mono ?_; rintro e e4 ⟨rfl, k4'⟩; have k4 := k3.quiet k4')
            | (go_at_call 18; refine (of_any _ next A1 m c1 L hlV.out (rL.rd.kp k2 (fun _ _ _ h => h)) (by omega)).mono ?_; rintro e e3 ⟨A12, c12, r12, rfl, hr3, _, k3'⟩; have k3 := k2.quiet k3')
            | (go_at_call 15; refine (may_any _ next (by omega) (by omega) A1 m c1 L hlV.out rL.rd.drew hok2).mono ?_; rintro e e2 ⟨rfl, k2'⟩; have k2 := Kp.of_drew k2')
            | (go_at_call 31; refine (eqb_any _ _ _ _ _ _ _ F.1 F.1 hn3 hn5 rF3.rd.drew rF5.rd.drew hF.out hF.out).mono ?_; rw [show decide (F.1 = F.1) = true by simp]; rintro e e1 ⟨rfl, rfl⟩)
            | fail "no arm fits"))
  all_goals
    go_wp2
    go_ret
    exact ⟨rfl, kw9.quiet k6⟩

end Go.Proofs.Ytboambncimdfjaa
