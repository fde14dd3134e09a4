/- longwirelaw15.LogKnown: the walk: it answers true. Condition: the table stands. -/
import Derived.Test.YtkameiopahcacaaDoorKn15M
import Derived.Test.YtkameiopahcacaaDoorNil15
import Derived.Test.YtkameiopahcacaaDoorWakes15
set_option linter.unusedVariables false
set_option linter.unusedSimpArgs false
set_option maxRecDepth 100000
namespace Go.Proofs.YtkameiopahcacaaDoor
open Go.RowKit Go.Shelf

/-- Bytes that the law keeps beside the disk. -/
structure Kept (W : World) (A : Option Addr) (n c : Nat) (bs : List Int) (rr : Option Nat) (r : Option Nat) : Prop where
  row : Row W 5 1 A n c (B8 bs) rr
  far : ∀ k, rr = some k → r ≠ some k
theorem Kept.quiet {W W' : World} {A : Option Addr} {n c : Nat} {bs : List Int} {rr r : Option Nat} (h : Kept W A n c bs rr r) (hk : Kp W W' (fun _ => False)) : Kept W' A n c bs rr r := ⟨h.row.kp hk (fun _ _ h => h), h.far⟩
theorem Kept.step {W W' : World} {A : Option Addr} {n c : Nat} {bs : List Int} {rr r r' : Option Nat} (h : Kept W A n c bs rr r) {S : Nat → Prop} (hk : Kp W W' S) (hf : Fr W r r') (hS : ∀ k, S k → r = some k ∨ rr ≠ some k) : Kept W' A n c bs rr r' := by
  refine ⟨h.row.kp hk (fun k h1 h2 => ?_), fun k h1 h2 => ?_⟩
  · rcases hS k h2 with h3 | h3
    · exact h.far k h1 h3
    · exact h3 h1
  · rcases hf.of_lt h2 with h3 | h3
    · exact h.far k h1 h3
    · have := h.row.lt h1; omega
theorem Kept.disk {w0 W W' : World} {dg : Nat} {d : Dsk} {A : Option Addr} {n c : Nat} {bs : List Int} {rr r r' : Option Nat} (h : Kept W A n c bs rr r) (hd : DS w0 W dg r d) (hk : Kp W W' (fun k => k = dg ∨ r = some k)) (hf : Fr W r r') : Kept W' A n c bs rr r' :=
  h.step hk hf (by
    obtain ⟨A', c', hb, -⟩ := hd.hd
    rintro k (rfl | h1)
    · exact .inr (h.row.ne_type hb (by decide))
    · exact .inl h1)
theorem Kept.log {w0 W W' : World} {dg g : Nat} {d : Dsk} {l : Lg} {A : Option Addr} {n c : Nat} {bs : List Int} {rr r r' : Option Nat} (h : Kept W A n c bs rr r) (hd : DS w0 W dg r d) (hl : IsLg W g dg l) (hk : Kp W W' (fun k => k = g ∨ k = dg ∨ r = some k)) (hf : Fr W r r') : Kept W' A n c bs rr r' :=
  h.step hk hf (by
    obtain ⟨A', c', hb, -⟩ := hd.hd
    rintro k (rfl | rfl | h1)
    · exact .inr (h.row.ne_type hl (by decide))
    · exact .inr (h.row.ne_type hb (by decide))
    · exact .inl h1)

theorem IsLg.row2 {W : World} {dg dz g : Nat} {l : Lg} {r : Option Nat} {d : Dsk} (h : IsLg W g dg l) (hd : IsDisk W dz r d) : r ≠ some g ∧ g ≠ dz := by
  obtain ⟨A, c, hb, hr⟩ := hd
  exact ⟨hr.ne_type h (by decide), Blk.ne_type h hb (by decide)⟩

set_option maxHeartbeats 16000000 in
theorem known_any (w : World) (ht : Tab w) : Calls Tryd.prog 3 #[] w fun e w' => e = .returned (.bool true) ∧ Kp w w' (fun _ => False) := by
  obtain ⟨i1, hi', hz0', hz1', hz2'⟩ := info_parts i_byte
  have hZ : ZLog (w.alloc (.cells #[.pointer none, .int .i64 0, .int .u32 0, .int .u32 0] 26)) w.heap.size := Blk.new w #[.pointer none, .int .i64 0, .int .u32 0, .int .u32 0] 26
  have hkZ : Kp w (w.alloc (.cells #[.pointer none, .int .i64 0, .int .u32 0, .int .u32 0] 26)) (fun _ => False) := (Kp.refl w _).alloc _
  go_enter Tryd.func3, Tryd.ntmps3
  go_wp2_with fail
  obtain ⟨gz, hgz⟩ : ∃ k, w.heap.size = k := ⟨_, rfl⟩
  rw [hgz] at hZ
  have hgzw : w.heap.size ≤ gz := by omega
  obtain ⟨W0, hW0⟩ : ∃ W0, w.alloc (.cells #[.pointer none, .int .i64 0, .int .u32 0, .int .u32 0] 26) = W0 := ⟨_, rfl⟩
  rw [hW0] at hZ hkZ ⊢
  clear hW0
  refine (lappend_nil W0 _ _ _).mono ?_
  rintro e x ⟨rfl, hx⟩
  subst hx
  go_wp2_with fail
  refine (lappend_zero W0 gz hZ _ _ _).mono ?_
  rintro e x ⟨rfl, hx⟩
  subst hx
  go_wp2_with fail
  refine (recover_nil W0).mono ?_
  rintro e x ⟨rfl, hx⟩
  subst hx
  go_wp2_with fail
  refine (lnext_nil W0).mono ?_
  rintro e x ⟨rfl, hx⟩
  subst hx
  go_wp2_with fail
  refine (lsize_zero W0 gz hZ).mono ?_
  rintro e x ⟨rfl, hx⟩
  subst hx
  go_wp2_with fail
  refine (rows_nil W0 (by have := ht.lt; have := hkZ.size; omega)).mono ?_
  rintro e w1 ⟨A1, c1, r1, qs1, rfl, hrow1, -, hk1, -, -⟩
  have hk01 : Kp w w1 (fun _ => False) := hkZ.quiet hk1
  clear hrow1 hZ hkZ hk1 hgz
  have hnew := V.mk (new_ds (w0 := w) (W := w1) 200000 (by omega) hk01)
  clear hk01
  go_wp2_with fail
  refine hnew.out.mono ?_
  rintro e w2 ⟨rfl, hd2', hk2⟩
  obtain ⟨dg, hdg⟩ : ∃ k, w1.heap.size = k := ⟨_, rfl⟩
  rw [hdg] at hd2' ⊢
  clear hdg hnew hk2
  have hd2 : DS w w2 dg none kd0 := hd2'
  clear hd2'
  go_wp2_with fail
  refine (rec_ds ht hd2).mono ?_
  rintro e w3 ⟨r3, hd3, hk3, hf3, hp⟩
  rw [k_a] at hd3 hp
  rcases hp with ⟨h0, -⟩ | ⟨-, g, hg, rfl, hl3⟩
  · exact absurd rfl h0
  have hgw : w.heap.size ≤ g := by have := hd2.kp.size; omega
  have ho3 : (recG kd0.b).ok kd0 := by have := recG_ok (d := kd0) hd2.by_; rw [k_a] at this; exact this
  have hka := (Kp.refl w3 (fun _ => False)).alloc (.cells #[.int .u8 111, .int .u8 110, .int .u8 101] 5 (3, 4))
  have hcv := cv_bytes w3 #[.int .u8 111, .int .u8 110, .int .u8 101] 3 3
  have ha := V.mk (app_ds ht (hd3.quiet hka) (hl3.kp hka (fun h => h)) hgw ho3 (some ⟨w3.heap.size, 0, none⟩) 3 3 kx1 rfl (Rd.lit w3 5 (3, 4) 3 [.int .u8 111, .int .u8 110, .int .u8 101] (by simp [maxLen])) (isB_lit (by decide)))
  clear hd2 hk3 hf3 hg hl3 hka
  go_wp2_with fail
  refine ha.out.mono ?_
  rintro e w4 ⟨rfl, r4, hd4', hl4', -, -⟩
  have ho4 : kl1.ok kd1 := by have := Lg.app_ok (x := kx1) ho3; rw [k_b] at this; exact this
  rw [k_b] at hd4' hl4' ⊢
  have hd4 : DS w w4 dg r4 kd1 := hd4'
  have hl4 : IsLg w4 g dg kl1 := hl4'
  clear ha hd4' hl4' hcv hd3 ho3
  go_wp2_with fail
  have hrd := read_any w4 dg r4 kd1 hd4.hd hd4.ok 0 100 (by omega)
  rw [k_read] at hrd
  refine hrd.mono ?_
  rintro e w5 ⟨A5, n5, c5, rr, rfl, hrow5, hnew5, hk5⟩
  have hn5 : n5 = 13 := by have := hrow5.len; rw [B8_length, kc1_len] at this; omega
  subst hn5
  have kf5 : Kept w5 A5 13 c5 kc1 rr r4 := ⟨hrow5, fun k h1 h2 => by have := hnew5 k h1; have := hd4.hd.rlt h2; omega⟩
  have hd5 := hd4.quiet hk5
  have hl5 := hl4.kp hk5 (fun h => h)
  clear hrd hrow5 hnew5 hk5 hd4 hl4
  have hka := (Kp.refl w5 (fun _ => False)).alloc (.cells #[.int .u8 0, .int .u8 0, .int .u8 0, .int .u8 0, .int .u8 0, .int .u8 0, .int .u8 0, .int .u8 1, .int .u8 0, .int .u8 3, .int .u8 111, .int .u8 110, .int .u8 101] 5)
  have hcr := V.mk (crc_any (w5.alloc (.cells #[.int .u8 0, .int .u8 0, .int .u8 0, .int .u8 0, .int .u8 0, .int .u8 0, .int .u8 0, .int .u8 1, .int .u8 0, .int .u8 3, .int .u8 111, .int .u8 110, .int .u8 101] 5)) ((hd5.quiet hka).tab ht) (some ⟨w5.heap.size, 0, none⟩) 13 13 [0, 0, 0, 0, 0, 0, 0, 1, 0, 3, 111, 110, 101] rfl
    (Rd.lit w5 5 (0, 0) 13 [.int .u8 0, .int .u8 0, .int .u8 0, .int .u8 0, .int .u8 0, .int .u8 0, .int .u8 0, .int .u8 1, .int .u8 0, .int .u8 3, .int .u8 111, .int .u8 110, .int .u8 101] (by simp [maxLen])) (isB_lit (by decide)))
  have hd6 := hd5.quiet hka
  have hl6 := hl5.kp hka (fun h => h)
  have kf6 := kf5.quiet hka
  clear hd5 hl5 kf5 hka
  go_wp2_with fail
  refine hcr.out.mono ?_
  rintro e w6 ⟨rfl, hw6⟩
  rw [kcrc]
  rw [hw6] at hd6 hl6 kf6
  clear hcr hw6
  have hka := (Kp.refl w6 (fun _ => False)).alloc (.cells #[.int .u8 0, .int .u8 3, .int .u8 0, .int .u8 0, .int .u8 0, .int .u8 1, .int .u8 83, .int .u8 176, .int .u8 101, .int .u8 42, .int .u8 111, .int .u8 110, .int .u8 101] 5)
  have kw7 : Kept (w6.alloc (.cells #[.int .u8 0, .int .u8 3, .int .u8 0, .int .u8 0, .int .u8 0, .int .u8 1, .int .u8 83, .int .u8 176, .int .u8 101, .int .u8 42, .int .u8 111, .int .u8 110, .int .u8 101] 5)) (some ⟨w6.heap.size, 0, none⟩) 13 13 kc1 (some w6.heap.size) r4 := by
    refine ⟨?_, fun k h1 h2 => ?_⟩
    · have := Row.made w6 #[.int .u8 0, .int .u8 3, .int .u8 0, .int .u8 0, .int .u8 0, .int .u8 1, .int .u8 83, .int .u8 176, .int .u8 101, .int .u8 42, .int .u8 111, .int .u8 110, .int .u8 101] 5 1 13 13 (by omega) (by simp [maxLen]) rfl
      rw [kc1_eq]
      exact this
    · simp only [Option.some.injEq] at h1
      have := hd6.hd.rlt h2; omega
  have hd7 := hd6.quiet hka
  have hl7 := hl6.kp hka (fun h => h)
  have kf7 := kf6.quiet hka
  obtain ⟨gw, hgwant⟩ : ∃ k, w6.heap.size = k := ⟨_, rfl⟩
  rw [hgwant] at kw7
  clear hka hd6 hl6 kf6
  obtain ⟨N1, hN1⟩ : ∃ N : Nat, V (N = 65536) := ⟨_, ⟨rfl⟩⟩
  go_wp2_with (at_make; refine wpList_mk (by rfl) (.const (.int .i64 65536)) (.const (.int .i64 65536)) 38 rfl 5 i1 (.int .u8 0) u_bytes hi' hz0' hz1' rfl .i64 .i64 65536 65536 N1 (by rfl) (by rfl) (by rw [hN1.out]; rfl) (by rw [hN1.out]; rfl) (by rw [hz2', hN1.out]; omega) (by rw [hN1.out]; simp only [maxLen]; omega) ?_)
  intro w7 hrow7 hk7
  have hd8 := hd7.quiet hk7
  have hl8 := hl7.kp hk7 (fun h => h)
  have kf8 := kf7.quiet hk7
  have kw8 := kw7.quiet hk7
  have ha := V.mk (app_ds ht hd8 hl8 hgw ho4 _ N1 N1 (List.replicate N1 0) (List.length_replicate ..) (by rw [B8_zeros]; exact hrow7.rd) (zeros_isB _))
  rw [k_c _ (by rw [List.length_replicate]; exact hN1.out)] at ha
  clear hd7 hl7 kf7 kw7 hrow7 hk7
  go_wp2_with fail
  refine ha.out.mono ?_
  rintro e w8 ⟨rfl, r8, hd9', hl9', hk, hf⟩
  have kf9 := kf8.log hd8 hl8 hk hf
  have kw9 := kw8.log hd8 hl8 hk hf
  have hd9 : DS w w8 dg r8 kd1 := hd9'
  have hl9 : IsLg w8 g dg kl1 := hl9'
  clear ha hd9' hl9' hk hf hd8 hl8 kf8 kw8
  obtain ⟨N2, hN2⟩ : ∃ N : Nat, V (N = 65535) := ⟨_, ⟨rfl⟩⟩
  have hN2e : V (List.replicate N2 0 = kbig) := ⟨by rw [hN2.out]; rfl⟩
  go_wp2_with (at_make; refine wpList_mk (by rfl) (.const (.int .i64 65535)) (.const (.int .i64 65535)) 38 rfl 5 i1 (.int .u8 0) u_bytes hi' hz0' hz1' rfl .i64 .i64 65535 65535 N2 (by rfl) (by rfl) (by rw [hN2.out]; rfl) (by rw [hN2.out]; rfl) (by rw [hz2', hN2.out]; omega) (by rw [hN2.out]; simp only [maxLen]; omega) ?_)
  intro w9 hrow9 hk9
  have hd10 := hd9.quiet hk9
  have hl10 := hl9.kp hk9 (fun h => h)
  have kf10 := kf9.quiet hk9
  have kw10 := kw9.quiet hk9
  have ha := V.mk (app_ds ht hd10 hl10 hgw ho4 _ N2 N2 (List.replicate N2 0) (List.length_replicate ..) (by rw [B8_zeros]; exact hrow9.rd) (zeros_isB _))
  rw [hN2e.out, k_d] at ha
  have ho10 : kl2.ok kd2 := by have := Lg.app_ok (x := kbig) ho4; rw [k_d] at this; exact this
  clear hd9 hl9 kf9 kw9 hrow9 hk9 hN2e
  go_wp2_with fail
  refine ha.out.mono ?_
  rintro e w10 ⟨rfl, r10, hd11', hl11', hk, hf⟩
  have kf11 := kf10.log hd10 hl10 hk hf
  have kw11 := kw10.log hd10 hl10 hk hf
  have hd11 : DS w w10 dg r10 kd2 := hd11'
  have hl11 : IsLg w10 g dg kl2 := hl11'
  clear ha hd11' hl11' hk hf hd10 hl10 kf10 kw10
  have hs := V.mk (lsize_is w10 g dg 65558 ks2 3 hl11)
  go_wp2_with fail
  refine hs.out.mono ?_
  rintro e x ⟨rfl, hx⟩
  subst hx
  clear hs
  have hp := V.mk (plan_ds hd11 0 5)
  rw [k_e] at hp
  go_wp2_with fail
  refine hp.out.mono ?_
  rintro e w11 ⟨rfl, r11, hd12', hk, hf⟩
  have kf12 := kf11.disk hd11 hk hf
  have kw12 := kw11.disk hd11 hk hf
  have hd12 : DS w w11 dg r11 kd3 := hd12'
  have hgd := hl11.row hd11.hd
  have hl12 := hl11.kp hk (by rintro (h | h); exact hgd.2 h; exact hgd.1 h)
  have ho12 : kl2.ok kd3 := ho10.len (Nat.le_refl _)
  clear hp hd12' hk hf hd11 hl11 kf11 kw11 hgd
  have hka := (Kp.refl w11 (fun _ => False)).alloc (.cells #[.int .u8 116, .int .u8 119, .int .u8 111] 5 (3, 4))
  have hcv := cv_bytes w11 #[.int .u8 116, .int .u8 119, .int .u8 111] 3 3
  have ha := V.mk (app_ds ht (hd12.quiet hka) (hl12.kp hka (fun h => h)) hgw ho12 (some ⟨w11.heap.size, 0, none⟩) 3 3 ktwo rfl (Rd.lit w11 5 (3, 4) 3 [.int .u8 116, .int .u8 119, .int .u8 111] (by simp [maxLen])) (isB_lit (by decide)))
  rw [k_f] at ha
  have kf12' := kf12.quiet hka
  have kw12' := kw12.quiet hka
  have hd12' := hd12.quiet hka
  have hl12' := hl12.kp hka (fun h => h)
  clear kf12 kw12 hd12 hl12 hka
  go_wp2_with fail
  refine ha.out.mono ?_
  rintro e w12 ⟨rfl, r12, hd13', -, hk, hf⟩
  have kf13 := kf12'.log hd12' hl12' hk hf
  have kw13 := kw12'.log hd12' hl12' hk hf
  have hd13 : DS w w12 dg r12 kd4 := hd13'
  clear ha hd13' hk hf hd12' hl12' kf12' kw12' hcv
  go_wp2_with fail
  refine (rec_ds ht hd13).mono ?_
  rintro e w13 ⟨r13, hd14, hk, hf, hp⟩
  rw [k_g] at hd14 hp
  rcases hp with ⟨-, rfl⟩ | ⟨h0, -⟩
  rotate_left
  · exact absurd h0 (by decide)
  have kf14 := kf13.disk hd13 hk hf
  have kw14 := kw13.disk hd13 hk hf
  clear hd13 kf13 kw13 hk hf
  have hv := V.mk (revive_ds hd14)
  rw [k_h] at hv
  go_wp2_with fail
  refine hv.out.mono ?_
  rintro e w14 ⟨rfl, r14, hd15', hk, hf⟩
  have kf15 := kf14.disk hd14 hk hf
  have kw15 := kw14.disk hd14 hk hf
  have hd15 : DS w w14 dg r14 kd5 := hd15'
  clear hv hd15' hk hf hd14 kf14 kw14
  have hp := V.mk (plan_ds hd15 0 2)
  rw [k_i] at hp
  go_wp2_with fail
  refine hp.out.mono ?_
  rintro e w15 ⟨rfl, r15, hd16', hk, hf⟩
  have kf16 := kf15.disk hd15 hk hf
  have kw16 := kw15.disk hd15 hk hf
  have hd16 : DS w w15 dg r15 kd6 := hd16'
  clear hp hd16' hk hf hd15 kf15 kw15
  go_wp2_with fail
  refine (rec_ds ht hd16).mono ?_
  rintro e w16 ⟨r16, hd17, hk, hf, hp⟩
  rw [k_j] at hd17 hp
  rcases hp with ⟨-, rfl⟩ | ⟨h0, -⟩
  rotate_left
  · exact absurd h0 (by decide)
  have kf17 := kf16.disk hd16 hk hf
  have kw17 := kw16.disk hd16 hk hf
  clear hd16 kf16 kw16 hk hf
  have hv := V.mk (revive_ds hd17)
  rw [k_k] at hv
  go_wp2_with fail
  refine hv.out.mono ?_
  rintro e w17 ⟨rfl, r17, hd18', hk, hf⟩
  have kf18 := kf17.disk hd17 hk hf
  have kw18 := kw17.disk hd17 hk hf
  have hd18 : DS w w17 dg r17 kd8 := hd18'
  clear hv hd18' hk hf hd17 kf17 kw17
  go_wp2_with fail
  refine (rec_ds ht hd18).mono ?_
  rintro e w18 ⟨r18, hd19, hk, hf, hp⟩
  rcases hp with ⟨h0, -⟩ | ⟨-, gy, hgy, rfl, hly⟩
  · exact absurd k_l.1 h0
  rw [k_l.2] at hly
  have kf19 := kf18.disk hd18 hk hf
  have kw19 := kw18.disk hd18 hk hf
  have hgyw : w.heap.size ≤ gy := by have := hd18.kp.size; omega
  have hk19 := hd19.kp
  clear hd18 kf18 kw18 hk hf hgy hd19
  have hnew := V.mk (new_ds (w0 := w) (W := w18) 12 (by omega) hk19)
  go_wp2_with fail
  refine hnew.out.mono ?_
  rintro e w19 ⟨rfl, hz', hk⟩
  have kf20 := kf19.quiet hk
  have kw20 := kw19.quiet hk
  have hly20 := hly.kp hk (fun h => h)
  obtain ⟨dz, hdz⟩ : ∃ k, w18.heap.size = k := ⟨_, rfl⟩
  rw [hdz] at hz' ⊢
  have hz20 : DS w w19 dz none kz0 := hz'
  have hgydz : gy < dz := by have := Blk.lt hly; omega
  have hrrdz : ∀ k, rr = some k → k < dz := fun k h => by have := kf19.row.lt h; omega
  have hgwdz : gw < dz := by have := kw19.row.lt rfl; omega
  clear hnew hz' hk kf19 kw19 hly hk19
  go_wp2_with fail
  refine (rec_ds ht hz20).mono ?_
  rintro e w20 ⟨r20, hz21, hk, hf, hp⟩
  rw [k_m] at hz21 hp
  rcases hp with ⟨h0, -⟩ | ⟨-, gs, hgs, rfl, hls⟩
  · exact absurd rfl h0
  have kf20' : Kept w19 A5 13 c5 kc1 rr none := ⟨kf20.row, fun _ _ h => by simp at h⟩
  have kw20' : Kept w19 (some ⟨gw, 0, none⟩) 13 13 kc1 (some gw) none := ⟨kw20.row, fun _ _ h => by simp at h⟩
  have kf21 := kf20'.disk hz20 hk hf
  have kw21 := kw20'.disk hz20 hk hf
  have hgy := hly20.row2 hz20.hd
  have hly21 := hly20.kp hk (by rintro (h | h); exact hgy.2 h; exact hgy.1 h)
  have hgsy : gy < gs := by have := hz20.hd.lt; omega
  have hgsw : w.heap.size ≤ gs := by omega
  have hos : (recG kz0.b).ok kz0 := by have := recG_ok (d := kz0) hz20.by_; rw [k_m] at this; exact this
  clear hk hf hz20 kf20 kw20 kf20' kw20' hly20 hgs
  have hka := (Kp.refl w20 (fun _ => False)).alloc (.cells #[.int .u8 97, .int .u8 98, .int .u8 99] 5 (3, 4))
  have hcv := cv_bytes w20 #[.int .u8 97, .int .u8 98, .int .u8 99] 3 3
  have ha := V.mk (app_ds ht (hz21.quiet hka) (hls.kp hka (fun h => h)) hgsw hos (some ⟨w20.heap.size, 0, none⟩) 3 3 [97, 98, 99] rfl (Rd.lit w20 5 (3, 4) 3 [.int .u8 97, .int .u8 98, .int .u8 99] (by simp [maxLen])) (isB_lit (by decide)))
  rw [k_n] at ha
  have hz22 := hz21.quiet hka
  have hls22 := hls.kp hka (fun h => h)
  have kf22 := kf21.quiet hka
  have kw22 := kw21.quiet hka
  have hly22 := hly21.kp hka (fun h => h)
  clear hz21 hls kf21 kw21 hly21 hka
  go_wp2_with fail
  refine ha.out.mono ?_
  rintro e w21 ⟨rfl, r21, hz23', hls23', hk, hf⟩
  have hgy := hly22.row2 hz22.hd
  have kf23 := kf22.log hz22 hls22 hk hf
  have kw23 := kw22.log hz22 hls22 hk hf
  have hly23 := hly22.kp hk (by rintro (h | h | h); omega; exact hgy.2 h; exact hgy.1 h)
  have hz23 : DS w w21 dz r21 kz0 := hz23'
  have hls23 : IsLg w21 gs dz (recG kz0.b) := hls23'
  clear ha hz23' hls23' hk hf hz22 hls22 kf22 kw22 hly22 hcv hgy
  have hka := (Kp.refl w21 (fun _ => False)).alloc (.cells #[.int .u8 97, .int .u8 98] 5 (2, 3))
  have hcv := cv_bytes w21 #[.int .u8 97, .int .u8 98] 2 2
  have ha := V.mk (app_ds ht (hz23.quiet hka) (hls23.kp hka (fun h => h)) hgsw hos (some ⟨w21.heap.size, 0, none⟩) 2 2 [97, 98] rfl (Rd.lit w21 5 (2, 3) 2 [.int .u8 97, .int .u8 98] (by simp [maxLen])) (isB_lit (by decide)))
  have hz24 := hz23.quiet hka
  have hls24 := hls23.kp hka (fun h => h)
  have kf24 := kf23.quiet hka
  have kw24 := kw23.quiet hka
  have hly24 := hly23.kp hka (fun h => h)
  clear hz23 hls23 kf23 kw23 hly23 hka
  go_wp2_with fail
  refine ha.out.mono ?_
  rintro e w22 ⟨rfl, r22, hz25', hls25', hk, hf⟩
  rw [k_o.1]
  have hgy := hly24.row2 hz24.hd
  have kf25 := kf24.log hz24 hls24 hk hf
  have kw25 := kw24.log hz24 hls24 hk hf
  have hly25 := hly24.kp hk (by rintro (h | h | h); omega; exact hgy.2 h; exact hgy.1 h)
  have hz25 : DS w w22 dz r22 kz1 := hz25'
  have hls25 : IsLg w22 gs dz kzl := hls25'
  clear ha hz25' hls25' hk hf hz24 hls24 kf24 kw24 hly24 hcv hgy
  have hq := eqb_any w22 A5 (some ⟨gw, 0, none⟩) 13 13 c5 13 kc1 kc1 kc1_len kc1_len kf25.row.rd kw25.row.rd (by rw [kc1_eq]; exact isB_lit (by decide)) (by rw [kc1_eq]; exact isB_lit (by decide))
  rw [decide_eq_true (rfl : kc1 = kc1)] at hq
  have hqV := V.mk hq
  clear hq
  go_wp2_with fail
  refine hqV.out.mono ?_
  rintro e x ⟨rfl, hx⟩
  subst hx
  have hny := V.mk (lnext_is w22 gy dg 65558 ks2 3 hly25)
  go_wp2_with fail
  refine hny.out.mono ?_
  rintro e x ⟨rfl, hx⟩
  subst hx
  have hnz := lnext_is w22 gs dz kzl.at_ kzl.sum kzl.next hls25
  rw [k_o.2] at hnz
  have hnzV := V.mk hnz
  clear hny hqV hnz
  go_wp2_with fail
  refine hnzV.out.mono ?_
  rintro e x ⟨rfl, hx⟩
  subst hx
  have hwk := V.mk (wakes_any w22 (hz25.tab ht))
  have hkw := hz25.kp
  clear hnzV hz25
  go_wp2_with fail
  refine hwk.out.mono ?_
  rintro e w23 ⟨rfl, hk⟩
  have hfin := hkw.quiet hk
  go_wp2_with fail
  go_ret
  exact ⟨rfl, hfin⟩

end Go.Proofs.YtkameiopahcacaaDoor
