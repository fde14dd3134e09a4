/- longwirelaw15.wakes: the document's example answers true. Condition: the table stands. -/
import Derived.Test.YtkameiopahcacaaDoorLogC15
set_option linter.unusedVariables false
set_option linter.unusedSimpArgs false
set_option maxRecDepth 100000
namespace Go.Proofs.YtkameiopahcacaaDoor
open Go.RowKit Go.Shelf

def wz0 : Dsk := ⟨1000, [], 0, false, false, 0, 0⟩
def wl0 : Lg := recG wz0.b
def wz1 : Dsk := (wl0.app wz0 [97]).2.2
def wl1 : Lg := (wl0.app wz0 [97]).2.1
def wz2 : Dsk := (wz1.plan 0 11).2
def wz3 : Dsk := (wl1.app wz2 [98, 98]).2.2
def wz4 : Dsk := wz3.revive.2
def wz5 : Dsk := wz4.recov.2
def wl5 : Lg := recG wz4.b
theorem wk_a : wz0.recov = (0, wz0) := by kernel_rfl
theorem wk_b : (wl0.app wz0 [97]).1 = (1, 0) := by kernel_rfl
theorem wk_c : (wz1.plan 0 11).1 = 0 := by kernel_rfl
theorem wk_d : (wl1.app wz2 [98, 98]).1 = (0, 10) := by kernel_rfl
theorem wk_e : wz3.revive.1 = 0 := by kernel_rfl
theorem wk_f : wz4.recov.1 = 0 := by kernel_rfl
theorem wk_g : paysL (wz5.b.take wl5.at_) = [[97]] := by kernel_rfl
theorem wk_h : (wl5.app wz5 [99]).1 = (2, 0) := by kernel_rfl

theorem Lg.ok.len {l : Lg} {d d' : Dsk} (h : l.ok d) (hd : d.b.length ≤ d'.b.length) : l.ok d' := ⟨Nat.le_trans h.at_ hd, h.sum, h.next⟩
theorem isB_lit {l : List Int} (h : l.all (fun c => decide (0 ≤ c) && decide (c ≤ 255)) = true) : IsB l := fun c hc => by
  have := List.all_eq_true.1 h c hc
  simp only [Bool.and_eq_true, decide_eq_true_eq] at this
  omega

set_option maxHeartbeats 4000000 in
theorem wakes_any (w : World) (ht : Tab w) : Calls Tryd.prog 18 #[] w fun e w' => e = .returned (.bool true) ∧ Kp w w' (fun _ => False) := by
  have hnew := V.mk (new_ds (w0 := w) 1000 (by omega) (Kp.refl w (fun _ => False)))
  go_enter Tryd.func18, Tryd.ntmps18
  go_wp2_with fail
  refine hnew.out.mono ?_
  rintro e w1 ⟨rfl, hd1, hk1⟩
  obtain ⟨dg, hdg⟩ : ∃ k, w.heap.size = k := ⟨_, rfl⟩
  rw [hdg] at hd1 ⊢
  have hgw : w.heap.size ≤ dg := by omega
  clear hdg hnew
  have hd1' : DS w w1 dg none wz0 := hd1
  clear hd1
  go_wp2_with fail
  refine (rec_ds ht hd1').mono ?_
  rintro e w2 ⟨r2, hd2, hk2, hf2, hp⟩
  rw [wk_a] at hd2 hp
  rcases hp with ⟨h0, -⟩ | ⟨-, g, hg, rfl, hl2⟩
  · exact absurd rfl h0
  have hg2 : w.heap.size ≤ g := by have := hk1.size; omega
  have hl2' : IsLg w2 g dg wl0 := hl2
  have ho2 : wl0.ok wz0 := by have := recG_ok (d := wz0) hd1'.by_; rw [wk_a] at this; exact this
  have hka := (Kp.refl w2 (fun _ => False)).alloc (.cells #[.int .u8 97] 5 (1, 2))
  have hcv3 := cv_bytes w2 #[.int .u8 97] 1 1
  have ha3 := V.mk (app_ds ht (hd2.quiet hka) (hl2'.kp hka (fun h => h)) hg2 ho2 (some ⟨w2.heap.size, 0, none⟩) 1 1 [97] rfl (Rd.lit w2 5 (1, 2) 1 [.int .u8 97] (by simp [maxLen])) (isB_lit (by decide)))
  clear hl2 hl2' hd2 hka hd1' hk1 hk2 hf2
  go_wp2_with fail
  refine ha3.out.mono ?_
  rintro e w3 ⟨rfl, r3, hd3, hl3, hk3, hf3⟩
  rw [wk_b]
  have ho3 : wl1.ok wz1 := Lg.app_ok ho2
  have hd3' : DS w w3 dg r3 wz1 := hd3
  have hl3' : IsLg w3 g dg wl1 := hl3
  clear ha3 hd3 hl3 hcv3
  have hp4 := V.mk (plan_ds hd3' 0 11)
  go_wp2_with fail
  refine hp4.out.mono ?_
  rintro e w4 ⟨rfl, r4, hd4, hk4, hf4⟩
  have hgd := hl3'.row hd3'.hd
  have hl4 := hl3'.kp hk4 (by rintro (h | h); exact hgd.2 h; exact hgd.1 h)
  have ho4 : wl1.ok wz2 := ho3.len (by unfold wz2; rw [Dsk.plan_b]; exact Nat.le_refl _)
  have hd4' : DS w w4 dg r4 wz2 := hd4
  have hka := (Kp.refl w4 (fun _ => False)).alloc (.cells #[.int .u8 98, .int .u8 98] 5 (2, 3))
  have hcv5 := cv_bytes w4 #[.int .u8 98, .int .u8 98] 2 2
  have ha5 := V.mk (app_ds ht (hd4'.quiet hka) (hl4.kp hka (fun h => h)) hg2 ho4 (some ⟨w4.heap.size, 0, none⟩) 2 2 [98, 98] rfl (Rd.lit w4 5 (2, 3) 2 [.int .u8 98, .int .u8 98] (by simp [maxLen])) (isB_lit (by decide)))
  clear hp4 hd4 hd4' hl4 hka hgd hd3' hl3'
  go_wp2_with fail
  refine ha5.out.mono ?_
  rintro e w5 ⟨rfl, r5, hd5, -, hk5, hf5⟩
  rw [wk_d]
  have hd5' : DS w w5 dg r5 wz3 := hd5
  clear hd5 ha5 hcv5
  have hr6 := V.mk (revive_ds hd5')
  go_wp2_with fail
  refine hr6.out.mono ?_
  rintro e w6 ⟨rfl, r6, hd6, hk6, hf6⟩
  have hd6' : DS w w6 dg r6 wz4 := hd6
  clear hd6 hr6
  go_wp2_with fail
  refine (rec_ds ht hd6').mono ?_
  rintro e w7 ⟨r7, hd7, hk7, hf7, hp⟩
  rcases hp with ⟨h0, -⟩ | ⟨-, g7, hg7, rfl, hl7⟩
  · exact absurd wk_f h0
  have hg7' : w.heap.size ≤ g7 := by have := hd6'.kp.size; omega
  have hd7' : DS w w7 dg r7 wz5 := hd7
  have hl7' : IsLg w7 g7 dg wl5 := hl7
  have ho7 : wl5.ok wz5 := recG_ok hd6'.by_
  clear hd7 hl7 hk7 hf7 hd6'
  have hrw := rows_ds ht hd7' hl7' ho7
  rw [wk_g] at hrw
  have hrwV := V.mk hrw
  clear hrw
  go_wp2_with fail
  refine hrwV.out.mono ?_
  rintro e w8 ⟨A8, c8, r8, qs, rfl, hrow8, hnew8, hk8, hqs, hq⟩
  obtain ⟨q, rfl⟩ : ∃ q, qs = [q] := by
    cases qs with
    | nil => simp at hqs
    | cons q t => cases t with
      | nil => exact ⟨q, rfl⟩
      | cons q2 t2 => simp at hqs
  have hqb : q.b = [97] := by simpa using hqs
  have hqo := hq q (by simp)
  have hd8 := hd7'.quiet hk8
  have hl8 := hl7'.kp hk8 (fun h => h)
  have hka := (Kp.refl w8 (fun _ => False)).alloc (.cells #[.int .u8 99] 5 (1, 2))
  have ha9 := V.mk (app_ds ht (hd8.quiet hka) (hl8.kp hka (fun h => h)) hg7' ho7 (some ⟨w8.heap.size, 0, none⟩) 1 1 [99] rfl (Rd.lit w8 5 (1, 2) 1 [.int .u8 99] (by simp [maxLen])) (isB_lit (by decide)))
  have hcv9 := cv_bytes w8 #[.int .u8 99] 1 1
  have hn8 : ∀ k, w7.heap.size ≤ k → ¬ (k = g7 ∨ k = dg ∨ r7 = some k) := by
    rintro k hk (h | h | h)
    · have := Blk.lt hl7'; omega
    · have := hd7'.hd.lt; omega
    · have := hd7'.hd.rlt h; omega
  have hrow8a := hrow8.kp hka (fun _ _ h => h)
  have hqoa := hqo.kp hka (fun _ _ h => h)
  clear hrwV hqs hq hrow8 hqo
  go_wp2_with fail
  refine ha9.out.mono ?_
  rintro e w9 ⟨rfl, r9, hd9, -, hk9, hf9⟩
  rw [wk_h]
  have hrow9 := hrow8a.kp hk9 (fun k hk => hn8 k (hnew8 k hk))
  have hqo9 := hqoa.kp hk9 (fun k hk => hn8 k (hqoa.2.2 k hk))
  obtain ⟨gr, hA, hr8⟩ := hrow9.addr (by simp)
  subst hA
  have z0 := hrow9.at_ 0 q.val (by simp)
  have hkp9 := hd9.kp
  clear ha9 hcv9 hka hd9 hrow8a hqoa hrow9 hn8 hd8 hl8
  obtain ⟨A, n, c, b, rq⟩ := q
  simp only at hqb
  subst hqb
  have hn1 : n = 1 := by have := hqo9.2.1; simpa using this.symm
  subst hn1
  have hcv := run_string_rd u_bytes u_byte u_string hqo9.1.rd (by rfl)
  have es : (strOfNums [97]).toList = [97] := by decide +kernel
  unfold Pc.val at z0
  simp only at z0
  go_wp2_with fail
  go_ret
  exact ⟨rfl, hkp9⟩

end Go.Proofs.YtkameiopahcacaaDoor