/- longwirelaw15.framed, chance: a payload's frame behind others; whether torn bytes are a frame of other bytes. Condition: the payloads are read; the table stands. -/
import Derived.Test.YtkameiopahcacaaDoorGood15M
import Derived.Test.YtkameiopahcacaaDoorSame15
import Derived.Test.YtkameiopahcacaaDoorWakes15
set_option linter.unusedVariables false
set_option linter.unusedSimpArgs false
set_option maxRecDepth 100000
namespace Go.Proofs.YtkameiopahcacaaDoor
open Go.RowKit

theorem IsWr.quiet {w w' : World} {g : Nat} {r : Option Nat} {bs : List Int} (h : IsWr w g r bs) (hk : Kp w w' (fun _ => False)) : IsWr w' g r bs := by
  obtain ⟨A, c, hb, hr⟩ := h
  exact ⟨A, c, Blk.kp hb hk (fun h => h), hr.kp hk (fun _ _ h => h)⟩

theorem IsWr.ne {w : World} {g g' : Nat} {r r' : Option Nat} {bs bs' : List Int} (h : IsWr w g r bs) (h' : IsWr w g' r' bs') : r ≠ some g' := by
  obtain ⟨A, c, hb, hr⟩ := h
  obtain ⟨A', c', hb', hr'⟩ := h'
  exact hr.ne_type hb' (by decide)
theorem IsWr.beside {w w' : World} {g g' : Nat} {r : Option Nat} {bs bs' : List Int} (h : IsWr w g r bs) (h' : IsWr w g' none bs') (hk : Kp w w' (fun k => k = g ∨ r = some k)) (hne : g' ≠ g) : IsWr w' g' none bs' :=
  h'.kp hk (by rintro (q | q); exact hne q; exact h.ne h' q) (fun k hk => by simp at hk)
def FrR (w : World) (bs : List (List Int)) (k : Nat) (v : Value) (W : World) : Prop :=
  (k = 0 ∧ v = .slice none 0 0) ∨ ∃ (x : List Int) (A : Option Addr) (n c : Nat) (r : Option Nat), 0 < k ∧ bs[k - 1]? = some x ∧ v = .slice A n c ∧ (frameN k (chainS (bs.take k)) x).length = n ∧ Row W 5 1 A n c (B8 (frameN k (chainS (bs.take k)) x)) r ∧ New w r

set_option maxHeartbeats 8000000 in
theorem framed_any (w : World) (ht : Tab w) (A : Option Addr) (n c : Nat) (L : List Pc) (hl : L.length = n) (hrd : Rd w A n c (L.map Pc.val)) (hLr : ∀ p ∈ L, p.Rd w ∧ p.n ≤ 60) (hn : n ≤ 1000) (P : Pc) (hP : P.Rd w) (hPn : P.n ≤ 60) :
    Calls Tryd.prog 49 #[.slice A n c, .slice P.A P.n P.c] w (BPost w (frameN (n + 1) (chainS (L.map (·.b) ++ [P.b])) P.b)) := by
  obtain ⟨i0, hi, hz0, hz1, hz2⟩ := info_parts i_bs
  obtain ⟨M, hM⟩ : ∃ M, L ++ [P] = M := ⟨_, rfl⟩
  have hMl : M.length = n + 1 := by rw [← hM]; simp [hl]
  have hMr : V (∀ p ∈ M, p.Rd w ∧ p.n ≤ 60) := ⟨by
    intro p hp
    rw [← hM, List.mem_append] at hp
    rcases hp with h | h
    · exact hLr p h
    · simp only [List.mem_singleton] at h; subst h; exact ⟨hP, hPn⟩⟩
  have hMv : V (L.map Pc.val ++ [.slice P.A P.n P.c] = M.map Pc.val) := ⟨by rw [← hM]; simp [Pc.val]⟩
  have hMb : V (L.map (·.b) ++ [P.b] = M.map (·.b)) := ⟨by rw [← hM]; simp⟩
  have hlast : V ((M.map (·.b))[n]? = some P.b) := ⟨by rw [← hMb.out]; simp [hl]⟩
  clear hM hLr
  have hll : (L.map Pc.val).length = n * 1 := by simp [hl]
  go_enter Tryd.func49, Tryd.ntmps49
  have hoc : ∀ u ∈ L.map Pc.val, u.oneCell' = true := fun u hu => by
    rw [List.mem_map] at hu
    obtain ⟨p, _, rfl⟩ := hu
    simp [Pc.val, Value.oneCell']
  obtain ⟨XL, hXL⟩ : ∃ XL, L.map Pc.val = XL := ⟨_, rfl⟩
  rw [hXL] at hrd hll hoc hMv
  clear hXL
  go_wp2_with ((with_reducible show wpList _ _ _ (⟨some 14, _, _, _, _, _⟩ :: _) _ _); refine wpList_app (by rfl) (.const (.slice none 0 0)) (.tmp 13) 34 rfl 38 i0 (.slice none 0 0) 1 24 u_bss hi hz0 hz1 hz2 rfl (by decide) none 0 0 [] none (by rfl) (Row.nil _ _ _) A n c XL (by rfl) hrd hll hoc n (by omega) (by omega) (by simp only [maxLen]; omega) ?_)
  intro A1 c1 r1 w1 hrow1 hkp1 hfr1 _
  have hk1 : Kp w w1 (fun _ => False) := hkp1.mono (fun _ h => by simp at h)
  have hn1 : New w r1 := (New.none w).fr (Nat.le_refl _) hfr1
  have hka := (Kp.refl w1 (fun _ => False)).alloc (.cells #[.slice P.A P.n P.c] 38)
  clear hkp1 hfr1
  go_wp2_with ((with_reducible show wpList _ _ _ (⟨some 17, _, _, _, _, _⟩ :: _) _ _); refine wpList_app (by rfl) (.tmp 14) (.tmp 16) 34 rfl 38 i0 (.slice none 0 0) 1 24 u_bss hi hz0 hz1 hz2 rfl (by decide) A1 n c1 XL r1 (by rfl) (hrow1.alloc _) _ 1 1 [.slice P.A P.n P.c] (by rfl) (Rd.lit _ _ _ 1 _ (by simp [maxLen])) rfl (by simp [Value.oneCell']) (n + 1) rfl (by omega) (by simp only [maxLen]; omega) ?_)
  intro A2 c2 r2 w2 hrow2 hkp2 hfr2 _
  rw [hMv.out] at hrow2
  have hk2 : Kp w w2 (fun _ => False) := (hk1.quiet hka).trans hkp2 (fun j h => .inr (hn1 j h))
  have hn2 : New w r2 := hn1.fr ((hk1.quiet hka).size) hfr2
  have hrow2V := V.mk hrow2
  have hMlV := V.mk hMl
  clear hka hkp2 hfr2 hrow1 hk1 hn1 hrd hll hoc hrow2 hMl
  go_wp2_with fail
  go_loopw [5, 6, 7, 8, 9, 10, 11, 12, 19] (fun s6 o _ _ _ _ _ _ i wr => ∃ k, k ≤ n + 1 ∧ i = .int .i64 k ∧ s6 = .int .u32 (chainS ((M.map (·.b)).take k)) ∧ FrR w (M.map (·.b)) k o wr ∧ Row wr 38 1 A2 (n + 1) c2 (M.map Pc.val) r2 ∧ Kp w wr (fun _ => False)) (fun _ _ _ _ _ _ _ _ i _ => n + 1 - (intOf i).toNat)
  case atStart => exact ⟨0, Nat.zero_le _, rfl, rfl, .inl ⟨rfl, rfl⟩, hrow2V.out, hk2⟩
  case round =>
    obtain ⟨k, hk, rfl, rfl, hfr, hrow, hkp⟩ := hrel
    by_cases hgo : k < n + 1
    · have hkM : k < M.length := by rw [hMlV.out]; exact hgo
      have x0 : Rd wr A2 (n + 1) c2 (M.map Pc.val) := hrow.rd
      obtain ⟨ab, ao, rfl, hcs⟩ := x0.base (by omega) (by simp [hMlV.out])
      have y0 := hcs k _ (pcs_at M k hkM)
      have hp := hMr.out M[k] (List.getElem_mem _)
      obtain ⟨x, hx⟩ : ∃ x, M[k] = x := ⟨_, rfl⟩
      rw [hx] at y0 hp
      unfold Pc.val at y0
      obtain ⟨⟨hxrd, hxl, hxb⟩, hx60⟩ := hp
      have hbk : (M.map (·.b))[k]? = some x.b := by rw [List.getElem?_map, List.getElem?_eq_getElem hkM, hx]; rfl
      have htk : (M.map (·.b)).take (k + 1) = (M.map (·.b)).take k ++ [x.b] := by
        rw [List.take_add_one, hbk]; rfl
      have hch : chainS ((M.map (·.b)).take (k + 1)) = checkN (chainS ((M.map (·.b)).take k)) (k + 1) x.b := by
        rw [htk, chainS_snoc, List.length_take, List.length_map, hMlV.out, Nat.min_eq_left (by omega)]
      obtain ⟨s, hs⟩ : ∃ s, chainS ((M.map (·.b)).take k) = s := ⟨_, rfl⟩
      have hs32 : s < 4294967296 := by rw [← hs]; exact chainS_lt _
      have hbkV := V.mk hbk
      have hchV : V (chainS ((M.map (·.b)).take (k + 1)) = checkN s (k + 1) x.b) := ⟨by rw [← hs]; exact hch⟩
      rw [hs]
      obtain ⟨XM, hXM⟩ : ∃ XM, M.map Pc.val = XM := ⟨_, rfl⟩
      rw [hXM] at hrow
      have hXMV := V.mk hXM
      clear hcs hx hbk htk hch hs hfr hXM x0
      have hwr := wrap_u16 (n := (x.n : Int)) (by omega) (by omega)
      have hw32 : IntKind.u32.wrap ((k : Int) + 1) = (k : Int) + 1 := by rw [IntKind.wrap_u32]; omega
      have kA := (Kp.refl wr (fun _ => False)).alloc (.cells #[.slice none 0 0, .int .i64 0] 93)
      have iA := (IsWr.new wr).alloc (.cells #[.slice none 0 0, .int .i64 0] 93)
      have iB := IsWr.new (wr.alloc (.cells #[.slice none 0 0, .int .i64 0] 93))
      rw [World.size_alloc] at iB
      have kB := kA.alloc (.cells #[.slice none 0 0, .int .i64 0] 93)
      go_wp2_with fail
      obtain ⟨W0, hW0⟩ : ∃ W0, (wr.alloc (.cells #[.slice none 0 0, .int .i64 0] 93)).alloc (.cells #[.slice none 0 0, .int .i64 0] 93) = W0 := ⟨_, rfl⟩
      obtain ⟨g, hg⟩ : ∃ g, wr.heap.size = g := ⟨_, rfl⟩
      have hgs : wr.heap.size ≤ g := by omega
      rw [hW0, hg] at iA iB
      rw [hW0] at kB ⊢
      rw [hg]
      clear hW0 kA
      have hgV := V.mk hg
      clear hg
      refine (wfour_any W0 g none [] iA s (by omega) (by omega) (by simp)).mono ?_
      rintro e w3 ⟨r3, rfl, i3, k3, f3⟩
      have q3 := kB.step k3 hgs (New.none _)
      have n3 : New wr r3 := (New.none _).fr kB.size f3
      have j3 := iA.beside iB k3 (by omega)
      clear iA iB kB k3 f3
      go_wp2_with fail
      refine (wfour_any w3 g r3 _ i3 ((k : Int) + 1) (by omega) (by omega) (by simp [be4, be2])).mono ?_
      rintro e w4 ⟨r4, rfl, i4, k4, f4⟩
      have q4 := q3.step k4 hgs n3
      have n4 := n3.fr q3.size f4
      have j4 := i3.beside j3 k4 (by omega)
      clear i3 j3 q3 k4 f4
      go_wp2_with fail
      refine (wtwo_any w4 g r4 _ i4 x.n (by omega) (by omega) (by simp [be4, be2])).mono ?_
      rintro e w5 ⟨r5, rfl, i5, k5, f5⟩
      have q5 := q4.step k5 hgs n4
      have n5 := n4.fr q4.size f5
      have j5 := i4.beside j4 k5 (by omega)
      clear i4 j4 q4 k5 f5
      go_wp2_with fail
      refine (wbyte_any w5 g r5 _ i5 x.A x.n x.c x.b hxl ((hxrd.kp hkp (fun _ _ _ h => h)).kp q5 (fun _ _ _ h => h)) (by simp [be4, be2]; omega)).mono ?_
      rintro e w6 ⟨r6, rfl, i6, k6, f6⟩
      have q6 := q5.step k6 hgs n5
      have n6 := n5.fr q5.size f6
      have j6 := i5.beside j5 k6 (by omega)
      clear i5 j5 q5 k6 f6
      go_wp2_with fail
      refine (wdone_any w6 g r6 _ i6 (by simp [be4, be2, hxl]; omega)).mono ?_
      rintro e w7 ⟨A7, c7, r7, rfl, h7, n7, k7⟩
      have q7 := q6.step k7 hgs n6
      have j7 := i6.beside j6 k7 (by omega)
      have eL : [] ++ be4 (s : Int) ++ be4 ((k : Int) + 1) ++ be2 (x.n : Int) ++ x.b = be4 (s : Int) ++ be4 ((k + 1 : Nat) : Int) ++ be2 (x.b.length : Int) ++ x.b := by rw [hxl, List.nil_append]; rfl
      rw [eL] at h7 ⊢
      obtain ⟨Z, hZ⟩ : ∃ Z, be4 (s : Int) ++ be4 ((k + 1 : Nat) : Int) ++ be2 (x.b.length : Int) ++ x.b = Z := ⟨_, rfl⟩
      have hZb : IsB Z := by
        rw [← hZ]
        exact isB_app (isB_app (isB_app (be4_isB' (by omega) (by omega)) (be4_isB' (by omega) (by omega))) (be2_isB (by omega) (by omega))) hxb
      have hR : V (checkN s (k + 1) x.b = crcN Z) := ⟨by unfold checkN; rw [hZ]⟩
      rw [hZ] at h7 ⊢
      have cc := crc_any w7 ((ht.kp hkp (fun h => h)).kp q7 (fun h => h)) A7 Z.length c7 Z rfl h7.rd hZb
      rw [← hR.out] at cc
      obtain ⟨sm, hsm⟩ : ∃ v, checkN s (k + 1) x.b = v := ⟨_, rfl⟩
      have hsm32 : sm < 4294967296 := by rw [← hsm]; exact checkN_lt _ _ _
      rw [hsm] at cc hchV
      have ccV := V.mk cc
      clear hZ eL i6 j6 q6 k7 cc h7 n7 hZb hR hsm
      go_wp2_with fail
      refine ccV.out.mono ?_
      rintro e y ⟨rfl, hy⟩
      subst hy
      have hgs2 : wr.heap.size ≤ g + 1 := by omega
      clear ccV
      go_wp2_with fail
      refine (wtwo_any w7 (g + 1) none [] j7 x.n (by omega) (by omega) (by simp)).mono ?_
      rintro e w8 ⟨r8, rfl, i8, k8, f8⟩
      have q8 := q7.step k8 hgs2 (New.none _)
      have n8 : New wr r8 := (New.none _).fr q7.size f8
      clear j7 q7 k8 f8
      go_wp2_with fail
      refine (wfour_any w8 (g + 1) r8 _ i8 ((k : Int) + 1) (by omega) (by omega) (by simp [be4, be2])).mono ?_
      rintro e w9 ⟨r9, rfl, i9, k9, f9⟩
      have q9 := q8.step k9 hgs2 n8
      have n9 := n8.fr q8.size f9
      clear i8 q8 k9 f9
      go_wp2_with fail
      refine (wfour_any w9 (g + 1) r9 _ i9 sm (by omega) (by omega) (by simp [be4, be2])).mono ?_
      rintro e w10 ⟨r10, rfl, i10, k10, f10⟩
      have q10 := q9.step k10 hgs2 n9
      have n10 := n9.fr q9.size f10
      clear i9 q9 k10 f10
      go_wp2_with fail
      refine (wbyte_any w10 (g + 1) r10 _ i10 x.A x.n x.c x.b hxl ((hxrd.kp hkp (fun _ _ _ h => h)).kp q10 (fun _ _ _ h => h)) (by simp [be4, be2]; omega)).mono ?_
      rintro e w11 ⟨r11, rfl, i11, k11, f11⟩
      have q11 := q10.step k11 hgs2 n10
      have n11 := n10.fr q10.size f11
      clear i10 q10 k11 f11
      go_wp2_with fail
      refine (wdone_any w11 (g + 1) r11 _ i11 (by simp [be4, be2, hxl]; omega)).mono ?_
      rintro e w12 ⟨A12, c12, r12, rfl, h12, m12, k12⟩
      have q12 := q11.step k12 hgs2 n11
      have eF : [] ++ be2 (x.n : Int) ++ be4 ((k : Int) + 1) ++ be4 (sm : Int) ++ x.b = frameN (k + 1) sm x.b := by unfold frameN; rw [hxl, List.nil_append]; rfl
      rw [eF] at h12 ⊢
      have hrow12 := hrow.kp q12 (fun _ _ h => h)
      have hkp12 := hkp.quiet q12
      have hfr12 : FrR w (M.map (·.b)) (k + 1) (.slice A12 (frameN (k + 1) sm x.b).length c12) w12 := by
        refine .inr ⟨x.b, A12, _, c12, r12, Nat.succ_pos _, by simpa using hbkV.out, rfl, by rw [hchV.out], by rw [hchV.out]; exact h12, m12.mono (by have := hkp.size; have := q11.size; omega)⟩
      rw [← hXMV.out] at hrow12
      have hrow12V := V.mk hrow12
      have hfr12V := V.mk hfr12
      clear i11 q11 k12 h12 m12 hrow12 hfr12 eF hrow
      go_wp2_with fail
      go_roundw
      case rel => exact ⟨k + 1, by omega, by go_num, by rw [hchV.out], hfr12V.out, hrow12V.out, hkp12⟩
      case measure => simp [intOf]; omega
    · have hkn : k = n + 1 := by omega
      subst hkn
      rcases hfr with ⟨h, -⟩ | ⟨x, A6, n6, c6, r6, -, hx, rfl, hlen, hrow6, hnew6⟩
      · omega
      have e1 : (M.map (·.b)).take (n + 1) = M.map (·.b) := List.take_of_length_le (by rw [List.length_map, hMlV.out]; exact Nat.le_refl _)
      have e2 : x = P.b := by rw [Nat.add_sub_cancel, hlast.out] at hx; exact (Option.some.inj hx).symm
      rw [e1] at hlen hrow6
      subst e2
      have hres : V (BPost w (frameN (n + 1) (chainS (L.map (·.b) ++ [P.b])) P.b) (.returned (.slice A6 n6 c6)) wr) := ⟨by
        rw [hMb.out]
        exact ⟨A6, n6, c6, r6, rfl, hrow6, hnew6, hkp⟩⟩
      clear hlen hrow6 hrow
      go_wp2_with fail
      go_ret
      exact hres.out

set_option maxHeartbeats 4000000 in
theorem chance_any (w : World) (ht : Tab w) (A : Option Addr) (n c : Nat) (L : List Pc) (hl : L.length = n) (hrd : Rd w A n c (L.map Pc.val)) (hLr : ∀ p ∈ L, p.Rd w ∧ p.n ≤ 60) (hn : n ≤ 1000) (P : Pc) (hP : P.Rd w) (hPn : P.n ≤ 60) (Q : Pc) (hQ : Q.Rd w) (hQn : Q.n ≤ 60)
    (kept : Int) (hk0 : 0 ≤ kept) (hk1 : kept ≤ 9223372036854775807)
    (hT : (frameN (n + 1) (chainS (L.map (·.b) ++ [P.b])) P.b).take kept.toNat ++ List.replicate ((frameN (n + 1) (chainS (L.map (·.b) ++ [P.b])) P.b).length - ((frameN (n + 1) (chainS (L.map (·.b) ++ [P.b])) P.b).take kept.toNat).length) 0 = frameN (n + 1) (chainS (L.map (·.b) ++ [Q.b])) Q.b) :
    Calls Tryd.prog 30 #[.slice A n c, .slice P.A P.n P.c, .slice Q.A Q.n Q.c, .int .i64 kept] w fun e w' => e = .returned (.bool true) ∧ Kp w w' (fun _ => False) := by
  have hf1 := V.mk (framed_any w ht A n c L hl hrd hLr hn P hP hPn)
  obtain ⟨i0, hi, hz0, hz1, hz2⟩ := info_parts i_byte
  have hFb : IsB (frameN (n + 1) (chainS (L.map (·.b) ++ [P.b])) P.b) := frameN_isB (by omega) (chainS_lt _) hP.by_ (by rw [hP.len]; omega)
  have hGb : IsB (frameN (n + 1) (chainS (L.map (·.b) ++ [Q.b])) Q.b) := frameN_isB (by omega) (chainS_lt _) hQ.by_ (by rw [hQ.len]; omega)
  have hFl : (frameN (n + 1) (chainS (L.map (·.b) ++ [P.b])) P.b).length ≤ 70 := by rw [frameN_length, hP.len]; omega
  obtain ⟨F, hF⟩ : ∃ F, frameN (n + 1) (chainS (L.map (·.b) ++ [P.b])) P.b = F := ⟨_, rfl⟩
  obtain ⟨G, hG⟩ : ∃ G, frameN (n + 1) (chainS (L.map (·.b) ++ [Q.b])) Q.b = G := ⟨_, rfl⟩
  rw [hF] at hf1 hFb hFl hT
  rw [hG] at hT hGb
  have hGV := V.mk hG
  clear hF hG
  go_enter Tryd.func30, Tryd.ntmps30
  go_wp2_with fail
  refine hf1.out.mono ?_
  rintro e w1 ⟨A1, n1, c1, r1, rfl, hrow1, hnew1, hk1'⟩
  have hn1 : F.length = n1 := by have := hrow1.len; rw [B8_length] at this; omega
  have hle1 := hrow1.le
  obtain ⟨m, hm⟩ : ∃ m : Nat, min kept.toNat n1 = m := ⟨_, rfl⟩
  have e1 : (if (n1 : Int) < kept then (n1 : Int) else kept) = (m : Int) := by split <;> omega
  have hmn : m ≤ n1 := by omega
  clear hf1
  go_wp2_with (at_make; refine wpList_mk (by rfl) (.tmp 15) (.tmp 15) 38 rfl 5 i0 (.int .u8 0) u_bytes hi hz0 hz1 rfl .i64 .i64 (n1 : Int) (n1 : Int) n1 (by rfl) (by rfl) rfl rfl (by rw [hz2]; omega) (by simp only [maxLen]; omega) ?_)
  intro w2 hrow2 hk2
  have hrd1 := (hrow1.rd.kp hk2 (fun _ _ _ h => h)).pre m hmn
  rw [show (B8 F).take m = B8 (F.take m) by rw [B8_take]] at hrd1
  have hmx : (if (m : Int) < 0 then (0 : Int) else (m : Int)) = (m : Int) := by split <;> omega
  have hmx2 : (if (0 : Int) < (m : Int) then (m : Int) else (0 : Int)) = (m : Int) := by split <;> omega
  have hc1 : n1 ≤ c1 ∧ c1 ≤ 9223372036854775807 := ⟨hle1.1, by have := hle1.2; simpa [maxLen] using this⟩
  have hlen1 : (F.take m).length = m := by rw [List.length_take]; omega
  clear hrow1 hm
  go_wp2_with ((with_reducible show wpList _ _ _ (⟨some 25, _, _, _, _, _⟩ :: _) _ _); (refine wpList_cpy (by rfl) (.tmp 17) (.tmp 24) 38 38 (by rfl) 5 u_bytes (by rw [hi]; simp [hz1]) _ A1 n1 n1 m c1 (by rfl) (by rfl) _ n1 n1 _ (some w1.heap.size) hrow2 0 (by omega) (fun _ => ⟨_, rfl, rfl⟩) (B8 (F.take m)) hrd1 (by rw [B8_length, hlen1]) (B8_one _) ?_))
  intro w3 hrow3 hk3
  have hGm : F.take m ++ List.replicate (n1 - m) 0 = G := by
    rw [← hT, hn1]
    by_cases h : kept.toNat ≤ n1
    · have e : m = kept.toNat := by omega
      rw [e, List.length_take, hn1, Nat.min_eq_left h]
    · have e : m = n1 := by omega
      rw [e, List.take_of_length_le (by omega), List.take_of_length_le (by omega), hn1]
  have hys : (B8 (F.take m)).take n1 ++ List.replicate (n1 - m) (Value.int .u8 0) = B8 G := by
    rw [List.take_of_length_le (by rw [B8_length, hlen1]; exact hmn), ← B8_zeros, ← B8_append, hGm]
  rw [hys] at hrow3
  have hGl : G.length = n1 := by rw [← hGm, List.length_append, hlen1, List.length_replicate]; omega
  have hk3w : Kp w w3 (fun _ => False) := (hk1'.quiet hk2).trans hk3 (fun j h => .inr (by have := hk1'.size; first | omega | (simp only [Option.some.injEq] at h; omega)))
  have hLr3 : ∀ p ∈ L, p.Rd w3 ∧ p.n ≤ 60 := fun p hp => ⟨⟨(hLr p hp).1.rd.kp hk3w (fun _ _ _ h => h), (hLr p hp).1.len, (hLr p hp).1.by_⟩, (hLr p hp).2⟩
  have hf2 := framed_any w3 (ht.kp hk3w (fun h => h)) A n c L hl (hrd.kp hk3w (fun _ _ _ h => h)) hLr3 hn Q ⟨hQ.rd.kp hk3w (fun _ _ _ h => h), hQ.len, hQ.by_⟩ hQn
  rw [hGV.out] at hf2
  have hf2V := V.mk hf2
  have hrow3V := V.mk hrow3
  clear hf2 hys hGm hT hrow2 hrd1 hk1' hk2 hk3 hLr3 hrow3
  go_wp2_with fail
  refine hf2V.out.mono ?_
  rintro e w4 ⟨A4, n4, c4, r4, rfl, hrow4, hnew4, hk4⟩
  have hn4 : n4 = n1 := by have := hrow4.len; rw [B8_length] at this; omega
  subst hn4
  have hq0 := eqb_any w4 (some ⟨w1.heap.size, 0, none⟩) A4 n4 n4 n4 c4 G G hGl hGl (hrow3V.out.rd.kp hk4 (fun _ _ _ h => h)) hrow4.rd hGb hGb
  rw [decide_eq_true (rfl : G = G)] at hq0
  have hq := V.mk hq0
  have hk4w := hk3w.quiet hk4
  clear hf2V hrow4 hk4 hk3w hq0
  go_wp2_with fail
  refine hq.out.mono ?_
  rintro e x ⟨rfl, hx⟩
  subst hx
  clear hq
  go_wp2
  go_ret
  exact ⟨rfl, hk4w⟩

end Go.Proofs.YtkameiopahcacaaDoor
