/- The document's own form of what a client tells (layer 13). Condition: what is told reads as a list. -/
import Derived.Test.YtboambncimdfjaaForm13
set_option linter.unusedVariables false
set_option linter.unusedSimpArgs false
set_option maxRecDepth 100000
namespace Go.Proofs.Ytboambncimdfjaa
open Go.RowKit

/-- The bytes so far are a row of this call's own. -/
structure Bq (w W : World) (A : Option Addr) (n c : Nat) (bs : List Int) (r : Option Nat) (Ba : Nat) (cs : Array Value) (t : TypeId) : Prop where
  kp : Kp w W (fun _ => False)
  len : V (bs.length = n)
  row : Row W 5 1 A n c (B8 bs) r
  r0 : New w r
  bx : Blk W Ba cs t
theorem Bq.app {w W W' : World} {A A' : Option Addr} {n n' c c' : Nat} {bs x : List Int} {r r' : Option Nat} {Ba : Nat} {cs : Array Value} {t : TypeId} (h : Bq w W A n c bs r Ba cs t) (ht : 5 ≠ t)
    (hr : Row W' 5 1 A' n' c' (B8 bs ++ B8 x) r') (hk : Kp W W' (fun k => r = some k)) (hf : Fr W r r') (hn : n' = n + x.length) : Bq w W' A' n' c' (bs ++ x) r' Ba cs t :=
  ⟨h.kp.trans hk (fun j hj => .inr (h.r0 j hj)), ⟨by rw [List.length_append, h.len.out, hn]⟩, by rw [B8_append]; exact hr, h.r0.fr h.kp.size hf, Blk.kp h.bx hk (h.row.ne_type h.bx ht)⟩
theorem Bq.quiet {w W W' : World} {A : Option Addr} {n c : Nat} {bs : List Int} {r : Option Nat} {Ba : Nat} {cs : Array Value} {t : TypeId} (h : Bq w W A n c bs r Ba cs t) (hk : Kp W W' (fun _ => False)) : Bq w W' A n c bs r Ba cs t :=
  ⟨h.kp.quiet hk, h.len, h.row.kp hk (fun _ _ h => h), h.r0, Blk.kp h.bx hk (fun h => h)⟩

/-- Four bytes of a number. -/
theorem number4_any (w : World) (n : Int) (h0 : 0 ≤ n) (h1 : n < 4294967296) : Calls Try.prog 50 #[.int .u64 n, .int .i64 4] w (BytesP w (be4 n)) := by
  have := number01_any w n h0 (by omega) 4 (by omega) (by omega)
  rw [numBE_four n h0 h1] at this
  exact this

set_option maxHeartbeats 4000000 in
theorem rbytes_any (w : World) (next : Nat) (hn1 : next < 4294967296) (A : Option Addr) (n c : Nat) (l : List Hv) (hl : l.length = n) (hrd : Rd w A n c (hvCells l)) (hok : ∀ h ∈ l, h.ok) :
    Calls Try.prog 28 #[.agg #[.int .u32 next, .slice A n c]] w (FormP w (formOf next l).1 (formOf next l).2) := by
  obtain ⟨i0, hi, hz0, hz1, hz2⟩ := info_parts i_byte
  have hnc : n ≤ c ∧ c ≤ 9223372036854775807 := ⟨hrd.1, by have := hrd.2.1; simpa [maxLen] using this⟩
  have hk0 := (Kp.refl w (fun _ => False)).alloc (.cells #[.int .u32 next, .slice A n c] 44)
  have hb0 := Blk.new w #[.int .u32 next, .slice A n c] 44
  have hm := V.mk (rmay_any _ next (by omega) (by omega) A n c l hl (hrd.kp hk0 (fun _ _ _ h => h)) hok)
  have q0 := hb0.cell' 0 rfl
  have q1 := hb0.cell' 1 rfl
  go_enter Try.func28, Try.ntmps28
  go_wp2_with fail
  refine hm.out.mono ?_
  rintro e w1 ⟨rfl, hk1⟩
  have hb1 := Blk.kp hb0 hk1 (fun h => h)
  clear q0 q1 hm
  have q0 := hb1.cell' 0 rfl
  have q1 := hb1.cell' 1 rfl
  by_cases hmay : may next l = true
  · have hl16 := (may_mayF hmay).2.2
    have eF : V ((formOf next l).1 = askB next l ∧ (formOf next l).2 = 0) := ⟨by unfold formOf; rw [if_pos hmay]; exact ⟨rfl, rfl⟩⟩
    have hkw := hk0.quiet hk1
    rw [hmay]
    clear hmay hk0 hb0 hk1
    have hwr8 : IntKind.u8.wrap (n : Int) = (n : Int) := by rw [IntKind.wrap_u8]; omega
    go_wp2_with fail
    refine (number4_any _ next (by omega) (by omega)).mono ?_
    rintro e w2 ⟨A2, n2, c2, r2, rfl, hn2, hrow2, hnw2, hk2⟩
    have b2 : Bq w w2 A2 n2 c2 (be4 next) r2 w.heap.size #[.int .u32 next, .slice A n c] 44 :=
      ⟨hkw.quiet hk2, ⟨hn2⟩, hrow2, hnw2.mono hkw.size, Blk.kp hb1 hk2 (fun h => h)⟩
    have hn4 : n2 = 4 := by rw [← hn2]; rfl
    clear q0 q1 hk2 hrow2 hnw2 hb1 hkw hn2
    subst hn4
    have q1 := b2.bx.cell' 1 rfl
    have b2a := b2.quiet ((Kp.refl _ _).alloc (.cells #[.int .u8 n] 5))
    go_wp2_with (at_builtin; refine wpList_app (by rfl) (.tmp 14) (.tmp 19) 57 rfl 5 i0 (.int .u8 0) 1 1 u_bytes hi hz0 hz1 hz2 rfl (by decide) A2 4 c2 _ r2 (by rfl) b2a.row _ 1 1 [.int .u8 n] (by rfl) (Rd.lit _ _ _ 1 _ (by simp [maxLen])) rfl (by simp [Value.oneCell']) 5 rfl (by omega) (by simp [maxLen]) ?_)
    intro A3 c3 r3 w3 hrow3 hkp3 hfr3 _
    have b3 := b2a.app (x := [(n : Int)]) (by decide) hrow3 hkp3 hfr3 rfl
    clear b2 b2a hrow3 hkp3 hfr3 q1 hwr8
    have q1 := b3.bx.cell' 1 rfl
    go_wp2
    go_loopw [4, 5, 6] (fun v i _ wr => ∃ (k : Nat) (A' : Option Addr) (m' c' : Nat) (r' : Option Nat), k ≤ n ∧ i = .int .i64 k ∧ v = .slice A' m' c' ∧ m' = 5 + 13 * k ∧ Bq w wr A' m' c' (be4 next ++ [(n : Int)] ++ (l.take k).flatMap hvB) r' w.heap.size #[.int .u32 next, .slice A n c] 44) (fun _ i _ _ => n - (intOf i).toNat)
    case atStart => exact ⟨0, A3, 5, c3, r3, Nat.zero_le _, rfl, rfl, rfl, by simpa using b3⟩
    case round =>
      obtain ⟨k, A4, m4, c4, r4, hk', rfl, rfl, hm4, b4⟩ := hrel
      have q1 := b4.bx.cell' 1 rfl
      by_cases hgo : k < n
      · obtain ⟨ab, ao, rfl, hcs⟩ := (hrd.kp b4.kp (fun _ _ _ h => h)).base (by omega) (by rw [hvCells_length]; omega)
        obtain ⟨x0, x1, x2, x3⟩ := hv_at hcs k (by omega)
        have hh := hok l[k] (List.getElem_mem _)
        have hts : V ((l.take (k + 1)).flatMap hvB = (l.take k).flatMap hvB ++ hvB l[k]) := ⟨by rw [List.take_succ_eq_append_getElem (by omega), List.flatMap_append]; simp⟩
        have hmm : m4 ≤ 1000 := by omega
        have hm4V := V.mk hm4
        generalize (l.take k).flatMap hvB = pre at *
        clear hcs hm4
        generalize l[k] = x at *
        obtain ⟨xi, xo, xe, sb⟩ := x
        have hi0 := hh.i0
        have hi1 := hh.i1
        have ho0 := hh.o0
        have ho1 := hh.o1
        have he0 := hh.e0
        have he1 := hh.e1
        simp only at x0 x1 x2 x3 hi0 hi1 ho0 ho1 he0 he1
        clear hh
        cases sb with
        | true =>
          have b5 := b4.quiet ((Kp.refl _ _).alloc (.cells #[.int .u32 xi, .int .u32 xo, .int .u32 xe, .bool true] 50))
          have d5 : Bq w (wr.alloc (.cells #[.int .u32 xi, .int .u32 xo, .int .u32 xe, .bool true] 50)) A4 m4 c4 _ r4 wr.heap.size #[.int .u32 xi, .int .u32 xo, .int .u32 xe, .bool true] 50 := ⟨b5.kp, b5.len, b5.row, b5.r0, Blk.new _ _ _⟩
          obtain ⟨L5, hL5⟩ : ∃ L5, be4 next ++ [(n : Int)] ++ pre = L5 := ⟨_, rfl⟩
          rw [hL5] at b5 d5
          have hL5V := V.mk hL5
          clear hL5
          obtain ⟨u, hu⟩ : ∃ u, wr.alloc (.cells #[.int .u32 xi, .int .u32 xo, .int .u32 xe, .bool true] 50) = u := ⟨_, rfl⟩
          have huV := V.mk hu
          have p0 := d5.bx.cell' 0 rfl
          have p3 := d5.bx.cell' 3 rfl
          clear hu
          go_wp2_with fail
          rw [huV.out] at b5 d5 p0 p3 ⊢
          clear p0 p3
          refine (number4_any _ xi (by omega) (by omega)).mono ?_
          rintro e y0 ⟨B0, n0, e0, s0, rfl, hn0, hrow0, _, hk0⟩
          obtain rfl : n0 = 4 := by rw [← hn0]; rfl
          have bb6 := b5.quiet hk0
          have dd6 := d5.quiet hk0
          clear b5 d5 hk0 hn0
          go_wp2_with (at_builtin; refine wpList_app (by rfl) (.tmp 33) (.tmp 37) 57 rfl 5 i0 (.int .u8 0) 1 1 u_bytes hi hz0 hz1 hz2 rfl (by decide) A4 m4 c4 _ r4 (by rfl) bb6.row B0 4 e0 (B8 (be4 xi)) (by rfl) hrow0.rd rfl (B8_one _) (m4 + 4) rfl (by omega) (by simp only [maxLen]; omega) ?_)
          intro A6 c6 r6 v6 hr6 hp6 hf6 _
          have b6 := bb6.app (x := be4 xi) (by decide) hr6 hp6 hf6 rfl
          have d6 := dd6.app (x := be4 xi) (by decide) hr6 hp6 hf6 rfl
          clear bb6 dd6 hr6 hp6 hf6 hrow0
          obtain ⟨L6, hL6⟩ : ∃ L6, L5 ++ be4 xi = L6 := ⟨_, rfl⟩
          rw [hL6] at b6 d6
          have hL6V := V.mk hL6
          clear hL6
          have p0 := d6.bx.cell' 1 rfl
          go_wp2_with fail
          clear p0
          refine (number4_any _ xo (by omega) (by omega)).mono ?_
          rintro e y1 ⟨B1, n1, e1, s1, rfl, hn1, hrow1, _, hk1⟩
          obtain rfl : n1 = 4 := by rw [← hn1]; rfl
          have bb7 := b6.quiet hk1
          have dd7 := d6.quiet hk1
          clear b6 d6 hk1 hn1
          go_wp2_with (at_builtin; refine wpList_app (by rfl) (.tmp 39) (.tmp 43) 57 rfl 5 i0 (.int .u8 0) 1 1 u_bytes hi hz0 hz1 hz2 rfl (by decide) A6 (m4 + 4) c6 _ r6 (by rfl) bb7.row B1 4 e1 (B8 (be4 xo)) (by rfl) hrow1.rd rfl (B8_one _) (m4 + 8) rfl (by omega) (by simp only [maxLen]; omega) ?_)
          intro A7 c7 r7 v7 hr7 hp7 hf7 _
          have b7 := bb7.app (x := be4 xo) (by decide) hr7 hp7 hf7 rfl
          have d7 := dd7.app (x := be4 xo) (by decide) hr7 hp7 hf7 rfl
          clear bb7 dd7 hr7 hp7 hf7 hrow1
          obtain ⟨L7, hL7⟩ : ∃ L7, L6 ++ be4 xo = L7 := ⟨_, rfl⟩
          rw [hL7] at b7 d7
          have hL7V := V.mk hL7
          clear hL7
          have p0 := d7.bx.cell' 2 rfl
          go_wp2_with fail
          clear p0
          refine (number4_any _ xe (by omega) (by omega)).mono ?_
          rintro e y2 ⟨B2, n2, e2, s2, rfl, hn2, hrow2, _, hk2⟩
          obtain rfl : n2 = 4 := by rw [← hn2]; rfl
          have bb8 := b7.quiet hk2
          have dd8 := d7.quiet hk2
          clear b7 d7 hk2 hn2
          go_wp2_with (at_builtin; refine wpList_app (by rfl) (.tmp 45) (.tmp 49) 57 rfl 5 i0 (.int .u8 0) 1 1 u_bytes hi hz0 hz1 hz2 rfl (by decide) A7 (m4 + 8) c7 _ r7 (by rfl) bb8.row B2 4 e2 (B8 (be4 xe)) (by rfl) hrow2.rd rfl (B8_one _) (m4 + 12) rfl (by omega) (by simp only [maxLen]; omega) ?_)
          intro A8 c8 r8 v8 hr8 hp8 hf8 _
          have b8 := bb8.app (x := be4 xe) (by decide) hr8 hp8 hf8 rfl
          have d8 := dd8.app (x := be4 xe) (by decide) hr8 hp8 hf8 rfl
          clear bb8 dd8 hr8 hp8 hf8 hrow2
          obtain ⟨L8, hL8⟩ : ∃ L8, L7 ++ be4 xe = L8 := ⟨_, rfl⟩
          rw [hL8] at b8 d8
          have hL8V := V.mk hL8
          clear hL8
          have p3 := d8.bx.cell' 3 rfl
          have b8a := b8.quiet ((Kp.refl _ _).alloc (.cells #[.int .u8 1] 5))
          go_wp2_with (at_builtin; refine wpList_app (by rfl) (.tmp 53) (.tmp 54) 57 rfl 5 i0 (.int .u8 0) 1 1 u_bytes hi hz0 hz1 hz2 rfl (by decide) A8 (m4 + 12) c8 _ r8 (by rfl) b8a.row _ 1 1 [.int .u8 1] (by rfl) (Rd.lit _ _ _ 1 _ (by simp [maxLen])) rfl (by simp [Value.oneCell']) (m4 + 13) rfl (by omega) (by simp only [maxLen]; omega) ?_)
          intro A9 c9 r9 v9 hr9 hp9 hf9 _
          have b9 := b8a.app (x := [1]) (by decide) hr9 hp9 hf9 rfl
          have e9 : L8 ++ [(1 : Int)] = be4 next ++ [(n : Int)] ++ (l.take (k + 1)).flatMap hvB := by rw [hts.out, ← hL8V.out, ← hL7V.out, ← hL6V.out, ← hL5V.out]; simp [hvB]
          rw [e9] at b9
          clear e9 b8 d8 b8a hr9 hp9 hf9 p3
          have hN : m4 + 13 = 5 + 13 * (k + 1) := by rw [hm4V.out]; omega
          have hNV := V.mk hN
          clear hN
          go_wp2
          go_roundw
          case rel => exact ⟨k + 1, A9, m4 + 13, c9, r9, by omega, by go_num, rfl, hNV.out, b9⟩
          case measure => simp [intOf]; omega
        | false =>
          have b5 := b4.quiet ((Kp.refl _ _).alloc (.cells #[.int .u32 xi, .int .u32 xo, .int .u32 xe, .bool false] 50))
          have d5 : Bq w (wr.alloc (.cells #[.int .u32 xi, .int .u32 xo, .int .u32 xe, .bool false] 50)) A4 m4 c4 _ r4 wr.heap.size #[.int .u32 xi, .int .u32 xo, .int .u32 xe, .bool false] 50 := ⟨b5.kp, b5.len, b5.row, b5.r0, Blk.new _ _ _⟩
          obtain ⟨L5, hL5⟩ : ∃ L5, be4 next ++ [(n : Int)] ++ pre = L5 := ⟨_, rfl⟩
          rw [hL5] at b5 d5
          have hL5V := V.mk hL5
          clear hL5
          obtain ⟨u, hu⟩ : ∃ u, wr.alloc (.cells #[.int .u32 xi, .int .u32 xo, .int .u32 xe, .bool false] 50) = u := ⟨_, rfl⟩
          have huV := V.mk hu
          have p0 := d5.bx.cell' 0 rfl
          have p3 := d5.bx.cell' 3 rfl
          clear hu
          go_wp2_with fail
          rw [huV.out] at b5 d5 p0 p3 ⊢
          clear p0 p3
          refine (number4_any _ xi (by omega) (by omega)).mono ?_
          rintro e y0 ⟨B0, n0, e0, s0, rfl, hn0, hrow0, _, hk0⟩
          obtain rfl : n0 = 4 := by rw [← hn0]; rfl
          have bb6 := b5.quiet hk0
          have dd6 := d5.quiet hk0
          clear b5 d5 hk0 hn0
          go_wp2_with (at_builtin; refine wpList_app (by rfl) (.tmp 33) (.tmp 37) 57 rfl 5 i0 (.int .u8 0) 1 1 u_bytes hi hz0 hz1 hz2 rfl (by decide) A4 m4 c4 _ r4 (by rfl) bb6.row B0 4 e0 (B8 (be4 xi)) (by rfl) hrow0.rd rfl (B8_one _) (m4 + 4) rfl (by omega) (by simp only [maxLen]; omega) ?_)
          intro A6 c6 r6 v6 hr6 hp6 hf6 _
          have b6 := bb6.app (x := be4 xi) (by decide) hr6 hp6 hf6 rfl
          have d6 := dd6.app (x := be4 xi) (by decide) hr6 hp6 hf6 rfl
          clear bb6 dd6 hr6 hp6 hf6 hrow0
          obtain ⟨L6, hL6⟩ : ∃ L6, L5 ++ be4 xi = L6 := ⟨_, rfl⟩
          rw [hL6] at b6 d6
          have hL6V := V.mk hL6
          clear hL6
          have p0 := d6.bx.cell' 1 rfl
          go_wp2_with fail
          clear p0
          refine (number4_any _ xo (by omega) (by omega)).mono ?_
          rintro e y1 ⟨B1, n1, e1, s1, rfl, hn1, hrow1, _, hk1⟩
          obtain rfl : n1 = 4 := by rw [← hn1]; rfl
          have bb7 := b6.quiet hk1
          have dd7 := d6.quiet hk1
          clear b6 d6 hk1 hn1
          go_wp2_with (at_builtin; refine wpList_app (by rfl) (.tmp 39) (.tmp 43) 57 rfl 5 i0 (.int .u8 0) 1 1 u_bytes hi hz0 hz1 hz2 rfl (by decide) A6 (m4 + 4) c6 _ r6 (by rfl) bb7.row B1 4 e1 (B8 (be4 xo)) (by rfl) hrow1.rd rfl (B8_one _) (m4 + 8) rfl (by omega) (by simp only [maxLen]; omega) ?_)
          intro A7 c7 r7 v7 hr7 hp7 hf7 _
          have b7 := bb7.app (x := be4 xo) (by decide) hr7 hp7 hf7 rfl
          have d7 := dd7.app (x := be4 xo) (by decide) hr7 hp7 hf7 rfl
          clear bb7 dd7 hr7 hp7 hf7 hrow1
          obtain ⟨L7, hL7⟩ : ∃ L7, L6 ++ be4 xo = L7 := ⟨_, rfl⟩
          rw [hL7] at b7 d7
          have hL7V := V.mk hL7
          clear hL7
          have p0 := d7.bx.cell' 2 rfl
          go_wp2_with fail
          clear p0
          refine (number4_any _ xe (by omega) (by omega)).mono ?_
          rintro e y2 ⟨B2, n2, e2, s2, rfl, hn2, hrow2, _, hk2⟩
          obtain rfl : n2 = 4 := by rw [← hn2]; rfl
          have bb8 := b7.quiet hk2
          have dd8 := d7.quiet hk2
          clear b7 d7 hk2 hn2
          go_wp2_with (at_builtin; refine wpList_app (by rfl) (.tmp 45) (.tmp 49) 57 rfl 5 i0 (.int .u8 0) 1 1 u_bytes hi hz0 hz1 hz2 rfl (by decide) A7 (m4 + 8) c7 _ r7 (by rfl) bb8.row B2 4 e2 (B8 (be4 xe)) (by rfl) hrow2.rd rfl (B8_one _) (m4 + 12) rfl (by omega) (by simp only [maxLen]; omega) ?_)
          intro A8 c8 r8 v8 hr8 hp8 hf8 _
          have b8 := bb8.app (x := be4 xe) (by decide) hr8 hp8 hf8 rfl
          have d8 := dd8.app (x := be4 xe) (by decide) hr8 hp8 hf8 rfl
          clear bb8 dd8 hr8 hp8 hf8 hrow2
          obtain ⟨L8, hL8⟩ : ∃ L8, L7 ++ be4 xe = L8 := ⟨_, rfl⟩
          rw [hL8] at b8 d8
          have hL8V := V.mk hL8
          clear hL8
          have p3 := d8.bx.cell' 3 rfl
          have b8a := b8.quiet ((Kp.refl _ _).alloc (.cells #[.int .u8 0] 5))
          go_wp2_with (at_builtin; refine wpList_app (by rfl) (.tmp 56) (.tmp 57) 57 rfl 5 i0 (.int .u8 0) 1 1 u_bytes hi hz0 hz1 hz2 rfl (by decide) A8 (m4 + 12) c8 _ r8 (by rfl) b8a.row _ 1 1 [.int .u8 0] (by rfl) (Rd.lit _ _ _ 1 _ (by simp [maxLen])) rfl (by simp [Value.oneCell']) (m4 + 13) rfl (by omega) (by simp only [maxLen]; omega) ?_)
          intro A9 c9 r9 v9 hr9 hp9 hf9 _
          have b9 := b8a.app (x := [0]) (by decide) hr9 hp9 hf9 rfl
          have e9 : L8 ++ [(0 : Int)] = be4 next ++ [(n : Int)] ++ (l.take (k + 1)).flatMap hvB := by rw [hts.out, ← hL8V.out, ← hL7V.out, ← hL6V.out, ← hL5V.out]; simp [hvB]
          rw [e9] at b9
          clear e9 b8 d8 b8a hr9 hp9 hf9 p3
          have hN : m4 + 13 = 5 + 13 * (k + 1) := by rw [hm4V.out]; omega
          have hNV := V.mk hN
          clear hN
          go_wp2
          go_roundw
          case rel => exact ⟨k + 1, A9, m4 + 13, c9, r9, by omega, by go_num, rfl, hNV.out, b9⟩
          case measure => simp [intOf]; omega
      · have hbs : be4 next ++ [(n : Int)] ++ (l.take k).flatMap hvB = askB next l := by
          unfold askB
          rw [List.take_of_length_le (by omega), hl]
        rw [hbs] at b4
        clear hbs
        go_wp2
        go_ret2
        rw [eF.out.1, eF.out.2]
        exact ⟨A4, m4, c4, r4, rfl, b4.len.out, b4.row, b4.r0, b4.kp⟩
  · have hmay' : may next l = false := by simpa using hmay
    have eF : V (formOf next l = ([], 1)) := ⟨by unfold formOf; rw [if_neg hmay]⟩
    rw [hmay']
    clear hmay hmay'
    go_wp2
    go_ret2
    rw [eF.out]
    exact ⟨none, 0, 0, none, rfl, rfl, Row.nil _ _ _, New.none _, hk0.quiet hk1⟩

end Go.Proofs.Ytboambncimdfjaa
