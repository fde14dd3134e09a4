/- resume.Parse: reads a form. Condition: the bytes are read. -/
import Derived.Test.YtboambncimdfjaaParse13M
import Derived.Test.YtboambncimdfjaaOf13
set_option linter.unusedVariables false
set_option linter.unusedSimpArgs false
set_option maxRecDepth 100000
namespace Go.Proofs.Ytboambncimdfjaa
open Go.RowKit

/-- A reader, and what was read, in boxes of this call's own. -/
structure Pq (w5 W : World) (g : Nat) (rb : Option Nat) (s : List Int × Bool) (Ba : Nat) (next : Int) (A : Option Addr) (k c : Nat) (r : Option Nat) (L : List Hv) : Prop where
  rr : IsRr W g rb s.1 s.2
  bx : Blk W Ba #[.int .u32 next, .slice A k c] 26
  row : Row W 35 4 A k c (hvCells L) r
  r0 : New w5 r
  kp : Kp w5 W (fun j => j = g ∨ j = Ba)
  ne : g ≠ Ba
  rbl : ∀ j, rb = some j → j < w5.heap.size
  gl : g < w5.heap.size
  bl : Ba < w5.heap.size
  rba : rb ≠ some Ba
section
variable {w5 W W' : World} {g : Nat} {rb : Option Nat} {s s' : List Int × Bool} {Ba : Nat} {next : Int} {A : Option Addr} {k c : Nat} {r : Option Nat} {L : List Hv}
theorem Pq.rd (h : Pq w5 W g rb s Ba next A k c r L) (hr : IsRr W' g rb s'.1 s'.2) (hk : Kp W W' (fun j => j = g)) : Pq w5 W' g rb s' Ba next A k c r L :=
  ⟨hr, Blk.kp h.bx hk (fun e => h.ne e.symm), h.row.kp hk (fun j hj e => by have := h.r0 j hj; have := h.gl; omega), h.r0, h.kp.trans hk (fun j e => .inl (.inl e)), h.ne, h.rbl, h.gl, h.bl, h.rba⟩
theorem Pq.quiet (h : Pq w5 W g rb s Ba next A k c r L) (hk : Kp W W' (fun _ => False)) : Pq w5 W' g rb s Ba next A k c r L :=
  ⟨h.rr.quiet hk, Blk.kp h.bx hk (fun h => h), h.row.kp hk (fun _ _ h => h), h.r0, h.kp.trans hk (fun _ h => h.elim), h.ne, h.rbl, h.gl, h.bl, h.rba⟩
theorem Pq.alloc (h : Pq w5 W g rb s Ba next A k c r L) (o : Obj) : Pq w5 (W.alloc o) g rb s Ba next A k c r L := h.quiet ((Kp.refl _ _).alloc o)
theorem Pq.far (h : Pq w5 W g rb s Ba next A k c r L) {p : Addr} (hp : w5.heap.size ≤ p.block) (hpr : r ≠ some p.block) (u : Value) : Pq w5 (W.setCell p u) g rb s Ba next A k c r L := by
  have hk : Kp W (W.setCell p u) (fun j => j = p.block) := Kp.setCell (S := fun j => j = p.block) (Kp.refl _ _) (.inl rfl) u
  refine ⟨h.rr.kp hk (fun e => by have := h.gl; omega) (fun j hj e => by have := h.rbl j hj; omega), Blk.kp h.bx hk (fun e => by have := h.bl; omega), h.row.far hpr u, h.r0, h.kp.trans hk (fun j e => .inr (by omega)), h.ne, h.rbl, h.gl, h.bl, h.rba⟩
theorem Pq.app (h : Pq w5 W g rb s Ba next A k c r L) {A' : Option Addr} {c' : Nat} {r' : Option Nat} {x : Hv} (hr : Row W' 35 4 A' (k + 1) c' (hvCells (L ++ [x])) r') (hk : Kp W W' (fun j => r = some j)) (hf : Fr W r r') :
    Pq w5 (W'.setCell ⟨Ba, 1, none⟩ (.slice A' (k + 1) c')) g rb s Ba next A' (k + 1) c' r' (L ++ [x]) ∧ Blk W' Ba #[.int .u32 next, .slice A k c] 26 := by
  have hne : r ≠ some Ba := h.row.ne_type h.bx (by decide)
  have hb := Blk.kp h.bx hk hne
  have hne' : r' ≠ some Ba := hr.ne_type hb (by decide)
  have hk2 : Kp W (W'.setCell ⟨Ba, 1, none⟩ (.slice A' (k + 1) c')) (fun j => r = some j ∨ j = Ba) := (hk.mono (fun j e => .inl e)).set _ _ _ (.inl (.inr rfl))
  refine ⟨⟨h.rr.kp hk2 ?_ ?_, hb.set 1 _, hr.far (p := ⟨Ba, 1, none⟩) hne' _, h.r0.fr h.kp.size hf, h.kp.trans hk2 ?_, h.ne, h.rbl, h.gl, h.bl, h.rba⟩, hb⟩
  · rintro (e | e)
    · have := h.r0 _ e; have := h.gl; omega
    · exact h.ne e
  · rintro j hj (e | e)
    · have := h.r0 _ e; have := h.rbl j hj; omega
    · exact h.rba (by rw [hj, e])
  · rintro j (e | e)
    · exact .inr (h.r0 j e)
    · exact .inl (.inr e)
end

/-- What is told, and an error, are handed back. -/
def ParseP (w : World) (t : TypeId) (res : Int × List Hv × Int) (e : Ending) (w' : World) : Prop :=
  ∃ A n c r, e = .returned (.tuple #[.agg #[.int .u32 res.1, .slice A n c], .int .i64 res.2.2]) ∧ res.2.1.length = n ∧ Row w' t 4 A n c (hvCells res.2.1) r ∧ New w r ∧ Kp w w' (fun _ => False)

set_option maxHeartbeats 4000000 in
theorem parse_any (w : World) (A : Option Addr) (n c : Nat) (bs : List Int) (hx : bs.length = n) (hrd : Rd w A n c (B8 bs)) (hby : IsB bs) (hn : n ≤ 100000) :
    Calls Try.prog 29 #[.slice A n c] w (ParseP w 35 (parseP bs)) := by
  obtain ⟨i0, hi, hz0, hz1, hz2⟩ := info_parts i_have
  have hk0 := (Kp.refl w (fun _ => False)).alloc (.cells #[.int .u32 0, .slice none 0 0] 26)
  have hb0 := Blk.new w #[.int .u32 0, .slice none 0 0] 26
  have hc := V.mk (rnewr_any _ A n c bs hx (hrd.kp hk0 (fun _ _ _ h => h)) (by omega))
  go_enter Try.func29, Try.ntmps29
  go_wp2_with fail
  refine hc.out.mono ?_
  rintro e w1 ⟨g, rb, rfl, hrr, hg, hrb, hk1⟩
  have hb1 := Blk.kp hb0 hk1 (fun h => h)
  have hkw := hk0.quiet hk1
  have hgs := hk0.size
  rw [World.size_alloc] at hg
  clear hc hk0 hb0 hk1
  have hc := V.mk (rfour_any w1 g rb bs false hrr (by omega) hby)
  have hb4 := takeR_num bs false 4 hby
  have hby2 := takeR_isB hby false 4
  have hln2 := takeR_len bs false 4
  go_wp2_with fail
  refine hc.out.mono ?_
  rintro e w2 ⟨rfl, hrr2, hk2⟩
  have hpV := V.mk (show parseP bs = finP (numB (takeR bs false 4).1) (iterP (takeR (takeR bs false 4).2.1 (takeR bs false 4).2.2 1).2 (numB (takeR (takeR bs false 4).2.1 (takeR bs false 4).2.2 1).1).toNat) from rfl)
  generalize parseP bs = RES at *
  generalize takeR bs false 4 = a at *
  obtain ⟨a1, a2, a3⟩ := a
  simp only at hrr2 hb4 hby2 hln2 hpV ⊢
  obtain ⟨next, hnx⟩ : ∃ k : Nat, numB a1 = k := ⟨(numB a1).toNat, by omega⟩
  rw [hnx] at hb4 hpV ⊢
  have hnl : next < 4294967296 := by have := hb4.2; omega
  clear hc hnx hb4
  -- the box of what is read
  have hba := Blk.new w2 #[.int .u32 next, .slice none 0 0] 26
  have hrr3 := hrr2.quiet ((Kp.refl _ _).alloc (.cells #[.int .u32 next, .slice none 0 0] 26))
  have hg2 := hrr2.lt
  have hrbl2 := fun k (h : rb = some k) => hrr2.rlt h
  have hc := V.mk (rbyte_any _ g rb a2 a3 hrr3 (by omega) hby2)
  have hb1' := takeR_num a2 a3 1 hby2
  have hby3 := takeR_isB hby2 a3 1
  have hln3 := takeR_len a2 a3 1
  obtain ⟨w3, hw3⟩ : ∃ w3, w2.alloc (.cells #[.int .u32 next, .slice none 0 0] 26) = w3 := ⟨_, rfl⟩
  have hV3 := V.mk hw3
  have hsz3 : w2.heap.size < w3.heap.size := by rw [← hw3]; simp
  have hk3 : Kp w2 w3 (fun _ => False) := by rw [← hw3]; exact (Kp.refl _ _).alloc _
  rw [hw3] at hba hrr3 hc
  clear hw3
  go_wp2_with fail
  rw [hV3.out]
  refine hc.out.mono ?_
  rintro e w4 ⟨rfl, hrr4, hk4⟩
  generalize takeR a2 a3 1 = m at *
  obtain ⟨m1, m2, m3⟩ := m
  simp only at hrr4 hb1' hby3 hln3 hpV ⊢
  obtain ⟨many, hnm⟩ : ∃ k : Nat, numB m1 = k := ⟨(numB m1).toNat, by omega⟩
  rw [hnm] at hb1' hpV ⊢
  have hml : many < 256 := by have := hb1'.2; omega
  rw [Int.toNat_natCast] at hpV
  have p0 : Pq w4 w4 g rb (m2, m3) w2.heap.size next none 0 0 none [] :=
    ⟨hrr4, Blk.kp hba hk4 (by omega), Row.nil _ _ _, New.none _, Kp.refl _ _, by omega, fun j hj => hrr4.rlt hj, hrr4.lt, Nat.lt_of_lt_of_le hsz3 hk4.size, fun e => by have := hrbl2 _ e; omega⟩
  have hkw4 : Kp w w4 (fun _ => False) := (((hkw.trans hk2 (fun j e => .inr (by omega))).quiet hk3).trans hk4 (fun j e => .inr (by omega)))
  have hlt1 := hb1.lt
  have hs2 := hk2.size
  have hgw : w.heap.size ≤ g := by have := hkw.size; omega
  have hbaw : w.heap.size ≤ w2.heap.size := by have := hkw.size; have := hk2.size; omega
  have hb5 : Blk w4 w.heap.size #[.int .u32 0, .slice none 0 0] 26 := Blk.kp (Blk.kp (Blk.kp hb1 hk2 (by omega)) hk3 (fun h => h)) hk4 (by omega)
  have hb5b : w.heap.size ≠ w2.heap.size := by have := hb1.lt; have := hk2.size; omega
  have hb5g : w.heap.size ≠ g := by omega
  generalize w2.heap.size = Ba at *
  clear hc hk4 hk3 hk2 hrr2 hrr3 hrr4 hba hb1 hkw hnm hb1' hsz3 hV3 hg2 hrbl2 hrb hrr hby2 hrd
  go_wp2
  go_loopw [6, 7, 8, 16] (fun od _ _ i wr => ∃ (k : Nat) (A1 : Option Addr) (c1 : Nat) (r1 : Option Nat), k ≤ many ∧ i = .int .u8 k ∧ od = .bool (iterP (m2, m3) k).2.1 ∧ Pq w4 wr g rb (iterP (m2, m3) k).2.2 Ba next A1 k c1 r1 (iterP (m2, m3) k).1) (fun _ _ _ i _ => many - (intOf i).toNat)
  case atStart => exact ⟨0, none, 0, none, Nat.zero_le _, rfl, rfl, p0⟩
  case round =>
    obtain ⟨k, A1, c1, r1, hk', rfl, rfl, p0⟩ := hrel
    have hB0 : IsB (iterP (m2, m3) k).2.2.1 := iterP_isB (s := (m2, m3)) hby3 k
    have hL0 : (iterP (m2, m3) k).2.2.1.length ≤ 100000 := by have := iterP_len (m2, m3) k; simp only at this; omega
    have hst := V.mk (show iterP (m2, m3) (k + 1) = ((iterP (m2, m3) k).1 ++ [(recP (iterP (m2, m3) k).2.2).1], (iterP (m2, m3) k).2.1 || (recP (iterP (m2, m3) k).2.2).2.1, (recP (iterP (m2, m3) k).2.2).2.2) from rfl)
    have hitV := V.mk (show iterP (m2, m3) k = iterP (m2, m3) k from rfl)
    by_cases hgo : k < many
    · generalize iterP (m2, m3) k = it at p0 hB0 hL0 hst ⊢
      obtain ⟨li, od, s0⟩ := it
      simp only at p0 hB0 hL0 hst ⊢
      obtain ⟨t0, h0⟩ := s0
      simp only at p0 hB0 hL0
      have hrec := V.mk (show recP (t0, h0) = (⟨numB (takeR t0 h0 4).1, numB (takeR (takeR t0 h0 4).2.1 (takeR t0 h0 4).2.2 4).1, numB (takeR (takeR (takeR t0 h0 4).2.1 (takeR t0 h0 4).2.2 4).2.1 (takeR (takeR t0 h0 4).2.1 (takeR t0 h0 4).2.2 4).2.2 4).1, numB (takeR (takeR (takeR (takeR t0 h0 4).2.1 (takeR t0 h0 4).2.2 4).2.1 (takeR (takeR t0 h0 4).2.1 (takeR t0 h0 4).2.2 4).2.2 4).2.1 (takeR (takeR (takeR t0 h0 4).2.1 (takeR t0 h0 4).2.2 4).2.1 (takeR (takeR t0 h0 4).2.1 (takeR t0 h0 4).2.2 4).2.2 4).2.2 1).1 == 1⟩, decide (numB (takeR (takeR (takeR (takeR t0 h0 4).2.1 (takeR t0 h0 4).2.2 4).2.1 (takeR (takeR t0 h0 4).2.1 (takeR t0 h0 4).2.2 4).2.2 4).2.1 (takeR (takeR (takeR t0 h0 4).2.1 (takeR t0 h0 4).2.2 4).2.1 (takeR (takeR t0 h0 4).2.1 (takeR t0 h0 4).2.2 4).2.2 4).2.2 1).1 > 1), (takeR (takeR (takeR (takeR t0 h0 4).2.1 (takeR t0 h0 4).2.2 4).2.1 (takeR (takeR t0 h0 4).2.1 (takeR t0 h0 4).2.2 4).2.2 4).2.1 (takeR (takeR (takeR t0 h0 4).2.1 (takeR t0 h0 4).2.2 4).2.1 (takeR (takeR t0 h0 4).2.1 (takeR t0 h0 4).2.2 4).2.2 4).2.2 1).2.1, (takeR (takeR (takeR (takeR t0 h0 4).2.1 (takeR t0 h0 4).2.2 4).2.1 (takeR (takeR t0 h0 4).2.1 (takeR t0 h0 4).2.2 4).2.2 4).2.1 (takeR (takeR (takeR t0 h0 4).2.1 (takeR t0 h0 4).2.2 4).2.1 (takeR (takeR t0 h0 4).2.1 (takeR t0 h0 4).2.2 4).2.2 4).2.2 1).2.2) from rfl)
      have hc1 := V.mk (rfour_any _ g rb t0 h0 p0.rr (by omega) hB0)
      have hn1 := takeR_num t0 h0 4 hB0
      have hB1 := takeR_isB hB0 h0 4
      have hL1 := takeR_len t0 h0 4
      generalize takeR t0 h0 4 = X at *
      obtain ⟨x1, t1, h1⟩ := X
      simp only at hc1 hn1 hB1 hL1 hrec
      obtain ⟨v1, hv1⟩ : ∃ v, numB x1 = v := ⟨_, rfl⟩
      rw [hv1] at hc1 hn1 hrec
      clear hv1
      go_wp2_with fail
      refine hc1.out.mono ?_
      rintro e z1 ⟨rfl, q1, k1⟩
      have p1 := p0.rd (s' := (t1, h1)) q1 k1
      clear p0 hc1 q1 k1
      have hc2 := V.mk (rfour_any _ g rb t1 h1 p1.rr (by omega) hB1)
      have hn2 := takeR_num t1 h1 4 hB1
      have hB2 := takeR_isB hB1 h1 4
      have hL2 := takeR_len t1 h1 4
      generalize takeR t1 h1 4 = X at *
      obtain ⟨x2, t2, h2⟩ := X
      simp only at hc2 hn2 hB2 hL2 hrec
      obtain ⟨v2, hv2⟩ : ∃ v, numB x2 = v := ⟨_, rfl⟩
      rw [hv2] at hc2 hn2 hrec
      clear hv2
      go_wp2_with fail
      refine hc2.out.mono ?_
      rintro e z2 ⟨rfl, q2, k2⟩
      have p2 := p1.rd (s' := (t2, h2)) q2 k2
      clear p1 hc2 q2 k2
      have hc3 := V.mk (rfour_any _ g rb t2 h2 p2.rr (by omega) hB2)
      have hn3 := takeR_num t2 h2 4 hB2
      have hB3 := takeR_isB hB2 h2 4
      have hL3 := takeR_len t2 h2 4
      generalize takeR t2 h2 4 = X at *
      obtain ⟨x3, t3, h3⟩ := X
      simp only at hc3 hn3 hB3 hL3 hrec
      obtain ⟨v3, hv3⟩ : ∃ v, numB x3 = v := ⟨_, rfl⟩
      rw [hv3] at hc3 hn3 hrec
      clear hv3
      go_wp2_with fail
      refine hc3.out.mono ?_
      rintro e z3 ⟨rfl, q3, k3⟩
      have p3 := p2.rd (s' := (t3, h3)) q3 k3
      clear p2 hc3 q3 k3
      have hbx := (Blk.new z3 #[.int .u32 v1, .int .u32 v2, .int .u32 v3, .bool false] 35)
      have hbz : w4.heap.size ≤ z3.heap.size := p3.kp.size
      have hne1 : r1 ≠ some z3.heap.size := fun e => absurd (p3.row.lt e) (by omega)
      have p3 := p3.alloc (.cells #[.int .u32 v1, .int .u32 v2, .int .u32 v3, .bool false] 35)
      obtain ⟨u, hu⟩ : ∃ u, z3.alloc (.cells #[.int .u32 v1, .int .u32 v2, .int .u32 v3, .bool false] 35) = u := ⟨_, rfl⟩
      have huV := V.mk hu
      rw [hu] at hbx p3
      clear hu
      have hc4 := V.mk (rbyte_any _ g rb t3 h3 p3.rr (by omega) hB3)
      have hn4 := takeR_num t3 h3 1 hB3
      have hB4 := takeR_isB hB3 h3 1
      have hL4 := takeR_len t3 h3 1
      generalize takeR t3 h3 1 = X at *
      obtain ⟨x4, t4, h4⟩ := X
      simp only at hc4 hn4 hB4 hL4 hrec
      obtain ⟨v4, hv4⟩ : ∃ v, numB x4 = v := ⟨_, rfl⟩
      rw [hv4] at hc4 hn4 hrec
      clear hv4
      go_wp2_with fail
      rw [huV.out]
      refine hc4.out.mono ?_
      rintro e z4 ⟨rfl, q4, k4⟩
      have hbx4 := Blk.kp hbx k4 (by have := p3.gl; omega)
      have p4 := p3.rd (s' := (t4, h4)) q4 k4
      clear p3 hc4 q4 k4 hbx
      generalize z3.heap.size = Bh at *
      obtain ⟨b, hb⟩ : ∃ b, (v4 == (1 : Int)) = b := ⟨_, rfl⟩
      obtain ⟨d, hd⟩ : ∃ d, decide (v4 > (1 : Int)) = d := ⟨_, rfl⟩
      have hd' : decide ((1 : Int) < v4) = d := hd
      rw [hb, hd] at hrec
      have b3 := hbx4.cell' 3 rfl
      have f3 := hbx4.free 3
      have hbx5 := hbx4.set 3 (.bool b)
      have p5 := p4.far (p := ⟨Bh, 3, none⟩) hbz hne1 (.bool b)
      have hkm : k + 1 ≤ maxLen := by simp only [maxLen]; omega
      have c0 := hbx5.cell' 0 rfl
      have c1' := hbx5.cell' 1 rfl
      have c2' := hbx5.cell' 2 rfl
      have c3 := hbx5.cell' 3 rfl
      have e0 := p5.bx.cell' 1 rfl
      have p6 := p5.alloc (.cells #[.int .u32 v1, .int .u32 v2, .int .u32 v3, .bool b] 35)
      have p6V := V.mk p6.row
      have eL : V (hvCells li ++ [.int .u32 v1, .int .u32 v2, .int .u32 v3, .bool b] = hvCells (li ++ [⟨v1, v2, v3, b⟩])) := ⟨by simp [hvCells, Hv.cells]⟩
      have hlit := Rd.lit (z4.setCell ⟨Bh, 3, none⟩ (.bool b)) 35 (0, 0) 1 [.int .u32 v1, .int .u32 v2, .int .u32 v3, .bool b] (by simp [maxLen])
      rw [World.size_setCell] at hlit
      have hlV := V.mk hlit
      clear hlit
      have m0 := hbx4.cell' 0 rfl
      have m1' := hbx4.cell' 1 rfl
      have m2' := hbx4.cell' 2 rfl
      clear hbx5 hbx4 p4
      cases od with
      | true =>
        go_wp2_with (at_builtin; refine wpList_app (by rfl) (.tmp 36) (.tmp 38) 23 rfl 35 i0 (.agg #[.int .u32 0, .int .u32 0, .int .u32 0, .bool false]) 4 16 u_haves hi hz0 hz1 hz2 rfl (by decide) A1 k c1 _ r1 (by rfl) p6V.out _ 1 1 [.int .u32 v1, .int .u32 v2, .int .u32 v3, .bool b] (by rfl) hlV.out rfl (by simp [Value.oneCell']) (k + 1) rfl (by omega) hkm ?_)
        intro A2 c2 r2 w7 hrow7 hkp7 hfr7 _
        rw [eL.out] at hrow7
        obtain ⟨p7, hb7⟩ := p6.app hrow7 hkp7 hfr7
        have n1 := hb7.cell' 1 rfl
        have n2 := hb7.free 1
        have e1 : iterP (m2, m3) (k + 1) = (li ++ [⟨v1, v2, v3, b⟩], (true || d), t4, h4) := by rw [hst.out, hrec.out]
        have hfin : ∃ (k' : Nat) (A' : Option Addr) (c' : Nat) (r' : Option Nat), k' ≤ many ∧ Value.int .u8 ((k : Int) + 1) = .int .u8 k' ∧ Value.bool true = .bool (iterP (m2, m3) k').2.1 ∧ Pq w4 (w7.setCell ⟨Ba, 1, none⟩ (.slice A2 (k + 1) c2)) g rb (iterP (m2, m3) k').2.2 Ba next A' k' c' r' (iterP (m2, m3) k').1 :=
          ⟨k + 1, A2, c2, r2, by omega, by go_num, by rw [e1]; rfl, by rw [e1]; exact p7⟩
        have hfV := V.mk hfin
        clear hfin e1 hrow7 hkp7 hfr7 p5 p6 p6V m0 m1' m2' c0 c1' c2' c3 e0 b3 f3 hb hd hd'
        go_wp2
        go_roundw
        case rel => exact hfV.out
        case measure => simp [intOf]; omega
      | false =>
        go_wp2_with (at_builtin; refine wpList_app (by rfl) (.tmp 36) (.tmp 38) 23 rfl 35 i0 (.agg #[.int .u32 0, .int .u32 0, .int .u32 0, .bool false]) 4 16 u_haves hi hz0 hz1 hz2 rfl (by decide) A1 k c1 _ r1 (by rfl) p6V.out _ 1 1 [.int .u32 v1, .int .u32 v2, .int .u32 v3, .bool b] (by rfl) hlV.out rfl (by simp [Value.oneCell']) (k + 1) rfl (by omega) hkm ?_)
        intro A2 c2 r2 w7 hrow7 hkp7 hfr7 _
        rw [eL.out] at hrow7
        obtain ⟨p7, hb7⟩ := p6.app hrow7 hkp7 hfr7
        have n1 := hb7.cell' 1 rfl
        have n2 := hb7.free 1
        have e1 : iterP (m2, m3) (k + 1) = (li ++ [⟨v1, v2, v3, b⟩], (false || d), t4, h4) := by rw [hst.out, hrec.out]
        have hfin : ∃ (k' : Nat) (A' : Option Addr) (c' : Nat) (r' : Option Nat), k' ≤ many ∧ Value.int .u8 ((k : Int) + 1) = .int .u8 k' ∧ Value.bool d = .bool (iterP (m2, m3) k').2.1 ∧ Pq w4 (w7.setCell ⟨Ba, 1, none⟩ (.slice A2 (k + 1) c2)) g rb (iterP (m2, m3) k').2.2 Ba next A' k' c' r' (iterP (m2, m3) k').1 :=
          ⟨k + 1, A2, c2, r2, by omega, by go_num, by rw [e1]; rfl, by rw [e1]; exact p7⟩
        have hfV := V.mk hfin
        clear hfin e1 hrow7 hkp7 hfr7 p5 p6 p6V m0 m1' m2' c0 c1' c2' c3 e0 b3 f3 hb hd hd'
        go_wp2
        go_roundw
        case rel => exact hfV.out
        case measure => simp [intOf]; omega
    · obtain rfl : k = many := by omega
      have hok := iterP_ok (s := (m2, m3)) hby3 k
      have hlen := iterP_length (m2, m3) k
      clear hst hitV hB0 hL0
      generalize iterP (m2, m3) k = it at *
      obtain ⟨li, od, t, sh⟩ := it
      simp only at p0 hok hlen hpV ⊢
      have hb6 := Blk.kp hb5 p0.kp (by rintro (e | e); exact hb5g e; exact hb5b e)
      have hkf : Kp w wr (fun _ => False) := hkw4.trans p0.kp (fun j e => .inr (by rcases e with e | e <;> omega))
      have g0 := hb6.free 0
      have g1 := hb6.free 1
      have s0 := hb6.cell' 0 rfl
      have s1 := hb6.cell' 1 rfl
      have he := V.mk (rerr_any wr g rb t sh p0.rr)
      have hl := V.mk (rleft_any wr g rb t sh p0.rr)
      have hlenV := V.mk hlen
      clear hlen
      go_wp2_with fail
      refine he.out.mono ?_
      rintro e x ⟨rfl, rfl⟩
      cases sh with
      | true =>
        have eR : V (RES = (0, [], 4)) := ⟨by rw [hpV.out]; rfl⟩
        go_wp2_with fail
        refine he.out.mono ?_
        rintro e x ⟨rfl, rfl⟩
        have hfin := (hb6.set 0 (.int .u32 0)).set 1 (.slice none 0 0)
        have d0 := hfin.cell' 0 rfl
        have d1 := hfin.cell' 1 rfl
        have kf := (hkf.set w.heap.size 0 (.int .u32 0) (.inr (Nat.le_refl _))).set w.heap.size 1 (.slice none 0 0) (.inr (Nat.le_refl _))
        go_wp2
        exact bodyPost_ret (v := .tuple #[.agg #[.int .u32 0, .slice none 0 0], .int .i64 4]) (by simp [results, Try.results29, go_sem, d0, d1]) rfl (by rw [eR.out]; exact ⟨none, 0, 0, none, rfl, rfl, Row.nil _ _ _, New.none _, kf⟩)

      | false =>
        go_wp2_with fail
        refine hl.out.mono ?_
        rintro e x ⟨rfl, rfl⟩
        by_cases ht : 0 < t.length
        · have eR : V (RES = (0, [], 5)) := ⟨by rw [hpV.out]; unfold finP; rw [if_neg (by simp), if_pos (.inl (.inl ht))]⟩
          have ht' : decide (0 < t.length) = true := by simpa using ht
          have ht2 : decide ((t.length : Int) > 0) = true := by simpa using ht
          have hfin := (hb6.set 0 (.int .u32 0)).set 1 (.slice none 0 0)
          have d0 := hfin.cell' 0 rfl
          have d1 := hfin.cell' 1 rfl
          have kf := (hkf.set w.heap.size 0 (.int .u32 0) (.inr (Nat.le_refl _))).set w.heap.size 1 (.slice none 0 0) (.inr (Nat.le_refl _))
          go_wp2
          exact bodyPost_ret (v := .tuple #[.agg #[.int .u32 0, .slice none 0 0], .int .i64 5]) (by simp [results, Try.results29, go_sem, d0, d1]) rfl (by rw [eR.out]; exact ⟨none, 0, 0, none, rfl, rfl, Row.nil _ _ _, New.none _, kf⟩)

        · have ht' : decide (0 < t.length) = false := by simpa using ht
          have ht2 : decide ((t.length : Int) > 0) = false := by simpa using ht
          cases od with
          | true =>
            have eR : V (RES = (0, [], 5)) := ⟨by rw [hpV.out]; unfold finP; rw [if_neg (by simp), if_pos (.inl (.inr rfl))]⟩
            have hfin := (hb6.set 0 (.int .u32 0)).set 1 (.slice none 0 0)
            have d0 := hfin.cell' 0 rfl
            have d1 := hfin.cell' 1 rfl
            have kf := (hkf.set w.heap.size 0 (.int .u32 0) (.inr (Nat.le_refl _))).set w.heap.size 1 (.slice none 0 0) (.inr (Nat.le_refl _))
            go_wp2
            exact bodyPost_ret (v := .tuple #[.agg #[.int .u32 0, .slice none 0 0], .int .i64 5]) (by simp [results, Try.results29, go_sem, d0, d1]) rfl (by rw [eR.out]; exact ⟨none, 0, 0, none, rfl, rfl, Row.nil _ _ _, New.none _, kf⟩)

          | false =>
            have hm := V.mk (may_any wr next (by omega) (by omega) A1 k c1 li hlenV.out p0.row.rd hok)
            have y0 := p0.bx.cell' 0 rfl
            have y1 := p0.bx.cell' 1 rfl
            go_wp2_with fail
            refine hm.out.mono ?_
            rintro e w8 ⟨rfl, hk8⟩
            have p8 := p0.quiet hk8
            have hb8 := Blk.kp hb6 hk8 (fun h => h)
            have hkf8 := hkf.quiet hk8
            clear hb6 hkf p0 hm y0 y1 g0 g1 s0 s1
            have g0 := hb8.free 0
            have g1 := hb8.free 1
            have s0 := hb8.cell' 0 rfl
            have s1 := hb8.cell' 1 rfl
            have y0 := p8.bx.cell' 0 rfl
            have y1 := p8.bx.cell' 1 rfl
            have hb6 := hb8
            have hkf := hkf8
            by_cases hmay : may next li = true
            · have eR : V (RES = ((next : Int), li, 0)) := ⟨by rw [hpV.out]; unfold finP; rw [if_neg (by simp), if_neg (by rintro ((q | q) | q); exact ht q; simp at q; rw [hmay] at q; simp at q)]⟩
              rw [hmay]
              clear hmay
              have hfin := (hb6.set 0 (.int .u32 next)).set 1 (.slice A1 k c1)
              have d0 := hfin.cell' 0 rfl
              have d1 := hfin.cell' 1 rfl
              have kf := (hkf.set w.heap.size 0 (.int .u32 next) (.inr (Nat.le_refl _))).set w.heap.size 1 (.slice A1 k c1) (.inr (Nat.le_refl _))
              have hne : r1 ≠ some w.heap.size := p8.row.ne_type hb6 (by decide)
              have hrf := (p8.row.far (p := ⟨w.heap.size, 0, none⟩) hne (.int .u32 next)).far (p := ⟨w.heap.size, 1, none⟩) hne (.slice A1 k c1)
              have hnw := p8.r0.mono hkw4.size
              go_wp2
              exact bodyPost_ret (v := .tuple #[.agg #[.int .u32 next, .slice A1 k c1], .int .i64 0]) (by simp [results, Try.results29, go_sem, d0, d1]) rfl (by rw [eR.out]; exact ⟨A1, k, c1, r1, rfl, hlenV.out, hrf, hnw, kf⟩)
            · have hmay' : may next li = false := by simpa using hmay
              have eR : V (RES = (0, [], 5)) := ⟨by rw [hpV.out]; unfold finP; rw [if_neg (by simp), if_pos (.inr hmay')]⟩
              rw [hmay']
              clear hmay hmay'
              have hfin := (hb6.set 0 (.int .u32 0)).set 1 (.slice none 0 0)
              have d0 := hfin.cell' 0 rfl
              have d1 := hfin.cell' 1 rfl
              have kf := (hkf.set w.heap.size 0 (.int .u32 0) (.inr (Nat.le_refl _))).set w.heap.size 1 (.slice none 0 0) (.inr (Nat.le_refl _))
              go_wp2
              exact bodyPost_ret (v := .tuple #[.agg #[.int .u32 0, .slice none 0 0], .int .i64 5]) (by simp [results, Try.results29, go_sem, d0, d1]) rfl (by rw [eR.out]; exact ⟨none, 0, 0, none, rfl, rfl, Row.nil _ _ _, New.none _, kf⟩)


end Go.Proofs.Ytboambncimdfjaa
