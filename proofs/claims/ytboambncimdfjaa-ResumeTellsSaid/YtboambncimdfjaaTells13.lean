/- longwirelaw13.ResumeTells answers true. Condition: what is told reads as a list. -/
import Derived.Test.YtboambncimdfjaaOf13
import Derived.Test.YtboambncimdfjaaWakes13
set_option linter.unusedVariables false
set_option linter.unusedSimpArgs false
namespace Go.Proofs.Ytboambncimdfjaa
open Go.RowKit

theorem again_len {next : Nat} {l : List Hv} {last : Nat} (h : l.length ≤ 20) : (againL next l last).take 40 = againL next l last := by
  refine List.take_of_length_le ?_
  by_cases hf : fits next l last = 0
  · rw [again_above hf]; have := aboveL_length l last; omega
  · unfold againL; rw [if_neg hf]; simp
theorem replay_len {next : Nat} {l : List Hv} {last : Nat} (h : l.length ≤ 20) : (replayL next l last).take 40 = replayL next l last := by
  refine List.take_of_length_le ?_
  unfold replayL
  split
  · exact Nat.le_trans (List.length_filter_le _ _) (by omega)
  · simp

set_option maxRecDepth 100000 in
set_option maxHeartbeats 4000000 in
theorem tells_any (w : World) (next : Nat) (hn1 : next < 4294967296) (A : Option Addr) (n c : Nat) (l : List Hv) (hl : l.length = n) (hrd : Rd w A n c (hvCells l)) (hok : ∀ h ∈ l, h.ok) (last : Nat) (hl1 : last < 4294967296) :
    Calls Try.prog 4 #[.agg #[.int .u32 next, .slice A n c], .int .u32 last] w fun e w' => e = .returned (.bool true) ∧ Kp w w' (fun _ => False) := by
  obtain ⟨i0, hi, hz0, hz1, hz2⟩ := info_parts i_rhave
  obtain ⟨m, hm⟩ : ∃ m, min n 20 = m := ⟨_, rfl⟩
  have hlm : (l.take 20).length = m := by rw [List.length_take]; omega
  have hm20 : m ≤ 20 := by omega
  have hok2 : ∀ h ∈ l.take 20, h.ok := fun h hh => hok h (List.mem_of_mem_take hh)
  have hk0 := (Kp.refl w (fun _ => False)).alloc (.cells #[.int .u32 next, .slice A n c] 26)
  have hb0 := Blk.new w #[.int .u32 next, .slice A n c] 26
  have hfew := V.mk (few_any (w.alloc (.cells #[.int .u32 next, .slice A n c] 26)) next A n c l hl (hrd.kp hk0 (fun _ _ _ h => h)) m hm)
  have hlV := V.mk hlm
  generalize l.take 20 = L at *
  clear hm hlm
  obtain ⟨wa, hW⟩ : ∃ wa, w.alloc (.cells #[.int .u32 next, .slice A n c] 26) = wa := ⟨_, rfl⟩
  have hWV := V.mk hW
  rw [hW] at hk0 hb0 hfew
  clear hW
  have q0 := hb0.cell' 0 rfl
  have q1 := hb0.cell' 1 rfl
  go_enter Try.func4, Try.ntmps4
  go_wp2_with fail
  rw [hWV.out]
  refine hfew.out.mono ?_
  rintro e w1 ⟨A1, c1, r1, rfl, hr1, hn1', hk1⟩
  have hb1 := Blk.kp hb0 hk1 (fun h => h)
  have f0 := hb1.free 0
  have f1 := hb1.free 1
  have p0 := hb1.cell' 0 rfl
  have p1 := hb1.cell' 1 rfl
  have hsz := hk0.size
  have hz := hb0.lt
  -- the told is cut: the box
  have hb2 := ((hb1.set 0 (.int .u32 next)).set 1 (.slice A1 m c1))
  have hne1 : r1 ≠ some w.heap.size := fun e => by have := hn1' _ e; omega
  have hr2 := (hr1.far (p := ⟨w.heap.size, 0, none⟩) hne1 (.int .u32 next)).far (p := ⟨w.heap.size, 1, none⟩) hne1 (.slice A1 m c1)
  have hk2 : Kp w ((w1.setCell ⟨w.heap.size, 0, none⟩ (.int .u32 next)).setCell ⟨w.heap.size, 1, none⟩ (.slice A1 m c1)) (fun _ => False) :=
    ((hk0.quiet hk1).set _ _ _ (.inr (Nat.le_refl _))).set _ _ _ (.inr (Nat.le_refl _))
  obtain ⟨w2, hW2⟩ : ∃ w2, (w1.setCell ⟨w.heap.size, 0, none⟩ (.int .u32 next)).setCell ⟨w.heap.size, 1, none⟩ (.slice A1 m c1) = w2 := ⟨_, rfl⟩
  have hWV2 := V.mk hW2
  rw [hW2] at hb2 hr2 hk2
  clear hW2
  have hof := V.mk (of_any w2 next A1 m c1 L hlV.out hr2.rd (by omega))
  have g0 := hb2.cell' 0 rfl
  have g1 := hb2.cell' 1 rfl
  go_wp2_with fail
  rw [hWV2.out]
  clear f0 f1 p0 p1 q0 q1 hfew
  go_wp2_with fail
  refine hof.out.mono ?_
  rintro e w3 ⟨A2, c2, r2, rfl, hr3, hn3, hk3⟩
  go_wp2_with fail
  have hk4 := (hk2.quiet hk3).alloc (.cells #[.int .u32 next, .slice A2 m c2] 44)
  have hb4 := (Blk.kp hb2 hk3 (fun h => h)).alloc (.cells #[.int .u32 next, .slice A2 m c2] 44)
  have hb5 := Blk.new w3 #[.int .u32 next, .slice A2 m c2] 44
  have hr4 := (hr2.kp hk3 (fun _ _ h => h)).alloc (.cells #[.int .u32 next, .slice A2 m c2] 44)
  have hr5 := hr3.alloc (.cells #[.int .u32 next, .slice A2 m c2] 44)
  obtain ⟨w4, hW4⟩ : ∃ w4, w3.alloc (.cells #[.int .u32 next, .slice A2 m c2] 44) = w4 := ⟨_, rfl⟩
  rw [hW4] at hk4 hb4 hb5 hr4 hr5 ⊢
  generalize w3.heap.size = B5 at *
  generalize w.heap.size = B0 at *
  clear hW4 hr2 hr3 hb2 hb1 hb0 hr1 hk2 hk1 hk0 hWV hWV2 hof hn1' hn3 hk3 hz hsz hne1 g0 g1 hrd hl
  have hlow : ∀ ad, A1 = some ad → hvCells L ≠ [] → ad.block < w4.heap.size := fun ad h1 _ => by
    obtain ⟨g, rfl, h2⟩ := hr4.addr_some h1
    exact hr4.lt h2
  have g0 := hb5.cell' 0 rfl
  have g1 := hb5.cell' 1 rfl
  go_region_held3 (fun W => W.cell? ⟨B5, 0, none⟩ = some (.int .u32 next) ∧ W.cell? ⟨B5, 1, none⟩ = some (.slice A2 m c2)) (exact ⟨by assumption, by assumption⟩)
    ((first | (go_at_call 20; refine (rpast_any _ next hn1 A2 m c2 L hlV.out (hr5.rd.kp (Kp.of_drew hk5) (fun _ _ _ h => h)) hok2 last hl1 40 (by omega)).mono ?_; rintro e w6 ⟨Ap, np, cp, rp, rfl, hnp, hrp, _, hk6⟩; have hq6 := Kp.quiet (Kp.of_drew hk5) hk6; have g06 := (Blk.kp hb5 hq6 (fun h => h)).cell' 0 rfl; have g16 := (Blk.kp hb5 hq6 (fun h => h)).cell' 1 rfl)
            | (go_at_call 19; refine (ragain_any _ next hn1 A2 m c2 L hlV.out hr5.rd.drew hok2 last hl1).mono ?_; rintro e w5 ⟨Aa, na, ca, ra, rfl, hna, hra, _, hk5⟩; have g05 := (Blk.kp hb5 (Kp.of_drew hk5) (fun h => h)).cell' 0 rfl; have g15 := (Blk.kp hb5 (Kp.of_drew hk5) (fun h => h)).cell' 1 rfl) | fail "no arm"))
  have hb46 := Blk.kp hb4 hq6 (fun h => h)
  have hb56 := Blk.kp hb5 hq6 (fun h => h)
  have hr46 := hr4.kp hq6 (fun _ _ h => h)
  have hr56 := hr5.kp hq6 (fun _ _ h => h)
  have hra6 := hra.kp hk6 (fun _ _ h => h)
  have hk6w := hk4.quiet hq6
  have hlow6 : ∀ ad, A1 = some ad → hvCells L ≠ [] → ad.block < w6.heap.size := fun ad h1 h2 => Nat.lt_of_lt_of_le (hlow ad h1 h2) hq6.size
  clear hq6 hk6 hk5 hra hr4 hr5 hb4 hb5 hk4 g05 g15 g06 g16 g0 g1 hlow
  have g0 := hb46.cell' 0 rfl
  have g1 := hb46.cell' 1 rfl
  go_wp2_with fail
  refine (replay_any _ _ _ _ _ _).mono ?_
  rintro e w7 ⟨Ba7, Bl7, rfl, ha7, hl7, _, _, hk7⟩
  have ht7 : Told w7 (fun k => k < w7.heap.size) next A1 m c1 L last Ba7 Bl7 :=
    ⟨ha7, hl7, hr46.rd.kp hk7 (fun _ _ _ h => h), fun ad h1 h2 => Nat.lt_of_lt_of_le (hlow6 ad h1 h2) hk7.size, fun ad h1 h2 => Nat.lt_of_lt_of_le (hlow6 ad h1 h2) hk7.size⟩
  have hfr := V.mk (firstReplay w7 next hn1 A1 m c1 L hlV.out hok2 last hl1 Ba7 Bl7 ht7 40 (by omega))
  rw [replay_len (by rw [hlV.out]; omega)] at hfr
  clear ht7 ha7 hl7
  go_wp2_with fail
  refine hfr.out.mono ?_
  rintro e w8 ⟨Ar, nr, cr, rr, rfl, hnr, hrr, _, hk8⟩
  have hq8 := hk7.quiet hk8
  have hb48 := Blk.kp hb46 hq8 (fun h => h)
  have hb58 := Blk.kp hb56 hq8 (fun h => h)
  have hr48 := hr46.rd.kp hq8 (fun _ _ _ h => h)
  have hr58 := hr56.rd.kp hq8 (fun _ _ _ h => h)
  have hra8 := hra6.rd.kp hq8 (fun _ _ _ h => h)
  have hrp8 := hrp.rd.kp hq8 (fun _ _ _ h => h)
  have hk8w := hk6w.quiet hq8
  have hlow8 : ∀ ad, A1 = some ad → hvCells L ≠ [] → ad.block < w8.heap.size := fun ad h1 h2 => Nat.lt_of_lt_of_le (hlow6 ad h1 h2) hq8.size
  have hrr8 := hrr.rd
  have hnc8 : nr ≤ cr ∧ cr ≤ 9223372036854775807 := ⟨hrr.le.1, by have := hrr.le.2; simpa [maxLen] using this⟩
  have hnr20 : nr ≤ 20 := by
    rw [← hnr]
    unfold replayL
    split
    · exact Nat.le_trans (List.length_filter_le _ _) (by rw [hlV.out]; omega)
    · simp
  clear hq8 hk8 hk7 hfr hb46 hb56 hr46 hr56 hra6 hrp hrr hk6w hlow6 g0 g1
  have hreV := V.mk (show replayL next L last = replayL next L last from rfl)
  have hrL := V.mk hnr
  generalize hR : replayL next L last = R at *
  have hRV := V.mk hR
  clear hreV hnr hR
  go_wp2
  go_loopw [8, 10, 26] (fun o _ i wr => ∃ (k : Nat) (A1' : Option Addr) (c1' : Nat) (r1' : Option Nat), k ≤ nr ∧ i = .int .i64 k ∧ o = .slice A1' k c1' ∧
      Row wr 50 4 A1' k c1' (hvCells (R.take k)) r1' ∧ New w8 r1' ∧ Kp w8 wr (fun _ => False)) (fun _ _ i _ => nr - (intOf i).toNat)
  case atStart => exact ⟨0, none, 0, none, Nat.zero_le _, rfl, rfl, Row.nil _ _ _, New.none _, Kp.refl _ _⟩
  case round =>
    obtain ⟨k, A3, c3, r3, hk', rfl, rfl, hrow, hnew, hkr⟩ := hrel
    by_cases hgo : k < nr
    · have hkl : k < R.length := by rw [hrL.out]; exact hgo
      obtain ⟨ab, ao, rfl, hcs⟩ := (hrr8.kp hkr (fun _ _ _ h => h)).base (by omega) (by rw [hvCells_length]; omega)
      obtain ⟨x0, x1, x2, x3⟩ := hv_at hcs k hkl
      have hts := V.mk (List.take_succ_eq_append_getElem hkl)
      have hkm : k + 1 ≤ maxLen := by simp only [maxLen]; omega
      clear hcs
      generalize R[k] = x at *
      go_wp2_with (at_builtin; refine wpList_app (by rfl) (.tmp 30) (.tmp 32) 42 rfl 50 i0 (.agg #[.int .u32 0, .int .u32 0, .int .u32 0, .bool false]) 4 16 u_rhaves hi hz0 hz1 hz2 rfl (by decide) A3 k c3 _ r3 (by rfl) ((hrow.alloc _).alloc _) _ 1 1 [.int .u32 x.id, .int .u32 x.out, .int .u32 x.err, .bool x.st] (by rfl) (Rd.lit2' _ _ _ _ 1 _ (by simp [maxLen])) rfl (by simp [Value.oneCell']) (k + 1) rfl (by omega) hkm ?_)
      intro A4 c4 r4 w9 hrow4 hkp4 hfr4 _
      have hka := (hkr.alloc (.cells #[.int .u32 x.id, .int .u32 x.out, .int .u32 x.err, .bool x.st] 35)).alloc (.cells #[.int .u32 x.id, .int .u32 x.out, .int .u32 x.err, .bool x.st] 50)
      have hnew4 : New w8 r4 := hnew.fr hka.size hfr4
      have hk4' : Kp w8 w9 (fun _ => False) := hka.trans hkp4 (fun j hj => .inr (hnew j hj))
      have e2 : hvCells (R.take k) ++ [.int .u32 x.id, .int .u32 x.out, .int .u32 x.err, .bool x.st] = hvCells (R.take (k + 1)) := by rw [hts.out, hvCells_append]; simp [hvCells, Hv.cells]
      rw [e2] at hrow4
      clear e2 hrow hkp4 hfr4 x0 x1 x2 x3
      go_wp2
      go_roundw
      case rel => exact ⟨k + 1, A4, c4, r4, by omega, by go_num, rfl, hrow4, hnew4, hk4'⟩
      case measure => simp [intOf]; omega
    · have hend : R.take k = R := List.take_of_length_le (by rw [hrL.out]; omega)
      rw [hend] at hrow
      clear hend
      obtain rfl : k = nr := by omega
      go_wp2
      have hb0r := Blk.kp hb48 hkr (fun h => h)
      have hb5r := Blk.kp hb58 hkr (fun h => h)
      have rd1r := hr48.kp hkr (fun _ _ _ h => h)
      have rd2r := hr58.kp hkr (fun _ _ _ h => h)
      have rdar := hra8.kp hkr (fun _ _ _ h => h)
      have rdpr := hrp8.kp hkr (fun _ _ _ h => h)
      have kwr := hk8w.quiet hkr
      have lowr : ∀ ad, A1 = some ad → hvCells L ≠ [] → ad.block < wr.heap.size := fun ad h1 h2 => Nat.lt_of_lt_of_le (hlow8 ad h1 h2) hkr.size
      have ga := hb0r.cell' 0 rfl
      have gb := hb0r.cell' 1 rfl
      have gc := hb5r.cell' 0 rfl
      have gd := hb5r.cell' 1 rfl
      go_region_held3 (fun W => W.cell? ⟨B0, 0, none⟩ = some (.int .u32 next) ∧ W.cell? ⟨B0, 1, none⟩ = some (.slice A1 m c1) ∧ W.cell? ⟨B5, 0, none⟩ = some (.int .u32 next) ∧ W.cell? ⟨B5, 1, none⟩ = some (.slice A2 m c2)) (exact ⟨by assumption, by assumption, by assumption, by assumption⟩)
        ((first | (go_at_call 16; refine (wakes_any _).mono ?_; rintro e e11 ⟨rfl, hk11⟩; have hq11 := Kp.quiet hq10 hk11; have ga11 := (Blk.kp hb0r hq11 (fun h => h)).cell' 0 rfl; have gb11 := (Blk.kp hb0r hq11 (fun h => h)).cell' 1 rfl; have gc11 := (Blk.kp hb5r hq11 (fun h => h)).cell' 0 rfl; have gd11 := (Blk.kp hb5r hq11 (fun h => h)).cell' 1 rfl)
                | (go_at_call 23; (with_reducible show Calls _ _ _ e9 _); refine (wkEq hnx9 hrx9 (Kp.refl _ _) hnp (rdpr.kp hq9 (fun _ _ _ h => h))).mono ?_; rintro e e10 ⟨rfl, hk10⟩; have hq10 := Kp.quiet hq9 hk10; have ga10 := (Blk.kp hb0r hq10 (fun h => h)).cell' 0 rfl; have gb10 := (Blk.kp hb0r hq10 (fun h => h)).cell' 1 rfl; have gc10 := (Blk.kp hb5r hq10 (fun h => h)).cell' 0 rfl; have gd10 := (Blk.kp hb5r hq10 (fun h => h)).cell' 1 rfl)
                | (go_at_call 24; (with_reducible show Calls _ _ _ e8 _); refine (firstPast _ next hn1 A1 m c1 L hlV.out hok2 last hl1 Ba8 Bl8 htt8 40 (by omega)).mono ?_; rintro e e9 ⟨Ax9, nx9, cx9, rx9, rfl, hnx9, hrx9, _, hk9⟩; have hq9 := Kp.quiet hq8 hk9; have ga9 := (Blk.kp hb0r hq9 (fun h => h)).cell' 0 rfl; have gb9 := (Blk.kp hb0r hq9 (fun h => h)).cell' 1 rfl; have gc9 := (Blk.kp hb5r hq9 (fun h => h)).cell' 0 rfl; have gd9 := (Blk.kp hb5r hq9 (fun h => h)).cell' 1 rfl)
                | (go_at_call 13; refine (past_any _ _ _ _ _ _).mono ?_; rintro e e8 ⟨Ba8, Bl8, rfl, haa8, hll8, _, _, hk8⟩; have hq8 := Kp.quiet hq7 hk8; have ga8 := (Blk.kp hb0r hq8 (fun h => h)).cell' 0 rfl; have gb8 := (Blk.kp hb0r hq8 (fun h => h)).cell' 1 rfl; have gc8 := (Blk.kp hb5r hq8 (fun h => h)).cell' 0 rfl; have gd8 := (Blk.kp hb5r hq8 (fun h => h)).cell' 1 rfl; have htt8 : Told e8 (fun k => k < e8.heap.size) next A1 m c1 L last Ba8 Bl8 := ⟨haa8, hll8, rd1r.kp hq8 (fun _ _ _ h => h), (fun ad h1 h2 => Nat.lt_of_lt_of_le (lowr ad h1 h2) hq8.size), (fun ad h1 h2 => Nat.lt_of_lt_of_le (lowr ad h1 h2) hq8.size)⟩)
                | (go_at_call 25; refine (eqr_any _ _ _ _ _ _ _ R R hrL.out hnx6 (hrow.rd.kp hq6 (fun _ _ _ h => h)) hrx6.rd).mono ?_; rw [show decide (R = R) = true by simp]; rintro e e7 ⟨rfl, hk7⟩; have hq7 := Kp.quiet hq6 hk7; have ga7 := (Blk.kp hb0r hq7 (fun h => h)).cell' 0 rfl; have gb7 := (Blk.kp hb0r hq7 (fun h => h)).cell' 1 rfl; have gc7 := (Blk.kp hb5r hq7 (fun h => h)).cell' 0 rfl; have gd7 := (Blk.kp hb5r hq7 (fun h => h)).cell' 1 rfl)
                | (go_at_call 26; refine (rreplay_any _ next hn1 A2 m c2 L hlV.out (rd2r.kp hq5 (fun _ _ _ h => h)) hok2 last hl1).mono ?_; rintro e e6 ⟨Ax6, nx6, cx6, rx6, rfl, hnx6, hrx6, _, hk6⟩; rw [hRV.out] at hnx6 hrx6; have hq6 := Kp.quiet hq5 hk6; have ga6 := (Blk.kp hb0r hq6 (fun h => h)).cell' 0 rfl; have gb6 := (Blk.kp hb0r hq6 (fun h => h)).cell' 1 rfl; have gc6 := (Blk.kp hb5r hq6 (fun h => h)).cell' 0 rfl; have gd6 := (Blk.kp hb5r hq6 (fun h => h)).cell' 1 rfl)
                | (go_at_call 23; (with_reducible show Calls _ _ _ e4 _); refine (wkEq hnx4 hrx4 (Kp.refl _ _) hna (rdar.kp hq4 (fun _ _ _ h => h))).mono ?_; rintro e e5 ⟨rfl, hk5⟩; have hq5 := Kp.quiet hq4 hk5; have ga5 := (Blk.kp hb0r hq5 (fun h => h)).cell' 0 rfl; have gb5 := (Blk.kp hb0r hq5 (fun h => h)).cell' 1 rfl; have gc5 := (Blk.kp hb5r hq5 (fun h => h)).cell' 0 rfl; have gd5 := (Blk.kp hb5r hq5 (fun h => h)).cell' 1 rfl)
                | (go_at_call 24; (with_reducible show Calls _ _ _ e3 _); refine (firstAgain _ next hn1 A1 m c1 L hlV.out hok2 last hl1 Ba3 Bl3 htt3 40 (by omega)).mono ?_; rintro e e4 ⟨Ax4, nx4, cx4, rx4, rfl, hnx4, hrx4, _, hk4⟩; rw [again_len (by rw [hlV.out]; omega)] at hnx4 hrx4; have hq4 := Kp.quiet hq3 hk4; have ga4 := (Blk.kp hb0r hq4 (fun h => h)).cell' 0 rfl; have gb4 := (Blk.kp hb0r hq4 (fun h => h)).cell' 1 rfl; have gc4 := (Blk.kp hb5r hq4 (fun h => h)).cell' 0 rfl; have gd4 := (Blk.kp hb5r hq4 (fun h => h)).cell' 1 rfl)
                | (go_at_call 10; refine (again_any _ _ _ _ _ _).mono ?_; rintro e e3 ⟨Ba3, Bl3, rfl, haa3, hll3, _, _, hk3⟩; have hq3 := Kp.quiet hq2 hk3; have ga3 := (Blk.kp hb0r hq3 (fun h => h)).cell' 0 rfl; have gb3 := (Blk.kp hb0r hq3 (fun h => h)).cell' 1 rfl; have gc3 := (Blk.kp hb5r hq3 (fun h => h)).cell' 0 rfl; have gd3 := (Blk.kp hb5r hq3 (fun h => h)).cell' 1 rfl; have htt3 : Told e3 (fun k => k < e3.heap.size) next A1 m c1 L last Ba3 Bl3 := ⟨haa3, hll3, rd1r.kp hq3 (fun _ _ _ h => h), (fun ad h1 h2 => Nat.lt_of_lt_of_le (lowr ad h1 h2) hq3.size), (fun ad h1 h2 => Nat.lt_of_lt_of_le (lowr ad h1 h2) hq3.size)⟩)
                | (go_at_call 22; refine (rfits_any _ next hn1 A2 m c2 L hlV.out (rd2r.kp hq1 (fun _ _ _ h => h)) hok2 last hl1).mono ?_; rintro e e2 ⟨rfl, hk2⟩; have hq2 := Kp.quiet hq1 hk2; have ga2 := (Blk.kp hb0r hq2 (fun h => h)).cell' 0 rfl; have gb2 := (Blk.kp hb0r hq2 (fun h => h)).cell' 1 rfl; have gc2 := (Blk.kp hb5r hq2 (fun h => h)).cell' 0 rfl; have gd2 := (Blk.kp hb5r hq2 (fun h => h)).cell' 1 rfl)
                | (go_at_call 14; refine (fits_any _ next hn1 A1 m c1 L hlV.out rd1r.drew lowr hok2 last hl1).mono ?_; rintro e e1 ⟨rfl, hk1⟩; have hq1 := Kp.of_drew hk1; have ga1 := (Blk.kp hb0r hq1 (fun h => h)).cell' 0 rfl; have gb1 := (Blk.kp hb0r hq1 (fun h => h)).cell' 1 rfl; have gc1 := (Blk.kp hb5r hq1 (fun h => h)).cell' 0 rfl; have gd1 := (Blk.kp hb5r hq1 (fun h => h)).cell' 1 rfl)
                | fail "no arm fits"))
      all_goals
        go_wp2
        go_ret
        exact ⟨rfl, kwr.quiet hq11⟩

end Go.Proofs.Ytboambncimdfjaa
