/- The document's own answers of layer 13: Fits, Again, Replay, Past. Condition: what is told reads as a list. -/
import Derived.Test.YtboambncimdfjaaRef13
set_option linter.unusedVariables false
set_option linter.unusedSimpArgs false
namespace Go.Proofs.Ytboambncimdfjaa
open Go.RowKit

theorem aboveL_take_succ (l : List Hv) (last k : Nat) (h : k < l.length) : aboveL (l.take (k + 1)) last = aboveL (l.take k) last ++ (if (last : Int) < l[k].id then [l[k].id] else []) := by
  unfold aboveL
  rw [List.take_succ_eq_append_getElem h, List.map_append, List.filter_append]
  by_cases hp : (last : Int) < l[k].id <;> simp [hp]
theorem aboveL_length (l : List Hv) (last : Nat) : (aboveL l last).length ≤ l.length := by
  unfold aboveL
  exact Nat.le_trans (List.length_filter_le _ _) (by simp)

set_option maxRecDepth 100000 in
set_option maxHeartbeats 2000000 in
theorem rfits_any (w : World) (next : Nat) (hn1 : next < 4294967296) (A : Option Addr) (n c : Nat) (l : List Hv) (hl : l.length = n) (hrd : Rd w A n c (hvCells l)) (hok : ∀ h ∈ l, h.ok) (last : Nat) (hl1 : last < 4294967296) :
    Calls Try.prog 22 #[.agg #[.int .u32 next, .slice A n c], .int .u32 last] w fun e w' => e = .returned (.int .i64 (fits next l last)) ∧ Kp w w' (fun _ => False) := by
  have hn : n ≤ c ∧ c ≤ 9223372036854775807 := ⟨hrd.1, by have := hrd.2.1; simpa [maxLen] using this⟩
  have hk := (Kp.refl w (fun _ => False)).alloc (.cells #[.int .u32 next, .slice A n c] 44)
  have hb := Blk.new w #[.int .u32 next, .slice A n c] 44
  have q0 := hb.cell' 0 rfl
  have q1 := hb.cell' 1 rfl
  have hrd1 := hrd.kp hk (fun _ _ _ h => h)
  have hm := V.mk (rmay_any _ next (by omega) (by omega) A n c l hl hrd1 hok)
  go_enter Try.func22, Try.ntmps22
  go_wp2_with fail
  refine hm.out.mono ?_
  generalize w.alloc (.cells #[.int .u32 next, .slice A n c] 44) = wa at *
  rintro e w1 ⟨rfl, hk1⟩
  have hkp := hk.quiet hk1
  have hb1 := Blk.kp hb hk1 (fun h => h)
  have hrd2 := hrd1.kp hk1 (fun _ _ _ h => h)
  clear q0 q1 hm
  have q0 := hb1.cell' 0 rfl
  have q1 := hb1.cell' 1 rfl
  by_cases hmay : may next l = true
  · have hmV := V.mk hmay
    rw [hmay]
    clear hmay
    by_cases hge : next ≤ last
    · have e1 : V (fits next l last = 5) := ⟨by unfold fits; rw [hmV.out, if_neg (by simp), if_pos hge]⟩
      have hge' : decide ((last : Int) ≥ (next : Int)) = true := by simpa using hge
      go_wp2
      go_ret
      exact ⟨ret_int e1.out.symm, hkp⟩
    · have hge' : decide ((last : Int) ≥ (next : Int)) = false := by simpa using hge
      have hl16 := (may_mayF hmV.out).2.2
      go_wp2
      go_loop [5, 6] (fun ab i => ∃ k : Nat, k ≤ n ∧ i = .int .i64 k ∧ ab = .int .u32 ((aboveL (l.take k) last).length : Int)) (fun _ i => n - (intOf i).toNat)
      case atStart => exact ⟨0, Nat.zero_le _, rfl, rfl⟩
      case round =>
        obtain ⟨k, hk', rfl, rfl⟩ := hrel
        by_cases hgo : k < n
        · obtain ⟨ab, ao, rfl, hcs⟩ := hrd2.base (by omega) (by rw [hvCells_length]; omega)
          obtain ⟨x0, x1, x2, x3⟩ := hv_at hcs k (by omega)
          have hts := V.mk (aboveL_take_succ l last k (by omega))
          have hle := aboveL_length (l.take k) last
          rw [List.length_take] at hle
          clear hcs x1 x2 x3
          by_cases hgt : (last : Int) < l[k].id
          · have e1 : V ((aboveL (l.take (k + 1)) last).length = (aboveL (l.take k) last).length + 1) := ⟨by rw [hts.out, if_pos hgt]; simp⟩
            have ht : decide (l[k].id > (last : Int)) = true := by simpa using hgt
            clear hts
            generalize (aboveL (l.take k) last).length = m at *
            go_wp2
            go_round
            case rel => exact ⟨k + 1, by omega, by go_num, by rw [e1.out]; go_num⟩
            case measure => simp [intOf]; omega
          · have e1 : V ((aboveL (l.take (k + 1)) last).length = (aboveL (l.take k) last).length) := ⟨by rw [hts.out, if_neg hgt]; simp⟩
            have ht : decide (l[k].id > (last : Int)) = false := by simpa using hgt
            clear hts
            generalize (aboveL (l.take k) last).length = m at *
            go_wp2
            go_round
            case rel => exact ⟨k + 1, by omega, by go_num, by rw [e1.out]⟩
            case measure => simp [intOf]; omega
        · have hend : l.take k = l := List.take_of_length_le (by omega)
          have hcnt := above_count (may_mayF hmV.out).1 (show last < next by omega)
          have hle := aboveL_length l last
          rw [hend]
          have hcV := V.mk hcnt
          clear hcnt hend
          have hfx : V (fits next l last = if (spanL (last + 1) next).filter (fun x => !hasB l x) = [] then 0 else 6) := ⟨by unfold fits; rw [hmV.out, if_neg (by simp), if_neg hge]⟩
          generalize hm' : (aboveL l last).length = m at *
          have hmV' := V.mk hm'
          clear hm'
          by_cases hz : m = next - 1 - last
          · have e1 : V (fits next l last = 0) := ⟨by rw [hfx.out, if_pos (hcV.out.2 hz)]⟩
            have ht : ((m : Int) != (next : Int) - 1 - (last : Int)) = false := by simp; omega
            clear hz
            go_wp2
            go_ret
            exact ⟨ret_int e1.out.symm, hkp⟩
          · have e1 : V (fits next l last = 6) := ⟨by rw [hfx.out, if_neg (fun h => hz (hcV.out.1 h))]⟩
            have ht : ((m : Int) != (next : Int) - 1 - (last : Int)) = true := by simp; omega
            clear hz
            go_wp2
            go_ret
            exact ⟨ret_int e1.out.symm, hkp⟩
  · have hmay' : may next l = false := by simpa using hmay
    have e1 : V (fits next l last = 1) := ⟨by unfold fits; rw [if_pos hmay']⟩
    rw [hmay']
    clear hmay hmay'
    go_wp2
    go_ret
    exact ⟨ret_int e1.out.symm, hkp⟩

set_option maxRecDepth 100000 in
set_option maxHeartbeats 2000000 in
theorem ragain_any (w : World) (next : Nat) (hn1 : next < 4294967296) (A : Option Addr) (n c : Nat) (l : List Hv) (hl : l.length = n) (hrd : Rd w A n c (hvCells l)) (hok : ∀ h ∈ l, h.ok) (last : Nat) (hl1 : last < 4294967296) :
    Calls Try.prog 19 #[.agg #[.int .u32 next, .slice A n c], .int .u32 last] w (NewU w (againL next l last)) := by
  obtain ⟨i0, hi, hz0, hz1, hz2⟩ := info_parts i_u32
  have hn : n ≤ c ∧ c ≤ 9223372036854775807 := ⟨hrd.1, by have := hrd.2.1; simpa [maxLen] using this⟩
  have hk := (Kp.refl w (fun _ => False)).alloc (.cells #[.int .u32 next, .slice A n c] 44)
  have hb := Blk.new w #[.int .u32 next, .slice A n c] 44
  have q0 := hb.cell' 0 rfl
  have q1 := hb.cell' 1 rfl
  have hrd1 := hrd.kp hk (fun _ _ _ h => h)
  have hm := V.mk (rfits_any _ next (by omega) A n c l hl hrd1 hok last hl1)
  go_enter Try.func19, Try.ntmps19
  go_wp2_with fail
  refine hm.out.mono ?_
  generalize w.alloc (.cells #[.int .u32 next, .slice A n c] 44) = wa at *
  rintro e w1 ⟨rfl, hk1⟩
  have hkp := hk.quiet hk1
  have hb1 := Blk.kp hb hk1 (fun h => h)
  have hrd2 := hrd1.kp hk1 (fun _ _ _ h => h)
  clear q0 q1 hm
  by_cases hf : fits next l last = 0
  · have hl16 := (may_mayF (fits_zero hf).1).2.2
    have eL := V.mk (again_above hf)
    rw [hf]
    clear hf
    go_wp2
    go_loopw [5, 6] (fun o i wr => ∃ (k : Nat) (A1 : Option Addr) (n1 c1 : Nat) (r1 : Option Nat), k ≤ n ∧ i = .int .i64 k ∧ o = .slice A1 n1 c1 ∧ V ((aboveL (l.take k) last).length = n1) ∧ n1 ≤ k ∧
      Row wr 24 1 A1 n1 c1 (U32 (aboveL (l.take k) last)) r1 ∧ New w1 r1 ∧ Kp w1 wr (fun _ => False)) (fun _ i _ => n - (intOf i).toNat)
    case atStart => exact ⟨0, none, 0, 0, none, Nat.zero_le _, rfl, rfl, ⟨rfl⟩, Nat.le_refl _, Row.nil _ _ _, New.none _, Kp.refl _ _⟩
    case round =>
      obtain ⟨k, A1, n1, c1, r1, hk', rfl, rfl, hn1', hnk, hrow, hnew, hkw1⟩ := hrel
      have hbr := Blk.kp hb1 hkw1 (fun h => h)
      have q0 := hbr.cell' 0 rfl
      have q1 := hbr.cell' 1 rfl
      by_cases hgo : k < n
      · obtain ⟨ab, ao, rfl, hcs⟩ := (hrd2.kp hkw1 (fun _ _ _ h => h)).base (by omega) (by rw [hvCells_length]; omega)
        obtain ⟨x0, x1, x2, x3⟩ := hv_at hcs k (by omega)
        have hts := V.mk (aboveL_take_succ l last k (by omega))
        clear hcs x1 x2 x3
        by_cases hgt : (last : Int) < l[k].id
        · have e1 : V (aboveL (l.take (k + 1)) last = aboveL (l.take k) last ++ [l[k].id]) := ⟨by rw [hts.out, if_pos hgt]⟩
          have ht : decide (l[k].id > (last : Int)) = true := by simpa using hgt
          have hm1 : n1 + 1 ≤ maxLen := by simp only [maxLen]; omega
          generalize l[k].id = x at *
          clear hts
          go_wp2_with (at_builtin; refine wpList_app (by rfl) (.tmp 26) (.tmp 33) 46 rfl 24 i0 (.int .u32 0) 1 4 u_u32s hi hz0 hz1 hz2 rfl (by decide) A1 n1 c1 _ r1 (by rfl) (hrow.alloc _) _ 1 1 [.int .u32 x] (by rfl) (Rd.lit _ _ _ 1 _ (by simp [maxLen])) rfl (by simp [Value.oneCell']) (n1 + 1) rfl (by omega) hm1 ?_)
          intro A2 c2 r2 w2 hrow2 hkp2 hfr2 _
          have hk2 : Kp w1 w2 (fun _ => False) := (hkw1.alloc (.cells #[.int .u32 x] 24)).trans hkp2 (fun j hj => .inr (hnew j hj))
          have hnew2 : New w1 r2 := hnew.fr (hkw1.alloc (.cells #[.int .u32 x] 24)).size hfr2
          have e2 : U32 (aboveL (l.take k) last) ++ [.int .u32 x] = U32 (aboveL (l.take (k + 1)) last) := by rw [e1.out, U32_append]; rfl
          have e3 : V ((aboveL (l.take (k + 1)) last).length = n1 + 1) := ⟨by rw [e1.out, List.length_append, hn1'.out]; rfl⟩
          rw [e2] at hrow2
          clear e2 hrow hkp2 hfr2 x0
          go_wp2
          go_roundw
          case rel => exact ⟨k + 1, A2, n1 + 1, c2, r2, by omega, by go_num, rfl, e3, by omega, hrow2, hnew2, hk2⟩
          case measure => simp [intOf]; omega
        · have e1 : V (aboveL (l.take (k + 1)) last = aboveL (l.take k) last) := ⟨by rw [hts.out, if_neg hgt]; simp⟩
          have ht : decide (l[k].id > (last : Int)) = false := by simpa using hgt
          clear hts
          go_wp2
          go_roundw
          case rel => exact ⟨k + 1, A1, n1, c1, r1, by omega, by go_num, rfl, by rw [e1.out]; exact hn1', by omega, by rw [e1.out]; exact hrow, hnew, hkw1⟩
          case measure => simp [intOf]; omega
      · have hend : aboveL (l.take k) last = againL next l last := by rw [eL.out, List.take_of_length_le (by omega)]
        rw [hend] at hn1' hrow
        clear hend
        go_wp2
        go_ret
        exact ⟨A1, n1, c1, r1, rfl, hn1'.out, hrow, hnew.mono hkp.size, hkp.quiet hkw1⟩
  · have eL : V (againL next l last = []) := ⟨by unfold againL; rw [if_neg hf]⟩
    have ht : (fits next l last != (0 : Int)) = true := by simpa using hf
    clear hf
    go_wp2
    go_ret
    rw [eL.out]
    exact ⟨none, 0, 0, none, rfl, rfl, Row.nil _ _ _, New.none _, hkp⟩

end Go.Proofs.Ytboambncimdfjaa
