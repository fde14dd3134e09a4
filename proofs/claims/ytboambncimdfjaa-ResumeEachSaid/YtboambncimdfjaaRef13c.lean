/- The document's own answers of layer 13: Replay, Past. Condition: what is told reads as a list. -/
import Derived.Test.YtboambncimdfjaaRef13b
set_option linter.unusedVariables false
set_option linter.unusedSimpArgs false
namespace Go.Proofs.Ytboambncimdfjaa
open Go.RowKit

theorem u_rhaves : Try.prog.underlying 42 = some (.slice 50) := by kernel_rfl
theorem i_rhave : (Try.prog.info? 50).map (fun i => (i.zero, i.size, i.bytes)) = some (some (.agg #[.int .u32 0, .int .u32 0, .int .u32 0, .bool false]), 4, 16) := by kernel_rfl
def NewR (w : World) (L : List Hv) (e : Ending) (w' : World) : Prop :=
  ∃ A n c r, e = .returned (.slice A n c) ∧ L.length = n ∧ Row w' 50 4 A n c (hvCells L) r ∧ New w r ∧ Kp w w' (fun _ => False)
def replF (l : List Hv) (last : Nat) : List Hv := l.filter (fun h => decide (h.id ≤ (last : Int)))
theorem replF_take_succ (l : List Hv) (last k : Nat) (h : k < l.length) : replF (l.take (k + 1)) last = replF (l.take k) last ++ (if l[k].id ≤ (last : Int) then [l[k]] else []) := by
  unfold replF
  rw [List.take_succ_eq_append_getElem h, List.filter_append]
  by_cases hp : l[k].id ≤ (last : Int) <;> simp [hp]
theorem replay_eq {next : Nat} {l : List Hv} {last : Nat} (h : fits next l last = 0) : replayL next l last = replF l last := by unfold replayL; rw [if_pos h]; rfl

set_option maxRecDepth 100000 in
set_option maxHeartbeats 2000000 in
theorem rreplay_any (w : World) (next : Nat) (hn1 : next < 4294967296) (A : Option Addr) (n c : Nat) (l : List Hv) (hl : l.length = n) (hrd : Rd w A n c (hvCells l)) (hok : ∀ h ∈ l, h.ok) (last : Nat) (hl1 : last < 4294967296) :
    Calls Try.prog 26 #[.agg #[.int .u32 next, .slice A n c], .int .u32 last] w (NewR w (replayL next l last)) := by
  obtain ⟨i0, hi, hz0, hz1, hz2⟩ := info_parts i_rhave
  have hn : n ≤ c ∧ c ≤ 9223372036854775807 := ⟨hrd.1, by have := hrd.2.1; simpa [maxLen] using this⟩
  have hk := (Kp.refl w (fun _ => False)).alloc (.cells #[.int .u32 next, .slice A n c] 44)
  have hb := Blk.new w #[.int .u32 next, .slice A n c] 44
  have q0 := hb.cell' 0 rfl
  have q1 := hb.cell' 1 rfl
  have hrd1 := hrd.kp hk (fun _ _ _ h => h)
  have hm := V.mk (rfits_any _ next (by omega) A n c l hl hrd1 hok last hl1)
  go_enter Try.func26, Try.ntmps26
  go_wp2_with fail
  refine hm.out.mono ?_
  generalize w.alloc (.cells #[.int .u32 next, .slice A n c] 44) = wa at *
  rintro e w1 ⟨rfl, hk1⟩
  have hkp := hk.quiet hk1
  have hb1 := Blk.kp hb hk1 (fun h => h)
  have hrd2 := hrd1.kp hk1 (fun _ _ _ h => h)
  clear q0 q1 hm
  by_cases hf : fits next l last = 0
  · have hl16 := (may_mayF (fits_zero hf).1).2.2
    have eL := V.mk (replay_eq hf)
    rw [hf]
    clear hf
    go_wp2
    go_loopw [5, 6] (fun o i wr => ∃ (k : Nat) (A1 : Option Addr) (n1 c1 : Nat) (r1 : Option Nat), k ≤ n ∧ i = .int .i64 k ∧ o = .slice A1 n1 c1 ∧ V ((replF (l.take k) last).length = n1) ∧ n1 ≤ k ∧
      Row wr 50 4 A1 n1 c1 (hvCells (replF (l.take k) last)) r1 ∧ New w1 r1 ∧ Kp w1 wr (fun _ => False)) (fun _ i _ => n - (intOf i).toNat)
    case atStart => exact ⟨0, none, 0, 0, none, Nat.zero_le _, rfl, rfl, ⟨rfl⟩, Nat.le_refl _, Row.nil _ _ _, New.none _, Kp.refl _ _⟩
    case round =>
      obtain ⟨k, A1, n1, c1, r1, hk', rfl, rfl, hn1', hnk, hrow, hnew, hkw1⟩ := hrel
      have hbr := Blk.kp hb1 hkw1 (fun h => h)
      have q0 := hbr.cell' 0 rfl
      have q1 := hbr.cell' 1 rfl
      by_cases hgo : k < n
      · obtain ⟨ab, ao, rfl, hcs⟩ := (hrd2.kp hkw1 (fun _ _ _ h => h)).base (by omega) (by rw [hvCells_length]; omega)
        obtain ⟨x0, x1, x2, x3⟩ := hv_at hcs k (by omega)
        have hts := V.mk (replF_take_succ l last k (by omega))
        clear hcs
        by_cases hgt : l[k].id ≤ (last : Int)
        · have e1 : V (replF (l.take (k + 1)) last = replF (l.take k) last ++ [l[k]]) := ⟨by rw [hts.out, if_pos hgt]⟩
          have ht : decide (l[k].id ≤ (last : Int)) = true := by simpa using hgt
          have hm1 : n1 + 1 ≤ maxLen := by simp only [maxLen]; omega
          generalize l[k] = x at *
          clear hts
          go_wp2_with (at_builtin; refine wpList_app (by rfl) (.tmp 26) (.tmp 32) 42 rfl 50 i0 (.agg #[.int .u32 0, .int .u32 0, .int .u32 0, .bool false]) 4 16 u_rhaves hi hz0 hz1 hz2 rfl (by decide) A1 n1 c1 _ r1 (by rfl) (hrow.alloc _) _ 1 1 [.int .u32 x.id, .int .u32 x.out, .int .u32 x.err, .bool x.st] (by rfl) (Rd.lit _ _ _ 1 _ (by simp [maxLen])) rfl (by simp [Value.oneCell']) (n1 + 1) rfl (by omega) hm1 ?_)
          intro A2 c2 r2 w2 hrow2 hkp2 hfr2 _
          have hk2 : Kp w1 w2 (fun _ => False) := (hkw1.alloc (.cells #[.int .u32 x.id, .int .u32 x.out, .int .u32 x.err, .bool x.st] 50)).trans hkp2 (fun j hj => .inr (hnew j hj))
          have hnew2 : New w1 r2 := hnew.fr (hkw1.alloc (.cells #[.int .u32 x.id, .int .u32 x.out, .int .u32 x.err, .bool x.st] 50)).size hfr2
          have e2 : hvCells (replF (l.take k) last) ++ [.int .u32 x.id, .int .u32 x.out, .int .u32 x.err, .bool x.st] = hvCells (replF (l.take (k + 1)) last) := by rw [e1.out, hvCells_append]; simp [hvCells, Hv.cells]
          have e3 : V ((replF (l.take (k + 1)) last).length = n1 + 1) := ⟨by rw [e1.out, List.length_append, hn1'.out]; rfl⟩
          rw [e2] at hrow2
          clear e2 hrow hkp2 hfr2 x0 x1 x2 x3
          go_wp2
          go_roundw
          case rel => exact ⟨k + 1, A2, n1 + 1, c2, r2, by omega, by go_num, rfl, e3, by omega, hrow2, hnew2, hk2⟩
          case measure => simp [intOf]; omega
        · have e1 : V (replF (l.take (k + 1)) last = replF (l.take k) last) := ⟨by rw [hts.out, if_neg hgt]; simp⟩
          have ht : decide (l[k].id ≤ (last : Int)) = false := by simpa using hgt
          clear hts
          go_wp2
          go_roundw
          case rel => exact ⟨k + 1, A1, n1, c1, r1, by omega, by go_num, rfl, by rw [e1.out]; exact hn1', by omega, by rw [e1.out]; exact hrow, hnew, hkw1⟩
          case measure => simp [intOf]; omega
      · have hend : replF (l.take k) last = replayL next l last := by rw [eL.out, List.take_of_length_le (by omega)]
        rw [hend] at hn1' hrow
        clear hend
        go_wp2
        go_ret
        exact ⟨A1, n1, c1, r1, rfl, hn1'.out, hrow, hnew.mono hkp.size, hkp.quiet hkw1⟩
  · have eL : V (replayL next l last = []) := ⟨by unfold replayL; rw [if_neg hf]⟩
    have ht : (fits next l last != (0 : Int)) = true := by simpa using hf
    clear hf
    go_wp2
    go_ret
    rw [eL.out]
    exact ⟨none, 0, 0, none, rfl, rfl, Row.nil _ _ _, New.none _, hkp⟩


def missF (l : List Hv) (k : Nat) : List Int := (spanL 1 (k + 1)).filter (fun x => !hasB l x)
theorem missF_succ (l : List Hv) (k : Nat) : missF l (k + 1) = missF l k ++ (if hasB l ((k : Int) + 1) then [] else [((k : Int) + 1)]) := by
  unfold missF spanL
  rw [show k + 1 + 1 - 1 = (k + 1 - 1) + 1 by omega, List.range_succ, List.map_append, List.filter_append]
  congr 1
  simp only [List.map_cons, List.map_nil, Nat.add_sub_cancel, List.filter_cons, List.filter_nil]
  rw [show ((1 : Nat) : Int) + (k : Int) = (k : Int) + 1 by omega]
  cases hasB l ((k : Int) + 1) <;> simp
theorem missF_prefix (l : List Hv) (k last : Nat) (h : k ≤ last) : missF l k <+: missF l last := by
  induction last with
  | zero => obtain rfl : k = 0 := (by omega); exact List.prefix_refl _
  | succ m ih =>
    by_cases hk : k = m + 1
    · subst hk; exact List.prefix_refl _
    · rw [missF_succ]
      exact (ih (by omega)).trans (List.prefix_append _ _)
theorem past_eq {next : Nat} {l : List Hv} {last : Nat} (h : fits next l last = 0) : pastL next l last = missF l last := by unfold pastL; rw [if_pos h]; rfl

set_option maxRecDepth 100000 in
set_option maxHeartbeats 2000000 in
theorem rpast_any (w : World) (next : Nat) (hn1 : next < 4294967296) (A : Option Addr) (n c : Nat) (l : List Hv) (hl : l.length = n) (hrd : Rd w A n c (hvCells l)) (hok : ∀ h ∈ l, h.ok) (last : Nat) (hl1 : last < 4294967296) (most : Nat) (hmost : most ≤ 1000) :
    Calls Try.prog 20 #[.agg #[.int .u32 next, .slice A n c], .int .u32 last, .int .i64 most] w (NewU w ((pastL next l last).take most)) := by
  obtain ⟨i0, hi, hz0, hz1, hz2⟩ := info_parts i_u32
  have hn : n ≤ c ∧ c ≤ 9223372036854775807 := ⟨hrd.1, by have := hrd.2.1; simpa [maxLen] using this⟩
  have hk := (Kp.refl w (fun _ => False)).alloc (.cells #[.int .u32 next, .slice A n c] 44)
  have hb := Blk.new w #[.int .u32 next, .slice A n c] 44
  have q0 := hb.cell' 0 rfl
  have q1 := hb.cell' 1 rfl
  have hrd1 := hrd.kp hk (fun _ _ _ h => h)
  have hm := V.mk (rfits_any _ next (by omega) A n c l hl hrd1 hok last hl1)
  go_enter Try.func20, Try.ntmps20
  go_wp2_with fail
  refine hm.out.mono ?_
  generalize w.alloc (.cells #[.int .u32 next, .slice A n c] 44) = wa at *
  rintro e w1 ⟨rfl, hk1⟩
  have hkp := hk.quiet hk1
  have hb1 := Blk.kp hb hk1 (fun h => h)
  have hrd2 := hrd1.kp hk1 (fun _ _ _ h => h)
  clear q0 q1 hm
  by_cases hf : fits next l last = 0
  · have hlt := (fits_zero hf).2.1
    have eL := V.mk (past_eq hf)
    rw [hf]
    clear hf
    go_wp2
    go_loopw [7, 8] (fun o i wr => ∃ (k : Nat) (A1 : Option Addr) (n1 c1 : Nat) (r1 : Option Nat), k ≤ last ∧ i = .int .u32 ((k : Int) + 1) ∧ o = .slice A1 n1 c1 ∧ V ((missF l k).length = n1) ∧ n1 ≤ most ∧
      Row wr 24 1 A1 n1 c1 (U32 (missF l k)) r1 ∧ New w1 r1 ∧ Kp w1 wr (fun _ => False)) (fun _ i _ => last + 1 - (intOf i).toNat)
    case atStart => exact ⟨0, none, 0, 0, none, Nat.zero_le _, rfl, rfl, ⟨rfl⟩, Nat.zero_le _, Row.nil _ _ _, New.none _, Kp.refl _ _⟩
    case round =>
      obtain ⟨k, A1, n1, c1, r1, hk', rfl, rfl, hn1', hnm, hrow, hnew, hkw1⟩ := hrel
      have hbr := Blk.kp hb1 hkw1 (fun h => h)
      have q0 := hbr.cell' 0 rfl
      have q1 := hbr.cell' 1 rfl
      have hne0 : ((k : Int) + 1 != 0) = true := by simp; omega
      by_cases hle : k < last
      · have hle' : decide ((k : Int) + 1 ≤ (last : Int)) = true := by simp; omega
        by_cases hroom : n1 < most
        · have hro' : decide (n1 < most) = true := by simpa using hroom
          have hc := V.mk (rhas_any wr next A n c l hl (hrd2.kp hkw1 (fun _ _ _ h => h)) ((k : Int) + 1))
          have hts := V.mk (missF_succ l k)
          generalize hasB l ((k : Int) + 1) = hb' at hc hts
          go_wp2_with fail
          refine hc.out.mono ?_
          rintro e w2 ⟨rfl, hk2⟩
          have hkw2 := hkw1.quiet hk2
          have hrow2 := hrow.kp hk2 (fun _ _ h => h)
          clear hc hrow
          cases hb' with
          | true =>
            have e1 : V (missF l (k + 1) = missF l k) := ⟨by rw [hts.out]; simp⟩
            clear hts
            go_wp2
            go_roundw
            case rel => exact ⟨k + 1, A1, n1, c1, r1, by omega, by go_num, rfl, by rw [e1.out]; exact hn1', hnm, by rw [e1.out]; exact hrow2, hnew, hkw2⟩
            case measure => simp [intOf]; omega
          | false =>
            have e1 : V (missF l (k + 1) = missF l k ++ [(k : Int) + 1]) := ⟨by rw [hts.out]; simp⟩
            have hm1 : n1 + 1 ≤ maxLen := by simp only [maxLen]; omega
            clear hts
            go_wp2_with (at_builtin; refine wpList_app (by rfl) (.tmp 32) (.tmp 34) 46 rfl 24 i0 (.int .u32 0) 1 4 u_u32s hi hz0 hz1 hz2 rfl (by decide) A1 n1 c1 _ r1 (by rfl) (hrow2.alloc _) _ 1 1 [.int .u32 ((k : Int) + 1)] (by rfl) (Rd.lit _ _ _ 1 _ (by simp [maxLen])) rfl (by simp [Value.oneCell']) (n1 + 1) rfl (by omega) hm1 ?_)
            intro A2 c2 r2 w3 hrow3 hkp3 hfr3 _
            have hk3 : Kp w1 w3 (fun _ => False) := (hkw2.alloc (.cells #[.int .u32 ((k : Int) + 1)] 24)).trans hkp3 (fun j hj => .inr (hnew j hj))
            have hnew3 : New w1 r2 := hnew.fr (hkw2.alloc (.cells #[.int .u32 ((k : Int) + 1)] 24)).size hfr3
            have e2 : U32 (missF l k) ++ [.int .u32 ((k : Int) + 1)] = U32 (missF l (k + 1)) := by rw [e1.out, U32_append]; rfl
            have e3 : V ((missF l (k + 1)).length = n1 + 1) := ⟨by rw [e1.out, List.length_append, hn1'.out]; rfl⟩
            rw [e2] at hrow3
            clear e2 hrow2 hkp3 hfr3
            go_wp2
            go_roundw
            case rel => exact ⟨k + 1, A2, n1 + 1, c2, r2, by omega, by go_num, rfl, e3, by omega, hrow3, hnew3, hk3⟩
            case measure => simp [intOf]; omega
        · have hro' : decide (n1 < most) = false := by simpa using hroom
          have hend : V ((pastL next l last).take most = missF l k) := ⟨by
            obtain ⟨t, ht⟩ := missF_prefix l k last hk'
            rw [eL.out, ← ht, show most = (missF l k).length by rw [hn1'.out]; omega, List.take_left]⟩
          go_wp2
          go_ret
          rw [hend.out]
          exact ⟨A1, n1, c1, r1, rfl, hn1'.out, hrow, hnew.mono hkp.size, hkp.quiet hkw1⟩
      · have hle' : decide ((k : Int) + 1 ≤ (last : Int)) = false := by simp; omega
        have hend : V ((pastL next l last).take most = missF l k) := ⟨by
          obtain rfl : k = last := by omega
          rw [eL.out, List.take_of_length_le (by rw [hn1'.out]; omega)]⟩
        go_wp2
        go_ret
        rw [hend.out]
        exact ⟨A1, n1, c1, r1, rfl, hn1'.out, hrow, hnew.mono hkp.size, hkp.quiet hkw1⟩
  · have eL : V (pastL next l last = []) := ⟨by unfold pastL; rw [if_neg hf]⟩
    have ht : (fits next l last != (0 : Int)) = true := by simpa using hf
    clear hf
    go_wp2
    go_ret
    rw [eL.out, List.take_nil]
    exact ⟨none, 0, 0, none, rfl, rfl, Row.nil _ _ _, New.none _, hkp⟩

end Go.Proofs.Ytboambncimdfjaa
