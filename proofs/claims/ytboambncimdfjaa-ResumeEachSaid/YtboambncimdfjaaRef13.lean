/- The document's own answers of layer 13: May, has, Fits, Again, Replay, Past. Condition: what is told reads as a list. -/
import Derived.Test.YtboambncimdfjaaRef13M
import Derived.Test.YtboambncimdfjaaFstH13
set_option linter.unusedVariables false
set_option linter.unusedSimpArgs false
namespace Go.Proofs.Ytboambncimdfjaa
open Go.RowKit

set_option maxHeartbeats 2000000 in
theorem rhas_any (w : World) (next : Int) (A : Option Addr) (n c : Nat) (l : List Hv) (hl : l.length = n) (hrd : Rd w A n c (hvCells l)) (x : Int) :
    Calls Try.prog 46 #[.agg #[.int .u32 next, .slice A n c], .int .u32 x] w fun e w' => e = .returned (.bool (hasB l x)) ∧ Kp w w' (fun _ => False) := by
  have hn : n ≤ c ∧ c ≤ 9223372036854775807 := ⟨hrd.1, by have := hrd.2.1; simpa [maxLen] using this⟩
  have hk := (Kp.refl w (fun _ => False)).alloc (.cells #[.int .u32 next, .slice A n c] 44)
  have hb := Blk.new w #[.int .u32 next, .slice A n c] 44
  have q1 := hb.cell' 1 rfl
  have hrd1 := hrd.kp hk (fun _ _ _ h => h)
  go_enter Try.func46, Try.ntmps46
  go_wp2
  generalize w.alloc (.cells #[.int .u32 next, .slice A n c] 44) = wa at *
  go_loop [5] (fun i => ∃ k : Nat, k ≤ n ∧ i = .int .i64 k ∧ V (hasB (l.take k) x = false)) (fun i => n - (intOf i).toNat)
  case atStart => exact ⟨0, Nat.zero_le _, rfl, ⟨rfl⟩⟩
  case round =>
    obtain ⟨k, hk', rfl, hno⟩ := hrel
    by_cases hgo : k < n
    · obtain ⟨ab, ao, rfl, hcs⟩ := hrd1.base (by omega) (by rw [hvCells_length]; omega)
      obtain ⟨x0, x1, x2, x3⟩ := hv_at hcs k (by omega)
      clear hcs
      have hs := V.mk (hasB_take_succ l x k (by omega))
      by_cases hx : l[k].id = x
      · have hx' : (l[k].id == x) = true := by simpa using hx
        have e1 : V (hasB l x = true) := ⟨by
          unfold hasB
          rw [List.any_eq_true]
          exact ⟨l[k], List.getElem_mem _, hx'⟩⟩
        clear hs hno hx
        go_wp2
        go_ret
        exact ⟨ret_bool e1.out.symm, hk⟩
      · have hx' : (l[k].id == x) = false := by simpa using hx
        have hn1 : V (hasB (l.take (k + 1)) x = false) := ⟨by rw [hs.out, hno.out, hx']; rfl⟩
        clear hs hno
        go_wp2
        go_round
        case rel => exact ⟨k + 1, by omega, by go_num, hn1⟩
        case measure => simp [intOf]; omega
    · have e1 : V (hasB l x = false) := ⟨by rw [← hno.out, List.take_of_length_le (by omega)]⟩
      go_wp2
      go_ret
      exact ⟨ret_bool e1.out.symm, hk⟩

set_option maxRecDepth 100000 in
set_option maxHeartbeats 4000000 in
theorem rmay_any (w : World) (next : Int) (hn0 : 0 ≤ next) (hn1 : next < 4294967296) (A : Option Addr) (n c : Nat) (l : List Hv) (hl : l.length = n) (hrd : Rd w A n c (hvCells l)) (hok : ∀ h ∈ l, h.ok) :
    Calls Try.prog 32 #[.agg #[.int .u32 next, .slice A n c]] w fun e w' => e = .returned (.bool (may next l)) ∧ Kp w w' (fun _ => False) := by
  have hn : n ≤ c ∧ c ≤ 9223372036854775807 := ⟨hrd.1, by have := hrd.2.1; simpa [maxLen] using this⟩
  have hk := (Kp.refl w (fun _ => False)).alloc (.cells #[.int .u32 next, .slice A n c] 44)
  have hb := Blk.new w #[.int .u32 next, .slice A n c] 44
  have hrd1 := hrd.kp hk (fun _ _ _ h => h)
  go_enter Try.func32, Try.ntmps32
  go_wp2
  generalize w.alloc (.cells #[.int .u32 next, .slice A n c] 44) = wa at *
  go_loopw [3] (fun i wr => ∃ k : Nat, k ≤ n ∧ i = .int .i64 k ∧ 0 ≤ leastAt l k ∧ leastAt l k < 4294967296 ∧ V (mayF next 1 (l.take k) = true) ∧ Kp w wr (fun _ => False) ∧ Kp wa wr (fun _ => False)) (fun i _ => n - (intOf i).toNat)
  case atStart => exact ⟨0, Nat.zero_le _, rfl, by simp [leastAt_zero], by simp [leastAt_zero], ⟨rfl⟩, hk, Kp.refl _ _⟩
  case round =>
    obtain ⟨k, hk', rfl, hle0, hle1, hso, hkp, hkpa⟩ := hrel
    have hbr := Blk.kp hb hkpa (fun h => h)
    have q0 := hbr.cell' 0 rfl
    have q1 := hbr.cell' 1 rfl
    by_cases hgo : k < n
    · obtain ⟨ab, ao, rfl, hcs⟩ := (hrd1.kp hkpa (fun _ _ _ h => h)).base (by omega) (by rw [hvCells_length]; omega)
      obtain ⟨x0, x1, x2, x3⟩ := hv_at hcs k (by omega)
      have hh := hok l[k] (List.getElem_mem _)
      have hi0 := hh.i0
      have hi1 := hh.i1
      have hst := V.mk (mayF_step next l k (by omega))
      have hts := V.mk (mayF_take_succ next l k (by omega))
      have hls := leastAt_succ l k (by omega)
      clear x1 x2 x3
      have hkd := fun nq => hkp.drewN nq
      have hkad := fun nq => hkpa.drewN nq
      have hkdV := V.mk hkd
      have hkadV := V.mk hkad
      clear hkd hkad
      by_cases hlt : l[k].id < 1
      · have hle : ¬ leastAt l k ≤ l[k].id := by
          by_cases hk0 : k = 0
          · subst hk0; rw [leastAt_zero]; omega
          · have := leastAt_pos l k (by omega) (by omega)
            have := (hok _ (List.getElem_mem (show k - 1 < l.length by omega))).i0
            omega
        have e1 : V (may next l = false) := ⟨by unfold may; rw [hst.out, show decide (leastAt l k ≤ l[k].id) = false by simpa using hle]; simp⟩
        have ht : decide (l[k].id < 1) = true := by simpa using hlt
        clear hst hts hls hcs hle
        go_wp2
        go_quiet (fail)
        go_wp2
        go_ret
        exact ⟨ret_bool e1.out.symm, hkdV.out _⟩
      · have ht : decide (l[k].id < 1) = false := by simpa using hlt
        by_cases hge : next ≤ l[k].id
        · have e1 : V (may next l = false) := ⟨by unfold may; rw [hst.out, show decide (l[k].id < next) = false by simpa using hge]; simp⟩
          have ht2 : decide (l[k].id ≥ next) = true := by simpa using hge
          clear hst hts hls hcs
          go_wp2
          go_quiet (fail)
          go_wp2
          go_ret
          exact ⟨ret_bool e1.out.symm, hkdV.out _⟩
        · have ht2 : decide (l[k].id ≥ next) = false := by simpa using hge
          by_cases hk0 : k = 0
          · subst hk0
            simp only [Nat.zero_mul, Nat.add_zero] at x0
            have e1 : V (mayF next 1 (l.take (0 + 1)) = true) := ⟨by rw [hts.out, hso.out, show decide (l[0].id < next) = true by simpa using hge, leastAt_zero]; simp; omega⟩
            have e2 := V.mk hls
            clear hst hts hls hcs
            go_wp2
            go_quiet (fail)
            go_wp2
            go_roundw
            case rel => exact ⟨1, by omega, rfl, by rw [e2.out]; omega, by rw [e2.out]; omega, e1, hkdV.out _, hkadV.out _⟩
            case measure => simp [intOf]; omega
          · have hpos := leastAt_pos l k (by omega) (by omega)
            obtain ⟨y0, y1, y2, y3⟩ := hv_at hcs (k - 1) (by omega)
            have hkc : (((k : Int) - 1)).toNat = k - 1 := by omega
            have hk1 : (0 : Int) ≤ (k : Int) - 1 := by omega
            have ht3 : decide (k > 0) = true := by simp; omega
            have ht4 : decide (0 < k) = true := by simp; omega
            by_cases hle : l[k].id ≤ l[k - 1].id
            · have e1 : V (may next l = false) := ⟨by unfold may; rw [hst.out, show decide (leastAt l k ≤ l[k].id) = false by simp; omega]; simp⟩
              have ht5 : decide (l[k].id ≤ l[k - 1].id) = true := by simpa using hle
              clear hst hts hls hcs hpos y1 y2 y3
              go_wp2
              go_quiet (fail)
              go_wp2
              go_ret
              exact ⟨ret_bool e1.out.symm, hkdV.out _⟩
            · have e1 : V (mayF next 1 (l.take (k + 1)) = true) := ⟨by rw [hts.out, hso.out, show decide (l[k].id < next) = true by simpa using hge, show decide (leastAt l k ≤ l[k].id) = true by simp; omega]; rfl⟩
              have ht5 : decide (l[k].id ≤ l[k - 1].id) = false := by simpa using hle
              have e2 := V.mk hls
              clear hst hts hls hcs hpos y1 y2 y3
              go_wp2
              go_quiet (fail)
              go_wp2
              go_roundw
              case rel => exact ⟨k + 1, by omega, by go_num, by rw [e2.out]; omega, by rw [e2.out]; omega, e1, hkdV.out _, hkadV.out _⟩
              case measure => simp [intOf]; omega
    · have e1 : V (mayF next 1 l = true) := ⟨by rw [← hso.out, List.take_of_length_le (by omega)]⟩
      by_cases hp : 1 ≤ next
      · have hp' : decide (next ≥ 1) = true := by simpa using hp
        have hp2 : decide (0 < next) = true := by simp; omega
        go_wp2
        go_ret
        refine ⟨ret_bool ?_, hkp⟩
        unfold may
        rw [e1.out, hp2, hl]
        simp
        omega
      · go_wp2
        go_ret
        refine ⟨ret_bool ?_, hkp⟩
        unfold may
        rw [show decide (0 < next) = false by simp; omega]
        simp

end Go.Proofs.Ytboambncimdfjaa
