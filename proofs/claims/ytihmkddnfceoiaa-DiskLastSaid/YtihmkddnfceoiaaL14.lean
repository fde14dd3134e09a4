/- longwirelaw14.tells: the chapter's row answers true. No condition. -/
import Derived.Test.YtihmkddnfceoiaaDskPut
import Derived.Test.YtihmkddnfceoiaaDskMore
set_option linter.unusedVariables false
set_option linter.unusedSimpArgs false
namespace Go.Proofs.Ytihmkddnfceoiaa
open Go.RowKit

theorem away_new {w : World} {g : Nat} {r : Option Nat} {x : List Int} (hg : g < w.heap.size) (hr : ∀ k, r = some k → k < w.heap.size) :
    ∀ ad, some (⟨w.heap.size, 0, none⟩ : Addr) = some ad → x ≠ [] → ad.block ≠ g ∧ r ≠ some ad.block := by
  intro ad ha _
  simp only [Option.some.injEq] at ha
  subst ha
  exact ⟨by simp only; omega, fun e => by have := hr _ e; simp only at this; omega⟩

set_option maxHeartbeats 1000000 in
theorem tells_any (w : World) : Calls Try.prog 14 #[] w fun e w' => e = .returned (.bool true) ∧ Kp w w' (fun _ => False) := by
  have hcv := cv_bytes
  go_enter Try.func14, Try.ntmps14
  go_wp2_with fail
  refine (new_ok _ 9 (by omega) (by omega)).mono ?_
  rintro e w1 ⟨rfl, hd1, hk1, hs1⟩
  go_wp2_with fail
  refine (put_any _ _ _ _ (hd1.alloc _) (Dsk.new_ok (by omega) (by omega)) 0 _ 6 6 [97, 98, 99, 100, 101, 102] rfl (Rd.lit _ _ _ 6 _ (by simp [maxLen])) (away_new hd1.lt (fun k h => by simp at h))).mono ?_
  rintro e w2 ⟨rfl, r2, hd2, hk2, hf2⟩
  have ok2 := Dsk.put_ok (Dsk.new_ok (cap := 9) (by omega) (by omega)) 0 [97, 98, 99, 100, 101, 102]
  generalize hD2 : Dsk.put _ 0 [97, 98, 99, 100, 101, 102] = D2 at hd2 ok2 ⊢
  have kp2 : Kp w w2 (fun _ => False) := (hk1.alloc _).step hk2 (Nat.le_refl _) (New.none _)
  have nw2 : New w r2 := (New.none w).fr (hk1.alloc _).size hf2
  go_wp2_with fail
  refine (plan_any _ _ _ _ hd2 0 2).mono ?_
  rintro e w3 ⟨rfl, r3, hd3, hk3, hf3⟩
  have ok3 := Dsk.plan_ok ok2 0 2
  have kp3 : Kp w w3 (fun _ => False) := kp2.step hk3 (Nat.le_refl _) nw2
  have nw3 : New w r3 := nw2.fr kp2.size hf3
  generalize hD3 : Dsk.plan D2.2 0 2 = D3 at hd3 ok3 ⊢
  go_wp2_with fail
  refine (put_any _ _ _ _ (hd3.alloc _) ok3 1 _ 3 3 [120, 121, 122] rfl (Rd.lit _ _ _ 3 _ (by simp [maxLen])) (away_new hd3.lt (fun k h => hd3.rlt h))).mono ?_
  rintro e w4 ⟨rfl, r4, hd4, hk4, hf4⟩
  have ok4 := Dsk.put_ok ok3 1 [120, 121, 122]
  have kp4 : Kp w w4 (fun _ => False) := (kp3.alloc _).step hk4 (Nat.le_refl _) nw3
  have nw4 : New w r4 := nw3.fr (kp3.alloc _).size hf4
  generalize hD4 : Dsk.put D3.2 1 [120, 121, 122] = D4 at hd4 ok4 ⊢
  have e2 : D2 = (0, ⟨9, [97, 98, 99, 100, 101, 102], 1, false, false, -1, 0⟩) := by rw [← hD2]; rfl
  clear hD2
  subst e2
  have e3 : D3 = (0, ⟨9, [97, 98, 99, 100, 101, 102], 1, false, true, 0, 2⟩) := by rw [← hD3]; rfl
  clear hD3
  subst e3
  have e4 : D4 = (10, ⟨9, [97, 120, 121, 100, 101, 102], 1, true, false, 0, 0⟩) := by rw [← hD4]; rfl
  clear hD4
  subst e4
  go_wp2_with fail
  refine (read_any _ _ _ _ hd4 ok4 0 9 (by omega)).mono ?_
  rintro e w5 ⟨A5, n5, c5, r5, rfl, hrow5, nw5, hk5⟩
  have hd5 := hd4.kp hk5 (fun h => h) (fun _ _ h => h)
  have kp5 : Kp w w5 (fun _ => False) := kp4.quiet hk5
  have hl5 := hrow5.len
  have ex5 : Dsk.read ⟨9, [97, 120, 121, 100, 101, 102], 1, true, false, 0, 0⟩ 0 9 = [97, 120, 121, 100, 101, 102] := rfl
  rw [ex5] at hrow5 hl5
  have hcv5 := run_string_rd u_bytes u_byte u_string hrow5.rd (by simpa using hl5)
  clear ex5 hl5
  have es : (strOfNums [97, 120, 121, 100, 101, 102]).toList = [97, 120, 121, 100, 101, 102] := by decide +kernel
  go_wp2_with fail
  refine (stopped_any _ _ _ _ hd5).mono ?_
  rintro e w6 ⟨rfl, rfl⟩
  go_wp2_with fail
  go_ret
  exact ⟨rfl, kp5⟩

end Go.Proofs.Ytihmkddnfceoiaa
