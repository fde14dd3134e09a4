/- longwirelaw14.DiskKnown answers true (a closed statement). No condition. -/
import Derived.Test.YtihmkddnfceoiaaDskNil
import Derived.Test.YtihmkddnfceoiaaDskCopy
import Derived.Test.YtihmkddnfceoiaaL14
set_option linter.unusedVariables false
set_option linter.unusedSimpArgs false
namespace Go.Proofs.Ytihmkddnfceoiaa
open Go.RowKit

/-- The first disk is dropped; a new one comes in. -/
theorem Two.copy {w W W1 : World} {g1 g2 g' : Nat} {r1 r2 r' : Option Nat} {d1 d2 d' : Dsk} (h : Two w W g1 r1 d1 g2 r2 d2) (hd : IsDisk W1 g' r' d') (hk : Kp W W1 (fun _ => False)) (hg : W.heap.size ≤ g') (hn : New W r') (hok : d'.ok) : Two w W1 g2 r2 d2 g' r' d' := by
  have h1 := h.quiet hk
  have l2 := h.h2.lt
  refine ⟨h1.kp, h1.h2, hd, h.ok2, hok, h.g2, Nat.le_trans h.kp.size hg, by omega, h.n2, hn.mono h.kp.size, fun k a b => ?_⟩
  have := hn k b
  have := h.h2.rlt a
  omega

set_option maxRecDepth 100000 in
set_option maxHeartbeats 2000000 in
theorem known_any (w : World) : Calls Try.prog 5 #[] w fun e w' => e = .returned (.bool true) ∧ Kp w w' (fun _ => False) := by
  have hcv := cv_bytes
  go_enter Try.func5, Try.ntmps5
  go_wp2_with fail
  refine (put_nil _ _ _ _ _).mono ?_
  rintro e w' ⟨rfl, rfl⟩
  have hz := (Blk.new w #[.bool false, .int .i64 0, .slice none 0 0, .int .i64 0, .bool false, .bool false, .int .i64 0, .int .i64 0] 50).cell' 0 rfl
  have kz : Kp w (w.alloc (.cells #[.bool false, .int .i64 0, .slice none 0 0, .int .i64 0, .bool false, .bool false, .int .i64 0, .int .i64 0] 50)) (fun _ => False) := (Kp.refl _ _).alloc _
  go_wp2_with fail
  refine (plan_zero _ _ hz _ _).mono ?_
  rintro e w' ⟨rfl, rfl⟩
  go_wp2_with fail
  refine (revive_nil _).mono ?_
  rintro e w' ⟨rfl, rfl⟩
  go_wp2_with fail
  refine (stopped_zero _ _ hz).mono ?_
  rintro e w' ⟨rfl, rfl⟩
  go_wp2_with fail
  refine (end_nil _).mono ?_
  rintro e w' ⟨rfl, rfl⟩
  go_wp2_with fail
  refine (puts_zero _ _ hz).mono ?_
  rintro e w' ⟨rfl, rfl⟩
  go_wp2_with fail
  refine (read_nil _ _ _).mono ?_
  rintro e w' ⟨rfl, rfl⟩
  go_wp2_with fail
  refine (copy_zero _ _ hz).mono ?_
  rintro e w' ⟨rfl, rfl⟩
  generalize w.alloc (.cells #[.bool false, .int .i64 0, .slice none 0 0, .int .i64 0, .bool false, .bool false, .int .i64 0, .int .i64 0] 50) = wz at hz kz ⊢
  clear hz
  go_wp2_with fail
  refine (new_no _ (-1) (by omega)).mono ?_
  rintro e w' ⟨rfl, rfl⟩
  go_wp2_with fail
  refine (new_no _ 1048577 (by omega)).mono ?_
  rintro e w' ⟨rfl, rfl⟩
  go_wp2_with fail
  refine (new_ok _ 0 (by omega) (by omega)).mono ?_
  rintro e w1 ⟨rfl, hd1, hk1, hs1⟩
  go_wp2_with fail
  refine (new_ok _ 4 (by omega) (by omega)).mono ?_
  rintro e w2 ⟨rfl, hd2, hk2, hs2⟩
  have T : Two w w2 wz.heap.size none ⟨0, [], 0, false, false, 0, 0⟩ w1.heap.size none ⟨4, [], 0, false, false, 0, 0⟩ :=
    ⟨(kz.quiet hk1).quiet hk2, hd1.kp hk2 (fun h => h) (fun _ _ h => h), hd2, Dsk.new_ok (by omega) (by omega), Dsk.new_ok (by omega) (by omega), kz.size, Nat.le_trans kz.size hk1.size, by omega, New.none _, New.none _, by simp⟩
  clear hd1 hd2 hk1 hk2 kz
  generalize hgc : wz.heap.size = gc at T ⊢
  generalize hgd : w1.heap.size = gd at T ⊢
  clear hgc hgd hs1 hs2
  have hp := put_any _ _ _ _ T.h1 T.ok1 0 none 0 0 [] rfl (Rd.nil _) (fun _ h => by simp at h)
  have hok := Dsk.put_ok T.ok1 0 []
  rw [show Dsk.put (⟨0, [], 0, false, false, 0, 0⟩ : Dsk) 0 [] = (0, (⟨0, [], 1, false, false, -1, 0⟩ : Dsk)) from rfl] at hp hok
  have hpV := V.mk hp
  clear hp
  go_wp2_with fail
  refine hpV.out.mono ?_
  rintro e w3 ⟨rfl, r', hd, hk, hf⟩
  have T := T.do1 hd hk hf hok
  clear hd hk hf hok hpV
  have T' := T.alloc (.cells #[.int .u8 1] 5 (0, 0))
  have hp := put_any _ _ _ _ T'.h1 T'.ok1 0 _ 1 1 [1] rfl (Rd.lit _ 5 (0, 0) 1 [.int .u8 1] (by simp [maxLen])) (away_new T.h1.lt (fun k h => T.h1.rlt h))
  have hok := Dsk.put_ok T'.ok1 0 [1]
  rw [show Dsk.put (⟨0, [], 1, false, false, -1, 0⟩ : Dsk) 0 [1] = (7, (⟨0, [], 1, false, false, -1, 0⟩ : Dsk)) from rfl] at hp hok
  have hpV := V.mk hp
  clear hp
  go_wp2_with fail
  refine hpV.out.mono ?_
  rintro e w4 ⟨rfl, r', hd, hk, hf⟩
  have T := T'.do1 hd hk hf hok
  clear hd hk hf hok hpV T'
  go_wp2_with fail
  refine (puts_any _ _ _ _ T.h1).mono ?_
  rintro e w' ⟨rfl, rfl⟩
  have hp := plan_any _ _ _ _ T.h2 1 99
  have hok := Dsk.plan_ok T.ok2 1 99
  rw [show Dsk.plan (⟨4, [], 0, false, false, 0, 0⟩ : Dsk) 1 99 = (0, (⟨4, [], 0, false, true, 1, 99⟩ : Dsk)) from rfl] at hp hok
  have hpV := V.mk hp
  clear hp
  go_wp2_with fail
  refine hpV.out.mono ?_
  rintro e w5 ⟨rfl, r', hd, hk, hf⟩
  have T := T.do2 hd hk hf hok
  clear hd hk hf hok hpV
  go_wp2_with fail
  refine (copy_any _ _ _ _ T.h2 T.ok2).mono ?_
  rintro e w6 ⟨gh, rh, rfl, hd, hg, hn, hk⟩
  have T := T.copy hd hk hg hn T.ok2
  clear hd hk hg hn
  have T' := T.alloc (.cells #[.int .u8 97, .int .u8 98] 5 (2, 3))
  have hp := put_any _ _ _ _ T'.h1 T'.ok1 0 _ 2 2 [97, 98] rfl (Rd.lit _ 5 (2, 3) 2 [.int .u8 97, .int .u8 98] (by simp [maxLen])) (away_new T.h1.lt (fun k h => T.h1.rlt h))
  have hok := Dsk.put_ok T'.ok1 0 [97, 98]
  rw [show Dsk.put (⟨4, [], 0, false, true, 1, 99⟩ : Dsk) 0 [97, 98] = (0, (⟨4, [97, 98], 1, false, true, 0, 99⟩ : Dsk)) from rfl] at hp hok
  have hpV := V.mk hp
  clear hp
  go_wp2_with fail
  refine hpV.out.mono ?_
  rintro e w7 ⟨rfl, r', hd, hk, hf⟩
  have T := T'.do1 hd hk hf hok
  clear hd hk hf hok hpV T'
  have T' := T.alloc (.cells #[.int .u8 99, .int .u8 100] 5 (2, 3))
  have hp := put_any _ _ _ _ T'.h1 T'.ok1 2 _ 2 2 [99, 100] rfl (Rd.lit _ 5 (2, 3) 2 [.int .u8 99, .int .u8 100] (by simp [maxLen])) (away_new T.h1.lt (fun k h => T.h1.rlt h))
  have hok := Dsk.put_ok T'.ok1 2 [99, 100]
  rw [show Dsk.put (⟨4, [97, 98], 1, false, true, 0, 99⟩ : Dsk) 2 [99, 100] = (10, (⟨4, [97, 98, 99, 100], 1, true, false, 0, 0⟩ : Dsk)) from rfl] at hp hok
  have hpV := V.mk hp
  clear hp
  go_wp2_with fail
  refine hpV.out.mono ?_
  rintro e w8 ⟨rfl, r', hd, hk, hf⟩
  have T := T'.do1 hd hk hf hok
  clear hd hk hf hok hpV T'
  have T' := T.alloc (.cells #[.int .u8 120] 5 (1, 2))
  have hp := put_any _ _ _ _ T'.h1 T'.ok1 0 _ 1 1 [120] rfl (Rd.lit _ 5 (1, 2) 1 [.int .u8 120] (by simp [maxLen])) (away_new T.h1.lt (fun k h => T.h1.rlt h))
  have hok := Dsk.put_ok T'.ok1 0 [120]
  rw [show Dsk.put (⟨4, [97, 98, 99, 100], 1, true, false, 0, 0⟩ : Dsk) 0 [120] = (10, (⟨4, [97, 98, 99, 100], 1, true, false, 0, 0⟩ : Dsk)) from rfl] at hp hok
  have hpV := V.mk hp
  clear hp
  go_wp2_with fail
  refine hpV.out.mono ?_
  rintro e w9 ⟨rfl, r', hd, hk, hf⟩
  have T := T'.do1 hd hk hf hok
  clear hd hk hf hok hpV T'
  have T' := T.alloc (.cells #[.int .u8 97, .int .u8 98] 5 (2, 3))
  have hp := put_any _ _ _ _ T'.h2 T'.ok2 0 _ 2 2 [97, 98] rfl (Rd.lit _ 5 (2, 3) 2 [.int .u8 97, .int .u8 98] (by simp [maxLen])) (away_new T.h2.lt (fun k h => T.h2.rlt h))
  have hok := Dsk.put_ok T'.ok2 0 [97, 98]
  rw [show Dsk.put (⟨4, [], 0, false, true, 1, 99⟩ : Dsk) 0 [97, 98] = (0, (⟨4, [97, 98], 1, false, true, 0, 99⟩ : Dsk)) from rfl] at hp hok
  have hpV := V.mk hp
  clear hp
  go_wp2_with fail
  refine hpV.out.mono ?_
  rintro e w10 ⟨rfl, r', hd, hk, hf⟩
  have T := T'.do2 hd hk hf hok
  clear hd hk hf hok hpV T'
  have hp := plan_any _ _ _ _ T.h2 5 0
  have hok := Dsk.plan_ok T.ok2 5 0
  rw [show Dsk.plan (⟨4, [97, 98], 1, false, true, 0, 99⟩ : Dsk) 5 0 = (0, (⟨4, [97, 98], 1, false, true, 5, 0⟩ : Dsk)) from rfl] at hp hok
  have hpV := V.mk hp
  clear hp
  go_wp2_with fail
  refine hpV.out.mono ?_
  rintro e w11 ⟨rfl, r', hd, hk, hf⟩
  have T := T.do2 hd hk hf hok
  clear hd hk hf hok hpV
  have T' := T.alloc (.cells #[.int .u8 120, .int .u8 121] 5 (2, 3))
  have hp := put_any _ _ _ _ T'.h2 T'.ok2 1 _ 2 2 [120, 121] rfl (Rd.lit _ 5 (2, 3) 2 [.int .u8 120, .int .u8 121] (by simp [maxLen])) (away_new T.h2.lt (fun k h => T.h2.rlt h))
  have hok := Dsk.put_ok T'.ok2 1 [120, 121]
  rw [show Dsk.put (⟨4, [97, 98], 1, false, true, 5, 0⟩ : Dsk) 1 [120, 121] = (0, (⟨4, [97, 120, 121], 2, false, true, 4, 0⟩ : Dsk)) from rfl] at hp hok
  have hpV := V.mk hp
  clear hp
  go_wp2_with fail
  refine hpV.out.mono ?_
  rintro e w12 ⟨rfl, r', hd, hk, hf⟩
  have T := T'.do2 hd hk hf hok
  clear hd hk hf hok hpV T'
  have hp := read_any _ _ _ _ T.h1 T.ok1 0 9 (by omega)
  rw [show Dsk.read (⟨4, [97, 98, 99, 100], 1, true, false, 0, 0⟩ : Dsk) 0 9 = [97, 98, 99, 100] from rfl] at hp
  have hpV := V.mk hp
  clear hp
  go_wp2_with fail
  refine hpV.out.mono ?_
  rintro e w13 ⟨A, n, c, r', rfl, hrow, hn, hk⟩
  have T := T.quiet hk
  have hl := hrow.len
  rw [B8_length, Nat.mul_one] at hl
  have hcvw13 := run_string_rd u_bytes u_byte u_string hrow.rd hl
  have esw13 : (strOfNums [97, 98, 99, 100]).toList = [97, 98, 99, 100] := by decide +kernel
  clear hl hrow hn hk hpV
  go_wp2_with fail
  refine (puts_any _ _ _ _ T.h1).mono ?_
  rintro e w' ⟨rfl, rfl⟩
  go_wp2_with fail
  refine (stopped_any _ _ _ _ T.h1).mono ?_
  rintro e w' ⟨rfl, rfl⟩
  have hp := read_any _ _ _ _ T.h2 T.ok2 1 1 (by omega)
  rw [show Dsk.read (⟨4, [97, 120, 121], 2, false, true, 4, 0⟩ : Dsk) 1 1 = [120] from rfl] at hp
  have hpV := V.mk hp
  clear hp
  go_wp2_with fail
  refine hpV.out.mono ?_
  rintro e w14 ⟨A, n, c, r', rfl, hrow, hn, hk⟩
  have T := T.quiet hk
  have hl := hrow.len
  rw [B8_length, Nat.mul_one] at hl
  have hcvw14 := run_string_rd u_bytes u_byte u_string hrow.rd hl
  have esw14 : (strOfNums [120]).toList = [120] := by decide +kernel
  clear hl hrow hn hk hpV
  go_wp2_with fail
  refine (stopped_any _ _ _ _ T.h2).mono ?_
  rintro e w' ⟨rfl, rfl⟩
  have hp := plan_any _ _ _ _ T.h2 (-1) 0
  have hok := Dsk.plan_ok T.ok2 (-1) 0
  rw [show Dsk.plan (⟨4, [97, 120, 121], 2, false, true, 4, 0⟩ : Dsk) (-1) 0 = (1, (⟨4, [97, 120, 121], 2, false, true, 4, 0⟩ : Dsk)) from rfl] at hp hok
  have hpV := V.mk hp
  clear hp
  go_wp2_with fail
  refine hpV.out.mono ?_
  rintro e w15 ⟨rfl, r', hd, hk, hf⟩
  have T := T.do2 hd hk hf hok
  clear hd hk hf hok hpV
  have hp := plan_any _ _ _ _ T.h2 0 (-1)
  have hok := Dsk.plan_ok T.ok2 0 (-1)
  rw [show Dsk.plan (⟨4, [97, 120, 121], 2, false, true, 4, 0⟩ : Dsk) 0 (-1) = (1, (⟨4, [97, 120, 121], 2, false, true, 4, 0⟩ : Dsk)) from rfl] at hp hok
  have hpV := V.mk hp
  clear hp
  go_wp2_with fail
  refine hpV.out.mono ?_
  rintro e w16 ⟨rfl, r', hd, hk, hf⟩
  have T := T.do2 hd hk hf hok
  clear hd hk hf hok hpV
  have hp := read_any _ _ _ _ T.h2 T.ok2 4 1 (by omega)
  rw [show Dsk.read (⟨4, [97, 120, 121], 2, false, true, 4, 0⟩ : Dsk) 4 1 = [] from rfl] at hp
  have hpV := V.mk hp
  clear hp
  go_wp2_with fail
  refine hpV.out.mono ?_
  rintro e w17 ⟨A, n, c, r', rfl, hrow, hn, hk⟩
  have T := T.quiet hk
  have hl := hrow.len
  rw [B8_length, Nat.mul_one] at hl
  obtain rfl : n = 0 := hl.symm
  clear hl hrow hn hk hpV
  have hp := read_any _ _ _ _ T.h2 T.ok2 (-1) 1 (by omega)
  rw [show Dsk.read (⟨4, [97, 120, 121], 2, false, true, 4, 0⟩ : Dsk) (-1) 1 = [] from rfl] at hp
  have hpV := V.mk hp
  clear hp
  go_wp2_with fail
  refine hpV.out.mono ?_
  rintro e w18 ⟨A, n, c, r', rfl, hrow, hn, hk⟩
  have T := T.quiet hk
  have hl := hrow.len
  rw [B8_length, Nat.mul_one] at hl
  obtain rfl : n = 0 := hl.symm
  clear hl hrow hn hk hpV
  have hp := read_any _ _ _ _ T.h2 T.ok2 0 (-1) (by omega)
  rw [show Dsk.read (⟨4, [97, 120, 121], 2, false, true, 4, 0⟩ : Dsk) 0 (-1) = [] from rfl] at hp
  have hpV := V.mk hp
  clear hp
  go_wp2_with fail
  refine hpV.out.mono ?_
  rintro e w19 ⟨A, n, c, r', rfl, hrow, hn, hk⟩
  have T := T.quiet hk
  have hl := hrow.len
  rw [B8_length, Nat.mul_one] at hl
  obtain rfl : n = 0 := hl.symm
  clear hl hrow hn hk hpV
  go_wp2_with fail
  refine (tells_any _).mono ?_
  rintro e w' ⟨rfl, hk⟩
  go_wp2_with fail
  go_ret
  exact ⟨rfl, T.kp.quiet hk⟩

end Go.Proofs.Ytihmkddnfceoiaa
