/- log: a frame's check, and a frame. Condition: the payload is read, and has at most 65535 bytes. -/
import Derived.Test.YtkameiopahcacaaDoorCrc15
import Derived.Test.YtkameiopahcacaaDoorScr
set_option linter.unusedVariables false
set_option linter.unusedSimpArgs false
set_option maxRecDepth 100000
namespace Go.Proofs.YtkameiopahcacaaDoor
open Go.RowKit

def checkN (ahead number : Nat) (x : List Int) : Nat := crcN (be4 ahead ++ be4 number ++ be2 x.length ++ x)
theorem be2_isB {n : Int} (h0 : 0 ≤ n) (h1 : n < 65536) : IsB (be2 n) := by
  intro c hc
  simp only [be2, List.mem_cons, List.not_mem_nil, or_false] at hc
  rcases hc with rfl | rfl <;> omega
theorem be4_isB' {n : Int} (h0 : 0 ≤ n) (h1 : n < 4294967296) : IsB (be4 n) := by
  intro c hc
  simp only [be4, be2, List.cons_append, List.nil_append, List.mem_cons, List.not_mem_nil, or_false] at hc
  rcases hc with rfl | rfl | rfl | rfl <;> omega
theorem isB_app {a b : List Int} (h1 : IsB a) (h2 : IsB b) : IsB (a ++ b) := fun c hc => (List.mem_append.1 hc).elim (h1 c) (h2 c)
theorem wrap_u16 {n : Int} (h0 : 0 ≤ n) (h1 : n < 65536) : IntKind.u16.wrap n = n := by
  simp [IntKind.wrap, IntKind.bits, IntKind.signed]
  omega

set_option maxHeartbeats 1000000 in
theorem check_any (w : World) (ht : Tab w) (ahead number : Nat) (ha : ahead < 4294967296) (hm : number < 4294967296) (A : Option Addr) (n c : Nat) (x : List Int) (hx : x.length = n) (hrd : Rd w A n c (B8 x)) (hb : IsB x) (hn : n < 65536) :
    Calls Tryd.prog 32 #[.int .u32 ahead, .int .u32 number, .slice A n c] w fun e w' => e = .returned (.int .u32 (checkN ahead number x : Nat)) ∧ Kp w w' (fun _ => False) := by
  have hwr := wrap_u16 (n := (n : Int)) (by omega) (by omega)
  have k0 := (Kp.refl w (fun _ => False)).alloc (.cells #[.slice none 0 0, .int .i64 0] 93)
  have i0 := IsWr.new w
  obtain ⟨w0, hW⟩ : ∃ w0, w.alloc (.cells #[.slice none 0 0, .int .i64 0] 93) = w0 := ⟨_, rfl⟩
  rw [hW] at k0 i0
  have hWV := V.mk hW
  clear hW
  obtain ⟨g, hg⟩ : ∃ g, w.heap.size = g := ⟨_, rfl⟩
  rw [hg] at i0
  have hge : w.heap.size ≤ g := Nat.le_of_eq hg
  have hgV := V.mk hg
  clear hg
  have hxV := V.mk hx
  clear hx
  have c1 := V.mk (wfour_any w0 g none [] i0 ahead (by omega) (by omega) (by simp))
  go_enter Tryd.func32, Tryd.ntmps32
  go_wp2_with fail
  rw [hWV.out, hgV.out]
  refine c1.out.mono ?_
  rintro e w1 ⟨r1, rfl, i1, k1, f1⟩
  have q1 := k0.step k1 hge (New.none _)
  have n1 : New w r1 := (New.none _).fr k0.size f1
  go_wp2_with fail
  refine (wfour_any w1 g r1 _ i1 number (by omega) (by omega) (by simp [be4, be2])).mono ?_
  rintro e w2 ⟨r2, rfl, i2, k2, f2⟩
  have q2 := q1.step k2 hge n1
  have n2 := n1.fr q1.size f2
  go_wp2_with fail
  refine (wtwo_any w2 g r2 _ i2 n (by omega) (by omega) (by simp [be4, be2])).mono ?_
  rintro e w3 ⟨r3, rfl, i3, k3, f3⟩
  have q3 := q2.step k3 hge n2
  have n3 := n2.fr q2.size f3
  go_wp2_with fail
  refine (wbyte_any w3 g r3 _ i3 A n c x hxV.out (hrd.kp q3 (fun _ _ _ h => h)) (by simp [be4, be2]; omega)).mono ?_
  rintro e w4 ⟨r4, rfl, i4, k4, f4⟩
  have q4 := q3.step k4 hge n3
  have n4 := n3.fr q3.size f4
  go_wp2_with fail
  refine (wdone_any w4 g r4 _ i4 (by simp [be4, be2, hxV.out]; omega)).mono ?_
  rintro e w5 ⟨A5, c5, r5, rfl, h5, n5, k5⟩
  have q5 := q4.step k5 hge n4
  have eL : [] ++ be4 (ahead : Int) ++ be4 (number : Int) ++ be2 (n : Int) ++ x = be4 (ahead : Int) ++ be4 (number : Int) ++ be2 (x.length : Int) ++ x := by rw [hxV.out, List.nil_append]
  rw [eL] at h5 ⊢
  obtain ⟨Z, hZ⟩ : ∃ Z, be4 (ahead : Int) ++ be4 (number : Int) ++ be2 (x.length : Int) ++ x = Z := ⟨_, rfl⟩
  have hZb : IsB Z := by
    rw [← hZ]
    exact isB_app (isB_app (isB_app (be4_isB' (by omega) (by omega)) (be4_isB' (by omega) (by omega))) (be2_isB (by omega) (by rw [hxV.out]; omega))) hb
  rw [hZ] at h5 ⊢
  have cc := V.mk (crc_any w5 (ht.kp q5 (fun h => h)) A5 Z.length c5 Z rfl h5.rd hZb)
  have hR : V (checkN ahead number x = crcN Z) := ⟨by unfold checkN; rw [hZ]⟩
  clear hZ eL c1 k0 i0 i1 i2 i3 i4 hwr
  go_wp2_with fail
  refine cc.out.mono ?_
  rintro e w6 ⟨rfl, rfl⟩
  go_wp2
  go_ret
  exact ⟨by rw [hR.out]; rfl, q5⟩

def frameN (number sum : Nat) (x : List Int) : List Int := be2 x.length ++ be4 number ++ be4 sum ++ x
theorem frameN_length (number sum : Nat) (x : List Int) : (frameN number sum x).length = 10 + x.length := by
  simp [frameN, be4, be2]
  omega
set_option maxHeartbeats 1000000 in
theorem frame_any (w : World) (number sum : Nat) (ha : number < 4294967296) (hm : sum < 4294967296) (A : Option Addr) (n c : Nat) (x : List Int) (hx : x.length = n) (hrd : Rd w A n c (B8 x)) (hn : n < 65536) :
    Calls Tryd.prog 34 #[.int .u32 number, .int .u32 sum, .slice A n c] w fun e w' => ∃ A' m c' r', e = .returned (.slice A' m c') ∧ (frameN number sum x).length = m ∧ Row w' 5 1 A' m c' (B8 (frameN number sum x)) r' ∧ New w r' ∧ Kp w w' (fun _ => False) := by
  have hwr := wrap_u16 (n := (n : Int)) (by omega) (by omega)
  have k0 := (Kp.refl w (fun _ => False)).alloc (.cells #[.slice none 0 0, .int .i64 0] 93)
  have i0 := IsWr.new w
  obtain ⟨w0, hW⟩ : ∃ w0, w.alloc (.cells #[.slice none 0 0, .int .i64 0] 93) = w0 := ⟨_, rfl⟩
  rw [hW] at k0 i0
  have hWV := V.mk hW
  clear hW
  obtain ⟨g, hg⟩ : ∃ g, w.heap.size = g := ⟨_, rfl⟩
  rw [hg] at i0
  have hge : w.heap.size ≤ g := Nat.le_of_eq hg
  have hgV := V.mk hg
  clear hg
  have hxV := V.mk hx
  clear hx
  have c1 := V.mk (wtwo_any w0 g none [] i0 n (by omega) (by omega) (by simp))
  go_enter Tryd.func34, Tryd.ntmps34
  go_wp2_with fail
  rw [hWV.out, hgV.out]
  refine c1.out.mono ?_
  rintro e w1 ⟨r1, rfl, i1, k1, f1⟩
  have q1 := k0.step k1 hge (New.none _)
  have n1 : New w r1 := (New.none _).fr k0.size f1
  go_wp2_with fail
  refine (wfour_any w1 g r1 _ i1 number (by omega) (by omega) (by simp [be4, be2])).mono ?_
  rintro e w2 ⟨r2, rfl, i2, k2, f2⟩
  have q2 := q1.step k2 hge n1
  have n2 := n1.fr q1.size f2
  go_wp2_with fail
  refine (wfour_any w2 g r2 _ i2 sum (by omega) (by omega) (by simp [be4, be2])).mono ?_
  rintro e w3 ⟨r3, rfl, i3, k3, f3⟩
  have q3 := q2.step k3 hge n2
  have n3 := n2.fr q2.size f3
  go_wp2_with fail
  refine (wbyte_any w3 g r3 _ i3 A n c x hxV.out (hrd.kp q3 (fun _ _ _ h => h)) (by simp [be4, be2]; omega)).mono ?_
  rintro e w4 ⟨r4, rfl, i4, k4, f4⟩
  have q4 := q3.step k4 hge n3
  have n4 := n3.fr q3.size f4
  go_wp2_with fail
  refine (wdone_any w4 g r4 _ i4 (by simp [be4, be2, hxV.out]; omega)).mono ?_
  rintro e w5 ⟨A5, c5, r5, rfl, h5, n5, k5⟩
  have q5 := q4.step k5 hge n4
  have eL : [] ++ be2 (n : Int) ++ be4 (number : Int) ++ be4 (sum : Int) ++ x = frameN number sum x := by unfold frameN; rw [hxV.out, List.nil_append]
  rw [eL] at h5 ⊢
  clear eL c1 k0 i0 i1 i2 i3 i4 hwr
  have hnew : New w r5 := n5.mono q4.size
  go_wp2
  go_ret
  exact ⟨A5, _, c5, r5, rfl, rfl, h5, hnew, q5⟩

end Go.Proofs.YtkameiopahcacaaDoor
