/- What a client tells (layer 13): its form. Condition: what is told reads as a list. -/
import Derived.Test.YtboambncimdfjaaRef13c
import Derived.Test.YtboambncimdfjaaRdr
import Derived.Test.YtboambncimdfjaaNum01
import Derived.Test.YtboambncimdfjaaEqBy
import Derived.Deep.RegionHeld3
set_option linter.unusedVariables false
set_option linter.unusedSimpArgs false
set_option maxRecDepth 100000
namespace Go.Proofs.Ytboambncimdfjaa
open Go.RowKit

def hvB (h : Hv) : List Int := be4 h.id ++ be4 h.out ++ be4 h.err ++ [if h.st then 1 else 0]
def askB (next : Int) (l : List Hv) : List Int := be4 next ++ [(l.length : Int)] ++ l.flatMap hvB
theorem hvB_length (h : Hv) : (hvB h).length = 13 := rfl
theorem hvBs_length (l : List Hv) : (l.flatMap hvB).length = 13 * l.length := by
  induction l with
  | nil => rfl
  | cons a l ih => simp [List.flatMap_cons, ih, hvB_length]; omega

theorem be4_length (n : Int) : (be4 n).length = 4 := rfl
theorem askB_length (next : Int) (l : List Hv) : (askB next l).length = 5 + 13 * l.length := by
  unfold askB
  rw [List.length_append, List.length_append, hvBs_length, be4_length, List.length_singleton]

/-- A writer of this call's own, and a box beside it. -/
structure Wq (w W : World) (g : Nat) (r : Option Nat) (bs : List Int) (Ba : Nat) (cs : Array Value) (t : TypeId) : Prop where
  kp : Kp w W (fun _ => False)
  wr : IsWr W g r bs
  g0 : w.heap.size ≤ g
  r0 : New w r
  bx : Blk W Ba cs t
  ne : Ba ≠ g
theorem Wq.step {w W W' : World} {g : Nat} {r r' : Option Nat} {bs bs' : List Int} {Ba : Nat} {cs : Array Value} {t : TypeId} (h : Wq w W g r bs Ba cs t) (ht : 5 ≠ t) (hw : IsWr W' g r' bs') (hk : Kp W W' (fun k => k = g ∨ r = some k)) (hf : Fr W r r') : Wq w W' g r' bs' Ba cs t := by
  have hne : r ≠ some Ba := by
    obtain ⟨A, c, hb, hr⟩ := h.wr
    exact hr.ne_type h.bx ht
  refine ⟨h.kp.step hk h.g0 h.r0, hw, h.g0, h.r0.fr h.kp.size hf, Blk.kp h.bx hk (fun q => ?_), h.ne⟩
  rcases q with q | q
  · exact h.ne q
  · exact hne q
theorem Wq.alloc {w W : World} {g : Nat} {r : Option Nat} {bs : List Int} {Ba : Nat} {cs : Array Value} {t : TypeId} (h : Wq w W g r bs Ba cs t) (o : Obj) : Wq w (W.alloc o) g r bs Ba cs t :=
  ⟨h.kp.alloc o, h.wr.alloc o, h.g0, h.r0, h.bx.alloc o, h.ne⟩
theorem Wq.drew {w W : World} {g : Nat} {r : Option Nat} {bs : List Int} {Ba : Nat} {cs : Array Value} {t : TypeId} (h : Wq w W g r bs Ba cs t) : Wq w W.drew g r bs Ba cs t :=
  ⟨h.kp.drew, h.wr, h.g0, h.r0, h.bx, h.ne⟩

/-- Bytes laid in a block of their own, beside a writer. -/
structure Lit (W : World) (b n : Nat) (cs : List Value) (g : Nat) (r : Option Nat) : Prop where
  rd : Rd W (some ⟨b, 0, none⟩) n n cs
  ng : b ≠ g
  nr : r ≠ some b
  lt : b < W.heap.size
theorem Lit.new {W : World} {g : Nat} {r : Option Nat} {bs : List Int} (h : IsWr W g r bs) (e : TypeId) (n : Nat) (cs : List Value) (hn : n ≤ maxLen) : Lit (W.alloc (.cells cs.toArray e)) W.heap.size n cs g r :=
  ⟨Rd.lit W e (0, 0) n cs hn, by have := h.lt; omega, fun e => by have := h.rlt e; omega, by simp⟩
theorem Lit.step {W W' : World} {b n : Nat} {cs : List Value} {g : Nat} {r r' : Option Nat} (h : Lit W b n cs g r) (hk : Kp W W' (fun k => k = g ∨ r = some k)) (hf : Fr W r r') : Lit W' b n cs g r' :=
  ⟨h.rd.kp hk (fun ad h1 _ q => by
    simp only [Option.some.injEq] at h1
    subst h1
    rcases q with q | q
    · exact h.ng q
    · exact h.nr q), h.ng, fun e => by
    rcases hf.of_lt e with q | q
    · exact h.nr q
    · have := h.lt; omega, Nat.lt_of_lt_of_le h.lt hk.size⟩
theorem Lit.alloc {W : World} {b n : Nat} {cs : List Value} {g : Nat} {r : Option Nat} (h : Lit W b n cs g r) (o : Obj) : Lit (W.alloc o) b n cs g r := ⟨h.rd.alloc o, h.ng, h.nr, by have := h.lt; simp; omega⟩

/-- Bytes and an error are handed back. -/
def FormP (w : World) (L : List Int) (x : Int) (e : Ending) (w' : World) : Prop :=
  ∃ A n c r, e = .returned (.tuple #[.slice A n c, .int .i64 x]) ∧ L.length = n ∧ Row w' 5 1 A n c (B8 L) r ∧ New w r ∧ Kp w w' (fun _ => False)
def formOf (next : Int) (l : List Hv) : List Int × Int := if may next l then (askB next l, 0) else ([], 1)

set_option maxHeartbeats 4000000 in
theorem bytes_any (w : World) (next : Nat) (hn1 : next < 4294967296) (A : Option Addr) (n c : Nat) (l : List Hv) (hl : l.length = n) (hrd : Rd w A n c (hvCells l)) (hok : ∀ h ∈ l, h.ok) :
    Calls Try.prog 27 #[.agg #[.int .u32 next, .slice A n c]] w (FormP w (formOf next l).1 (formOf next l).2) := by
  have hnc : n ≤ c ∧ c ≤ 9223372036854775807 := ⟨hrd.1, by have := hrd.2.1; simpa [maxLen] using this⟩
  have hk0 := (Kp.refl w (fun _ => False)).alloc (.cells #[.int .u32 next, .slice A n c] 26)
  have hb0 := Blk.new w #[.int .u32 next, .slice A n c] 26
  have hm := V.mk (may_any _ next (by omega) (by omega) A n c l hl (hrd.kp hk0 (fun _ _ _ h => h)) hok)
  have q0 := hb0.cell' 0 rfl
  have q1 := hb0.cell' 1 rfl
  go_enter Try.func27, Try.ntmps27
  go_wp2_with fail
  refine hm.out.mono ?_
  rintro e w1 ⟨rfl, hk1⟩
  by_cases hmay : may next l = true
  · have hl16 := (may_mayF hmay).2.2
    have eF : V (formOf next l = (askB next l, 0)) := ⟨by unfold formOf; rw [if_pos hmay]⟩
    rw [hmay]
    clear hmay
    have hWq : Wq w (w1.alloc (.cells #[.slice none 0 0, .int .i64 0] 85)) w1.heap.size none [] w.heap.size #[.int .u32 next, .slice A n c] 26 :=
      ⟨(hk0.quiet hk1).alloc _, IsWr.new w1, (hk0.quiet hk1).size, New.none _, (Blk.kp hb0 hk1 (fun h => h)).alloc _, by have := (Blk.kp hb0 hk1 (fun h => h)).lt; omega⟩
    obtain ⟨w2, hw2⟩ : ∃ w2, w1.alloc (.cells #[.slice none 0 0, .int .i64 0] 85) = w2 := ⟨_, rfl⟩
    rw [hw2] at hWq
    have hV2 := V.mk hw2
    clear hw2 q0 q1 hm hk1 hk0 hb0
    go_wp2
    rw [hV2.out]
    have hq := hWq.drew
    have hwr8 : IntKind.u8.wrap (n : Int) = (n : Int) := by rw [IntKind.wrap_u8]; omega
    have q0 := hq.bx.cell' 0 rfl
    have q1 := hq.bx.cell' 1 rfl
    generalize w1.heap.size = g at *
    go_region_held3 (fun W => W.cell? ⟨w.heap.size, 0, none⟩ = some (.int .u32 next) ∧ W.cell? ⟨w.heap.size, 1, none⟩ = some (.slice A n c)) (first | exact ⟨by assumption, by assumption⟩ | exact ⟨(hq.bx.alloc _).cell' 0 rfl, (hq.bx.alloc _).cell' 1 rfl⟩ | exact ⟨(hq1.bx.alloc _).cell' 0 rfl, (hq1.bx.alloc _).cell' 1 rfl⟩)
      ((first | (go_at_call 48; refine (wbyte_any _ g r3 _ (by first | exact hq1.wr | exact hq1.wr.alloc _) _ 1 1 [(n : Int)] rfl (by first | exact Rd.lit _ _ _ 1 [.int .u8 n] (by simp [maxLen]) | exact ((Lit.new hq.wr _ 1 [.int .u8 n] (by simp [maxLen])).step hk3 hf3).rd) (by simp [be4, be2])).mono ?_; rintro e w4 ⟨r4, rfl, hw4, hk4, hf4⟩; have hq2 := (by first | exact hq1.step (by decide) hw4 hk4 hf4 | exact (hq1.alloc _).step (by decide) hw4 hk4 hf4); have q02 := hq2.bx.cell' 0 rfl; have q12 := hq2.bx.cell' 1 rfl)
              | (go_at_call 47; refine (wfour_any _ g none [] (by first | exact hq.wr | exact hq.wr.alloc _) next (by omega) (by omega) (by simp)).mono ?_; rintro e w3 ⟨r3, rfl, hw3, hk3, hf3⟩; have hq1 := (by first | exact hq.step (by decide) hw3 hk3 hf3 | exact (hq.alloc _).step (by decide) hw3 hk3 hf3); have q01 := hq1.bx.cell' 0 rfl; have q11 := hq1.bx.cell' 1 rfl)
              | fail "no arm"))
    all_goals
      clear q0 q1 q01 q11 q02 q12 hwr8 hWq hq hq1 hk3 hf3 hk4 hf4 hw3 hw4
      have q0 := hq2.bx.cell' 1 rfl
      go_wp2
      go_loopw [6, 7, 23] (fun _ _ i wr => ∃ (k : Nat) (r' : Option Nat), k ≤ n ∧ i = .int .i64 k ∧ Wq w wr g r' (be4 next ++ [(n : Int)] ++ (l.take k).flatMap hvB) w.heap.size #[.int .u32 next, .slice A n c] 26) (fun _ _ i _ => n - (intOf i).toNat)
      case atStart => exact ⟨0, r4, Nat.zero_le _, rfl, by simpa using hq2⟩
      case round =>
        obtain ⟨k, s0, hk', rfl, hwq⟩ := hrel
        by_cases hgo : k < n
        · obtain ⟨ab, ao, rfl, hcs⟩ := (hrd.kp hwq.kp (fun _ _ _ h => h)).base (by omega) (by rw [hvCells_length]; omega)
          obtain ⟨x0, x1, x2, x3⟩ := hv_at hcs k (by omega)
          have hh := hok l[k] (List.getElem_mem _)
          have hts : V ((l.take (k + 1)).flatMap hvB = (l.take k).flatMap hvB ++ hvB l[k]) := ⟨by rw [List.take_succ_eq_append_getElem (by omega), List.flatMap_append]; simp⟩
          have hll : ((l.take k).flatMap hvB).length ≤ 300 := by rw [hvBs_length, List.length_take]; omega
          generalize (l.take k).flatMap hvB = pre at *
          clear hcs
          generalize l[k] = x at *
          obtain ⟨xi, xo, xe, sb⟩ := x
          have hi0 := hh.i0
          have hi1 := hh.i1
          have ho0 := hh.o0
          have ho1 := hh.o1
          have he0 := hh.e0
          have he1 := hh.e1
          simp only at x0 x1 x2 x3 hi0 hi1 ho0 ho1 he0 he1
          clear hh
          cases sb with
          | true =>
            have b0 : Wq w (wr.alloc (.cells #[.int .u32 xi, .int .u32 xo, .int .u32 xe, .bool true] 35)).drew g s0 (be4 next ++ [(n : Int)] ++ pre) wr.heap.size #[.int .u32 xi, .int .u32 xo, .int .u32 xe, .bool true] 35 :=
              ⟨(hwq.kp.alloc _).drew, hwq.wr.alloc _, hwq.g0, hwq.r0, Blk.new _ _ _, by have := hwq.wr.lt; omega⟩
            have p0 := b0.bx.cell' 0 rfl
            have p1 := b0.bx.cell' 1 rfl
            have p2 := b0.bx.cell' 2 rfl
            have p3 := b0.bx.cell' 3 rfl
            have a0 := (hwq.alloc (.cells #[.int .u32 xi, .int .u32 xo, .int .u32 xe, .bool true] 35)).drew
            obtain ⟨u, hu⟩ : ∃ u, wr.alloc (.cells #[.int .u32 xi, .int .u32 xo, .int .u32 xe, .bool true] 35) = u := ⟨_, rfl⟩
            have huV := V.mk hu
            clear hu
            go_wp2
            rw [huV.out]
            rw [huV.out] at b0 p0 p1 p2 p3 a0
            go_region_held3 (fun W => W.cell? ⟨wr.heap.size, 0, none⟩ = some (.int .u32 xi) ∧ W.cell? ⟨wr.heap.size, 1, none⟩ = some (.int .u32 xo) ∧ W.cell? ⟨wr.heap.size, 2, none⟩ = some (.int .u32 xe)) (first | exact ⟨by assumption, by assumption, by assumption⟩ | (with_reducible exact ⟨(b3.bx.alloc _).cell' 0 rfl, (b3.bx.alloc _).cell' 1 rfl, (b3.bx.alloc _).cell' 2 rfl⟩) | (with_reducible exact ⟨(b2.bx.alloc _).cell' 0 rfl, (b2.bx.alloc _).cell' 1 rfl, (b2.bx.alloc _).cell' 2 rfl⟩) | (with_reducible exact ⟨(b1.bx.alloc _).cell' 0 rfl, (b1.bx.alloc _).cell' 1 rfl, (b1.bx.alloc _).cell' 2 rfl⟩) | exact ⟨(b0.bx.alloc _).cell' 0 rfl, (b0.bx.alloc _).cell' 1 rfl, (b0.bx.alloc _).cell' 2 rfl⟩)
              ((first | (go_at_call 48; refine (wbyte_any _ g s3 _ (by first | exact b3.wr | exact b3.wr.alloc _) _ 1 1 [1] rfl (by first | exact Rd.lit _ _ _ 1 [.int .u8 1] (by simp [maxLen]) | exact ((Lit.new b2.wr _ 1 [.int .u8 1] (by simp [maxLen])).step k3 f3).rd | exact (((Lit.new b1.wr _ 1 [.int .u8 1] (by simp [maxLen])).step k2 f2).step k3 f3).rd | exact ((((Lit.new b0.wr _ 1 [.int .u8 1] (by simp [maxLen])).step k1 f1).step k2 f2).step k3 f3).rd) (by simp [be4, be2, hvBs_length]; omega)).mono ?_; rintro e z4 ⟨s4, rfl, v4, k4, f4⟩; have b4 := (by first | exact b3.step (by decide) v4 k4 f4 | exact (b3.alloc _).step (by decide) v4 k4 f4); have q40 := b4.bx.cell' 0 rfl; have q41 := b4.bx.cell' 1 rfl; have q42 := b4.bx.cell' 2 rfl)
                      | (go_at_call 47; refine (wfour_any _ g s2 _ (by first | exact b2.wr | exact b2.wr.alloc _) xe (by omega) (by omega) (by simp [be4, be2, hvBs_length]; omega)).mono ?_; rintro e z3 ⟨s3, rfl, v3, k3, f3⟩; have b3 := (by first | exact b2.step (by decide) v3 k3 f3 | exact (b2.alloc _).step (by decide) v3 k3 f3); have q30 := b3.bx.cell' 0 rfl; have q31 := b3.bx.cell' 1 rfl; have q32 := b3.bx.cell' 2 rfl)
                      | (go_at_call 47; refine (wfour_any _ g s1 _ (by first | exact b1.wr | exact b1.wr.alloc _) xo (by omega) (by omega) (by simp [be4, be2, hvBs_length]; omega)).mono ?_; rintro e z2 ⟨s2, rfl, v2, k2, f2⟩; have b2 := (by first | exact b1.step (by decide) v2 k2 f2 | exact (b1.alloc _).step (by decide) v2 k2 f2); have q20 := b2.bx.cell' 0 rfl; have q21 := b2.bx.cell' 1 rfl; have q22 := b2.bx.cell' 2 rfl)
                      | (go_at_call 47; refine (wfour_any _ g s0 _ (by first | exact b0.wr | exact b0.wr.alloc _) xi (by omega) (by omega) (by simp [be4, be2, hvBs_length]; omega)).mono ?_; rintro e z1 ⟨s1, rfl, v1, k1, f1⟩; have b1 := (by first | exact b0.step (by decide) v1 k1 f1 | exact (b0.alloc _).step (by decide) v1 k1 f1); have q10 := b1.bx.cell' 0 rfl; have q11 := b1.bx.cell' 1 rfl; have q12 := b1.bx.cell' 2 rfl)
                      | fail "no arm"))
            all_goals
              have a4 : ∃ r', Wq w z4 g r' (be4 next ++ [(n : Int)] ++ (l.take (k + 1)).flatMap hvB) w.heap.size #[.int .u32 next, .slice (some ⟨ab, ao, none⟩) n c] 26 := by
                have a1 := (by first | exact a0.step (by decide) v1 k1 f1 | exact (a0.alloc _).step (by decide) v1 k1 f1)
                have a2 := (by first | exact a1.step (by decide) v2 k2 f2 | exact (a1.alloc _).step (by decide) v2 k2 f2)
                have a3 := (by first | exact a2.step (by decide) v3 k3 f3 | exact (a2.alloc _).step (by decide) v3 k3 f3)
                have a4 := (by first | exact a3.step (by decide) v4 k4 f4 | exact (a3.alloc _).step (by decide) v4 k4 f4)
                exact ⟨s4, by rw [hts.out]; simpa [hvB] using a4⟩
              obtain ⟨r', a4⟩ := a4
              clear b0 b1 b2 b3 b4 p0 p1 p2 p3 a0 k1 k2 k3 k4 f1 f2 f3 f4 v1 v2 v3 v4
              go_wp2
              go_roundw
              case rel => exact ⟨k + 1, r', by omega, by go_num, a4⟩
              case measure => simp [intOf]; omega
          | false =>
            have b0 : Wq w (wr.alloc (.cells #[.int .u32 xi, .int .u32 xo, .int .u32 xe, .bool false] 35)).drew g s0 (be4 next ++ [(n : Int)] ++ pre) wr.heap.size #[.int .u32 xi, .int .u32 xo, .int .u32 xe, .bool false] 35 :=
              ⟨(hwq.kp.alloc _).drew, hwq.wr.alloc _, hwq.g0, hwq.r0, Blk.new _ _ _, by have := hwq.wr.lt; omega⟩
            have p0 := b0.bx.cell' 0 rfl
            have p1 := b0.bx.cell' 1 rfl
            have p2 := b0.bx.cell' 2 rfl
            have p3 := b0.bx.cell' 3 rfl
            have a0 := (hwq.alloc (.cells #[.int .u32 xi, .int .u32 xo, .int .u32 xe, .bool false] 35)).drew
            obtain ⟨u, hu⟩ : ∃ u, wr.alloc (.cells #[.int .u32 xi, .int .u32 xo, .int .u32 xe, .bool false] 35) = u := ⟨_, rfl⟩
            have huV := V.mk hu
            clear hu
            go_wp2
            rw [huV.out]
            rw [huV.out] at b0 p0 p1 p2 p3 a0
            go_region_held3 (fun W => W.cell? ⟨wr.heap.size, 0, none⟩ = some (.int .u32 xi) ∧ W.cell? ⟨wr.heap.size, 1, none⟩ = some (.int .u32 xo) ∧ W.cell? ⟨wr.heap.size, 2, none⟩ = some (.int .u32 xe)) (first | exact ⟨by assumption, by assumption, by assumption⟩ | (with_reducible exact ⟨(b3.bx.alloc _).cell' 0 rfl, (b3.bx.alloc _).cell' 1 rfl, (b3.bx.alloc _).cell' 2 rfl⟩) | (with_reducible exact ⟨(b2.bx.alloc _).cell' 0 rfl, (b2.bx.alloc _).cell' 1 rfl, (b2.bx.alloc _).cell' 2 rfl⟩) | (with_reducible exact ⟨(b1.bx.alloc _).cell' 0 rfl, (b1.bx.alloc _).cell' 1 rfl, (b1.bx.alloc _).cell' 2 rfl⟩) | exact ⟨(b0.bx.alloc _).cell' 0 rfl, (b0.bx.alloc _).cell' 1 rfl, (b0.bx.alloc _).cell' 2 rfl⟩)
              ((first | (go_at_call 48; refine (wbyte_any _ g s3 _ (by first | exact b3.wr | exact b3.wr.alloc _) _ 1 1 [0] rfl (by first | exact Rd.lit _ _ _ 1 [.int .u8 0] (by simp [maxLen]) | exact ((Lit.new b2.wr _ 1 [.int .u8 0] (by simp [maxLen])).step k3 f3).rd | exact (((Lit.new b1.wr _ 1 [.int .u8 0] (by simp [maxLen])).step k2 f2).step k3 f3).rd | exact ((((Lit.new b0.wr _ 1 [.int .u8 0] (by simp [maxLen])).step k1 f1).step k2 f2).step k3 f3).rd) (by simp [be4, be2, hvBs_length]; omega)).mono ?_; rintro e z4 ⟨s4, rfl, v4, k4, f4⟩; have b4 := (by first | exact b3.step (by decide) v4 k4 f4 | exact (b3.alloc _).step (by decide) v4 k4 f4); have q40 := b4.bx.cell' 0 rfl; have q41 := b4.bx.cell' 1 rfl; have q42 := b4.bx.cell' 2 rfl)
                      | (go_at_call 47; refine (wfour_any _ g s2 _ (by first | exact b2.wr | exact b2.wr.alloc _) xe (by omega) (by omega) (by simp [be4, be2, hvBs_length]; omega)).mono ?_; rintro e z3 ⟨s3, rfl, v3, k3, f3⟩; have b3 := (by first | exact b2.step (by decide) v3 k3 f3 | exact (b2.alloc _).step (by decide) v3 k3 f3); have q30 := b3.bx.cell' 0 rfl; have q31 := b3.bx.cell' 1 rfl; have q32 := b3.bx.cell' 2 rfl)
                      | (go_at_call 47; refine (wfour_any _ g s1 _ (by first | exact b1.wr | exact b1.wr.alloc _) xo (by omega) (by omega) (by simp [be4, be2, hvBs_length]; omega)).mono ?_; rintro e z2 ⟨s2, rfl, v2, k2, f2⟩; have b2 := (by first | exact b1.step (by decide) v2 k2 f2 | exact (b1.alloc _).step (by decide) v2 k2 f2); have q20 := b2.bx.cell' 0 rfl; have q21 := b2.bx.cell' 1 rfl; have q22 := b2.bx.cell' 2 rfl)
                      | (go_at_call 47; refine (wfour_any _ g s0 _ (by first | exact b0.wr | exact b0.wr.alloc _) xi (by omega) (by omega) (by simp [be4, be2, hvBs_length]; omega)).mono ?_; rintro e z1 ⟨s1, rfl, v1, k1, f1⟩; have b1 := (by first | exact b0.step (by decide) v1 k1 f1 | exact (b0.alloc _).step (by decide) v1 k1 f1); have q10 := b1.bx.cell' 0 rfl; have q11 := b1.bx.cell' 1 rfl; have q12 := b1.bx.cell' 2 rfl)
                      | fail "no arm"))
            all_goals
              have a4 : ∃ r', Wq w z4 g r' (be4 next ++ [(n : Int)] ++ (l.take (k + 1)).flatMap hvB) w.heap.size #[.int .u32 next, .slice (some ⟨ab, ao, none⟩) n c] 26 := by
                have a1 := (by first | exact a0.step (by decide) v1 k1 f1 | exact (a0.alloc _).step (by decide) v1 k1 f1)
                have a2 := (by first | exact a1.step (by decide) v2 k2 f2 | exact (a1.alloc _).step (by decide) v2 k2 f2)
                have a3 := (by first | exact a2.step (by decide) v3 k3 f3 | exact (a2.alloc _).step (by decide) v3 k3 f3)
                have a4 := (by first | exact a3.step (by decide) v4 k4 f4 | exact (a3.alloc _).step (by decide) v4 k4 f4)
                exact ⟨s4, by rw [hts.out]; simpa [hvB] using a4⟩
              obtain ⟨r', a4⟩ := a4
              clear b0 b1 b2 b3 b4 p0 p1 p2 p3 a0 k1 k2 k3 k4 f1 f2 f3 f4 v1 v2 v3 v4
              go_wp2
              go_roundw
              case rel => exact ⟨k + 1, r', by omega, by go_num, a4⟩
              case measure => simp [intOf]; omega
        · have hbs : be4 next ++ [(n : Int)] ++ (l.take k).flatMap hvB = askB next l := by
            unfold askB
            rw [List.take_of_length_le (by omega), hl]
          rw [hbs] at hwq
          have hlen : V ((askB next l).length ≤ 1048576) := ⟨by rw [askB_length]; omega⟩
          have eF2 : V ((formOf next l).1 = askB next l ∧ (formOf next l).2 = 0) := ⟨by rw [eF.out]; exact ⟨rfl, rfl⟩⟩
          clear hbs q0
          have hd := V.mk (wdone_any wr g s0 (askB next l) hwq.wr hlen.out)
          generalize askB next l = BS at *
          go_wp2_with fail
          refine hd.out.mono ?_
          rintro e w5 ⟨A5, c5, r5, rfl, hrow5, hn5, hk5⟩
          go_wp2
          go_ret2
          rw [eF2.out.1, eF2.out.2]
          exact ⟨A5, BS.length, c5, r5, rfl, rfl, hrow5, hn5.mono hwq.kp.size, hwq.kp.step hk5 hwq.g0 hwq.r0⟩
  · have hmay' : may next l = false := by simpa using hmay
    have eF : V (formOf next l = ([], 1)) := ⟨by unfold formOf; rw [if_neg hmay]⟩
    rw [hmay']
    clear hmay hmay'
    go_wp2
    go_ret2
    rw [eF.out]
    exact ⟨none, 0, 0, none, rfl, rfl, Row.nil _ _ _, New.none _, hk0.quiet hk1⟩

end Go.Proofs.Ytboambncimdfjaa
