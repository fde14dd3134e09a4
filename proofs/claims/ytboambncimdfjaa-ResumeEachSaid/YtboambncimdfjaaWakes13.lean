/- longwirelaw13.wakes: the document's example answers true. No condition. -/
import Derived.Test.YtboambncimdfjaaEqH
set_option linter.unusedVariables false
set_option linter.unusedSimpArgs false
namespace Go.Proofs.Ytboambncimdfjaa
open Go.RowKit Go.Shelf

def exL : List Hv := [⟨2, 0, 0, false⟩, ⟨4, 0, 0, false⟩, ⟨5, 0, 0, false⟩]
theorem ex_ok : ∀ h ∈ exL, h.ok := by
  intro h hh
  simp only [exL, List.mem_cons, List.mem_nil_iff, or_false] at hh
  rcases hh with rfl | rfl | rfl <;> exact ⟨by decide, by decide, by decide, by decide, by decide, by decide⟩
theorem ex_fits : fits 6 exL 4 = 0 := by decide +kernel
theorem ex_again : againL 6 exL 4 = [5] := by decide +kernel
theorem ex_replay : replayL 6 exL 4 = [⟨2, 0, 0, false⟩, ⟨4, 0, 0, false⟩] := by decide +kernel
theorem ex_past : pastL 6 exL 4 = [1, 3] := by decide +kernel

theorem tb_u32 : ¬ TB 24 := by unfold TB; decide
theorem tb_u32s : ¬ TB 46 := by unfold TB; decide
theorem tb_hv : ¬ TB 35 := by unfold TB; decide
theorem tb_hvs : ¬ TB 23 := by unfold TB; decide
theorem firstAgain (w : World) (next : Nat) (hn1 : next < 4294967296) (A : Option Addr) (n c : Nat) (l : List Hv) (hl : l.length = n) (hok : ∀ h ∈ l, h.ok) (last : Nat) (hl1 : last < 4294967296) (Ba Bl : Nat)
    (ht : Told w (fun k => k < w.heap.size) next A n c l last Ba Bl) (most : Nat) (hm : most ≤ 1000) :
    Calls Try.prog 24 #[.func (.func 36) #[] #[.pointer (some ⟨Ba, 0, none⟩), .pointer (some ⟨Bl, 0, none⟩)], .int .i64 most] w (NewU w ((againL next l last).take most)) :=
  first_u w _ _ (fun _ _ => rfl) (fun k => k < w.heap.size) TB _ (fun F hF => again1_in F hF w next hn1 A n c l hl hok last hl1 Ba Bl _ TB (fun _ h => h) ht) (fun _ h => h) tb_u32 tb_u32s most hm
theorem firstPast (w : World) (next : Nat) (hn1 : next < 4294967296) (A : Option Addr) (n c : Nat) (l : List Hv) (hl : l.length = n) (hok : ∀ h ∈ l, h.ok) (last : Nat) (hl1 : last < 4294967296) (Ba Bl : Nat)
    (ht : Told w (fun k => k < w.heap.size) next A n c l last Ba Bl) (most : Nat) (hm : most ≤ 1000) :
    Calls Try.prog 24 #[.func (.func 41) #[] #[.pointer (some ⟨Ba, 0, none⟩), .pointer (some ⟨Bl, 0, none⟩)], .int .i64 most] w (NewU w ((pastL next l last).take most)) :=
  first_u w _ _ (fun _ _ => rfl) (fun k => k < w.heap.size) TB _ (fun F hF => past1_in F hF w next hn1 A n c l hl hok last hl1 Ba Bl _ TB (fun _ h => h) (fun _ h => h) ht) (fun _ h => h) tb_u32 tb_u32s most hm
theorem firstReplay (w : World) (next : Nat) (hn1 : next < 4294967296) (A : Option Addr) (n c : Nat) (l : List Hv) (hl : l.length = n) (hok : ∀ h ∈ l, h.ok) (last : Nat) (hl1 : last < 4294967296) (Ba Bl : Nat)
    (ht : Told w (fun k => k < w.heap.size) next A n c l last Ba Bl) (most : Nat) (hm : most ≤ 1000) :
    Calls Try.prog 21 #[.func (.func 40) #[] #[.pointer (some ⟨Ba, 0, none⟩), .pointer (some ⟨Bl, 0, none⟩)], .int .i64 most] w (NewH w ((replayL next l last).take most)) :=
  first_h w _ _ (fun _ _ => rfl) (fun k => k < w.heap.size) TB _ (fun F hF => replay1_in F hF w next hn1 A n c l hl hok last hl1 Ba Bl _ TB (fun _ h => h) ht ht.bl.lt) (fun _ h => h) tb_hv tb_hvs most hm

theorem rd_hv_take {w : World} {A : Option Addr} {n c : Nat} {l : List Hv} (h : Rd w A n c (hvCells l)) (m : Nat) (hm : m ≤ n) : Rd w A m c (hvCells (l.take m)) := by
  refine ⟨by have := h.1; omega, h.2.1, h.2.2.1, fun ad ha j u hu => h.2.2.2 ad ha j u ?_⟩
  have e : hvCells l = hvCells (l.take m) ++ hvCells (l.drop m) := by rw [← hvCells_append, List.take_append_drop]
  rw [e, List.getElem?_append_left (Array.getElem?_eq_some_iff.1 (show (hvCells (l.take m)).toArray[j]? = some u by simpa using hu)).1]
  exact hu

/-- What is told, in a world behind. -/
structure Wk (w W : World) (B : Nat) (A : Option Addr) : Prop where
  kp : Kp w W (fun _ => False)
  bx : Blk W B #[.int .u32 6, .slice A 3 3] 26
  rd : Rd W A 3 3 (hvCells exL)
  low : ∀ ad, A = some ad → ad.block < W.heap.size
theorem Wk.quiet {w W W' : World} {B : Nat} {A : Option Addr} (h : Wk w W B A) (hk : Kp W W' (fun _ => False)) : Wk w W' B A :=
  ⟨h.kp.quiet hk, Blk.kp h.bx hk (fun h => h), h.rd.kp hk (fun _ _ _ h => h), fun ad ha => Nat.lt_of_lt_of_le (h.low ad ha) hk.size⟩
theorem Wk.drew {w W : World} {B : Nat} {A : Option Addr} (h : Wk w W B A) : Wk w W.drew B A := ⟨h.kp.drew, h.bx, h.rd, h.low⟩
theorem Wk.told {w W W' : World} {B Ba Bl : Nat} {A : Option Addr} (h : Wk w W B A) (hk : Kp W W' (fun _ => False)) (ha : Blk W' Ba #[.int .u32 6, .slice A 3 3] 26) (hl : Blk W' Bl #[.int .u32 4] 24) :
    Told W' (fun k => k < W'.heap.size) 6 A 3 3 exL 4 Ba Bl :=
  ⟨ha, hl, (h.quiet hk).rd, fun ad h1 _ => (h.quiet hk).low ad h1, fun ad h1 _ => (h.quiet hk).low ad h1⟩

theorem wkAgain {w W W' : World} {B Ba Bl : Nat} {A : Option Addr} (h : Wk w W B A) (ha : Blk W Ba #[.int .u32 6, .slice A 3 3] 26) (hl : Blk W Bl #[.int .u32 4] 24) (hq : Kp W W' (fun _ => False)) :
    Calls Try.prog 24 #[.func (.func 36) #[] #[.pointer (some ⟨Ba, 0, none⟩), .pointer (some ⟨Bl, 0, none⟩)], .int .i64 9] W' (NewU W' [5]) := by
  have := firstAgain W' 6 (by omega) A 3 3 exL rfl ex_ok 4 (by omega) Ba Bl (h.told hq (Blk.kp ha hq (fun h => h)) (Blk.kp hl hq (fun h => h))) 9 (by omega)
  rw [ex_again] at this
  exact this
theorem wkPast {w W W' : World} {B Ba Bl : Nat} {A : Option Addr} (h : Wk w W B A) (ha : Blk W Ba #[.int .u32 6, .slice A 3 3] 26) (hl : Blk W Bl #[.int .u32 4] 24) (hq : Kp W W' (fun _ => False)) :
    Calls Try.prog 24 #[.func (.func 41) #[] #[.pointer (some ⟨Ba, 0, none⟩), .pointer (some ⟨Bl, 0, none⟩)], .int .i64 9] W' (NewU W' [1, 3]) := by
  have := firstPast W' 6 (by omega) A 3 3 exL rfl ex_ok 4 (by omega) Ba Bl (h.told hq (Blk.kp ha hq (fun h => h)) (Blk.kp hl hq (fun h => h))) 9 (by omega)
  rw [ex_past] at this
  exact this
theorem wkReplay {w W W' : World} {B Ba Bl : Nat} {A : Option Addr} (h : Wk w W B A) (ha : Blk W Ba #[.int .u32 6, .slice A 3 3] 26) (hl : Blk W Bl #[.int .u32 4] 24) (hq : Kp W W' (fun _ => False)) :
    Calls Try.prog 21 #[.func (.func 40) #[] #[.pointer (some ⟨Ba, 0, none⟩), .pointer (some ⟨Bl, 0, none⟩)], .int .i64 9] W' (NewH W' [⟨2, 0, 0, false⟩, ⟨4, 0, 0, false⟩]) := by
  have := firstReplay W' 6 (by omega) A 3 3 exL rfl ex_ok 4 (by omega) Ba Bl (h.told hq (Blk.kp ha hq (fun h => h)) (Blk.kp hl hq (fun h => h))) 9 (by omega)
  rw [ex_replay] at this
  exact this
theorem wkFits {w W W' : World} {B : Nat} {A : Option Addr} (h : Wk w W B A) (hq : Kp W W' (fun _ => False)) :
    Calls Try.prog 14 #[.agg #[.int .u32 6, .slice A 3 3], .int .u32 4] W' fun e w' => e = .returned (.int .i64 0) ∧ Kp W' w' (fun _ => False) := by
  have := fits_any W' 6 (by omega) A 3 3 exL rfl (h.quiet hq).rd (fun ad h1 _ => (h.quiet hq).low ad h1) ex_ok 4 (by omega)
  rw [ex_fits] at this
  exact this
theorem wkEq {w W' : World} {A A' : Option Addr} {n c n' c' : Nat} {r : Option Nat} {L : List Int} (hn : L.length = n) (hr : Row w 24 1 A n c (U32 L) r) (hq : Kp w W' (fun _ => False)) (hn' : L.length = n') (h2 : Rd W' A' n' c' (U32 L)) :
    Calls Try.prog 23 #[.slice A n c, .slice A' n' c'] W' fun e w' => e = .returned (.bool true) ∧ Kp W' w' (fun _ => False) := by
  have := equ_any W' A A' n n' c c' L L hn hn' (hr.rd.kp hq (fun _ _ _ h => h)) h2
  simpa using this

set_option maxRecDepth 100000 in
set_option maxHeartbeats 8000000 in
theorem wakes_any (w : World) : Calls Try.prog 16 #[] w fun e w' => e = .returned (.bool true) ∧ Kp w w' (fun _ => False) := by
  obtain ⟨W, hW⟩ : ∃ W, (w.alloc (.cells #[.int .u32 2, .int .u32 0, .int .u32 0, .bool false, .int .u32 4, .int .u32 0, .int .u32 0, .bool false, .int .u32 5, .int .u32 0, .int .u32 0, .bool false] 35)).alloc (.cells #[.int .u32 6, .slice (some ⟨w.heap.size, 0, none⟩) 3 3] 26) = W := ⟨_, rfl⟩
  have hs : Wk w W (w.heap.size + 1) (some ⟨w.heap.size, 0, none⟩) := by
    rw [← hW]
    have hb := Blk.new (w.alloc (.cells #[.int .u32 2, .int .u32 0, .int .u32 0, .bool false, .int .u32 4, .int .u32 0, .int .u32 0, .bool false, .int .u32 5, .int .u32 0, .int .u32 0, .bool false] 35)) #[.int .u32 6, .slice (some ⟨w.heap.size, 0, none⟩) 3 3] 26
    rw [World.size_alloc] at hb
    exact ⟨((Kp.refl _ _).alloc _).alloc _, hb, (Rd.lit w 35 (0, 0) 3 (hvCells exL) (by simp [maxLen])).alloc _, fun ad ha => by simp at ha; subst ha; simp; omega⟩
  have hWV := V.mk hW
  clear hW
  go_enter Try.func16, Try.ntmps16
  go_wp2
  rw [hWV.out]
  have hs0 := hs.drew
  have c0 := hs0.bx.cell' 0 rfl
  have c1 := hs0.bx.cell' 1 rfl
  go_region_held3 (fun W => W.cell? ⟨w.heap.size + 1, 0, none⟩ = some (.int .u32 6) ∧ W.cell? ⟨w.heap.size + 1, 1, none⟩ = some (.slice (some ⟨w.heap.size, 0, none⟩) 3 3)) (first | exact ⟨by assumption, by assumption⟩ | (with_reducible exact ⟨(hs9.bx.alloc _).cell' 0 rfl, (hs9.bx.alloc _).cell' 1 rfl⟩) | (with_reducible exact ⟨(hs8.bx.alloc _).cell' 0 rfl, (hs8.bx.alloc _).cell' 1 rfl⟩) | (with_reducible exact ⟨(hs7.bx.alloc _).cell' 0 rfl, (hs7.bx.alloc _).cell' 1 rfl⟩) | (with_reducible exact ⟨(hs3.bx.alloc _).cell' 0 rfl, (hs3.bx.alloc _).cell' 1 rfl⟩) | (with_reducible exact ⟨(hs2.bx.alloc _).cell' 0 rfl, (hs2.bx.alloc _).cell' 1 rfl⟩) | (with_reducible exact ⟨(hs1.bx.alloc _).cell' 0 rfl, (hs1.bx.alloc _).cell' 1 rfl⟩))
    ((first | (go_at_call 23; refine (wkEq hn9 hr9 (by first | exact Kp.refl _ _ | exact (Kp.refl _ _).alloc _) rfl (by first | exact Rd.lit _ _ _ 2 _ (by simp [maxLen]) | exact (Rd.lit w8 _ _ 2 [.int .u32 1, .int .u32 3] (by simp [maxLen])).kp hk9 (fun _ _ _ h => h) | exact (Rd.lit w7 _ _ 2 [.int .u32 1, .int .u32 3] (by simp [maxLen])).kp (hk8.quiet hk9) (fun _ _ _ h => h))).mono ?_; rintro e w10 ⟨rfl, hk10⟩; have hs10 := (hs9.quiet (by first | exact Kp.refl _ _ | exact (Kp.refl _ _).alloc _)).quiet hk10; have c010 := hs10.bx.cell' 0 rfl; have c110 := hs10.bx.cell' 1 rfl)
            | (go_at_call 24; refine (wkPast hs8 ha8 hl8 (by first | exact Kp.refl _ _ | exact (Kp.refl _ _).alloc _)).mono ?_; rintro e w9 ⟨A9, n9, c9, r9, rfl, hn9, hr9, _, hk9⟩; have hs9 := (hs8.quiet (by first | exact Kp.refl _ _ | exact (Kp.refl _ _).alloc _)).quiet hk9; have c09 := hs9.bx.cell' 0 rfl; have c19 := hs9.bx.cell' 1 rfl)
            | (go_at_call 13; refine (past_any _ 6 4 _ 3 3).mono ?_; rintro e w8 ⟨Ba8, Bl8, rfl, ha8, hl8, _, _, hk8⟩; have hs8 := (hs7.quiet (by first | exact Kp.refl _ _ | exact (Kp.refl _ _).alloc _)).quiet hk8; have c08 := hs8.bx.cell' 0 rfl; have c18 := hs8.bx.cell' 1 rfl)
            | (go_at_call 44; refine (eqh_any _ A6 _ n6 2 c6 3 [⟨2, 0, 0, false⟩, ⟨4, 0, 0, false⟩] [⟨2, 0, 0, false⟩, ⟨4, 0, 0, false⟩] hn6 rfl hr6.rd (rd_hv_take hs6.rd 2 (by omega))).mono ?_; rintro e w7 ⟨rfl, hk7⟩; have hs7 := (hs6.quiet (by first | exact Kp.refl _ _ | exact (Kp.refl _ _).alloc _)).quiet hk7; have c07 := hs7.bx.cell' 0 rfl; have c17 := hs7.bx.cell' 1 rfl)
            | (go_at_call 21; refine (wkReplay hs5 ha5 hl5 (by first | exact Kp.refl _ _ | exact (Kp.refl _ _).alloc _)).mono ?_; rintro e w6 ⟨A6, n6, c6, r6, rfl, hn6, hr6, _, hk6⟩; have hs6 := (hs5.quiet (by first | exact Kp.refl _ _ | exact (Kp.refl _ _).alloc _)).quiet hk6; have c06 := hs6.bx.cell' 0 rfl; have c16 := hs6.bx.cell' 1 rfl)
            | (go_at_call 12; refine (replay_any _ 6 4 _ 3 3).mono ?_; rintro e w5 ⟨Ba5, Bl5, rfl, ha5, hl5, _, _, hk5⟩; have hs5 := (hs4.quiet (by first | exact Kp.refl _ _ | exact (Kp.refl _ _).alloc _)).quiet hk5; have c05 := hs5.bx.cell' 0 rfl; have c15 := hs5.bx.cell' 1 rfl)
            | (go_at_call 23; refine (wkEq hn3 hr3 (by first | exact Kp.refl _ _ | exact (Kp.refl _ _).alloc _) rfl (by first | exact Rd.lit _ _ _ 1 _ (by simp [maxLen]) | exact (Rd.lit w2 _ _ 1 [.int .u32 5] (by simp [maxLen])).kp hk3 (fun _ _ _ h => h) | exact (Rd.lit w1 _ _ 1 [.int .u32 5] (by simp [maxLen])).kp (hk2.quiet hk3) (fun _ _ _ h => h))).mono ?_; rintro e w4 ⟨rfl, hk4⟩; have hs4 := (hs3.quiet (by first | exact Kp.refl _ _ | exact (Kp.refl _ _).alloc _)).quiet hk4; have c04 := hs4.bx.cell' 0 rfl; have c14 := hs4.bx.cell' 1 rfl)
            | (go_at_call 24; refine (wkAgain hs2 ha2 hl2 (by first | exact Kp.refl _ _ | exact (Kp.refl _ _).alloc _)).mono ?_; rintro e w3 ⟨A3, n3, c3, r3, rfl, hn3, hr3, _, hk3⟩; have hs3 := (hs2.quiet (by first | exact Kp.refl _ _ | exact (Kp.refl _ _).alloc _)).quiet hk3; have c03 := hs3.bx.cell' 0 rfl; have c13 := hs3.bx.cell' 1 rfl)
            | (go_at_call 10; refine (again_any _ 6 4 _ 3 3).mono ?_; rintro e w2 ⟨Ba2, Bl2, rfl, ha2, hl2, _, _, hk2⟩; have hs2 := (hs1.quiet (by first | exact Kp.refl _ _ | exact (Kp.refl _ _).alloc _)).quiet hk2; have c02 := hs2.bx.cell' 0 rfl; have c12 := hs2.bx.cell' 1 rfl)
            | (go_at_call 14; refine (wkFits hs0 (by first | exact Kp.refl _ _ | exact (Kp.refl _ _).alloc _)).mono ?_; rintro e w1 ⟨rfl, hk1⟩; have hs1 := (hs0.quiet (by first | exact Kp.refl _ _ | exact (Kp.refl _ _).alloc _)).quiet hk1; have c01 := hs1.bx.cell' 0 rfl; have c11 := hs1.bx.cell' 1 rfl)
            | fail "no arm fits"))
  all_goals
    go_wp2
    go_ret
    exact ⟨rfl, hs10.kp⟩

end Go.Proofs.Ytboambncimdfjaa
