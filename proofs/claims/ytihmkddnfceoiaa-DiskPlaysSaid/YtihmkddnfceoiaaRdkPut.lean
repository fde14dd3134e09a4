/- The document's disk (longwireref14): Put. Condition: the disk is one; what is laid lies apart from it. -/
import Derived.Test.YtihmkddnfceoiaaRdk
set_option linter.unusedVariables false
set_option linter.unusedSimpArgs false
namespace Go.Proofs.Ytihmkddnfceoiaa
open Go.RowKit

theorem IsRdk.store {w : World} {g gb : Nat} {e : Rdk} (h : IsRdk w g (some gb) e) (j : Nat) (hj : j < e.b.length) (v : Int) :
    IsRdk (w.setCell ⟨gb, j, none⟩ (.int .u8 v)) g (some gb) { e with b := e.b.set j v } := by
  have hne : g ≠ gb := fun e => h.ne (by rw [e])
  obtain ⟨A, c, hb, hr⟩ := h
  obtain ⟨gb', rfl, hg⟩ := hr.addr (by omega)
  simp only [Option.some.injEq] at hg
  subst hg
  refine ⟨_, c, by simpa using hb.far (p := ⟨gb, j, none⟩) hne _, ?_⟩
  have := hr.stored j (.int .u8 v)
  simpa [B8, List.map_set] using this

theorem IsRdk.grown {w w2 : World} {g : Nat} {r r2 : Option Nat} {e : Rdk} (h : IsRdk w g r e) {A2 : Option Addr} {c2 N : Nat} {bs : List Int} (hN : bs.length = N) (hrow2 : Row w2 5 1 A2 N c2 (B8 bs) r2) (hk : Kp w w2 (fun k => r = some k)) :
    IsRdk (w2.setCell ⟨g, 1, none⟩ (.slice A2 N c2)) g r2 { e with b := bs } := by
  subst hN
  have hne := h.ne
  obtain ⟨A, c, hb, hr⟩ := h
  have hb2 := hb.kp hk hne
  exact ⟨A2, c2, by simpa using hb2.set 1 (.slice A2 bs.length c2), hrow2.far (hrow2.ne_type hb2 (by decide)) _⟩

set_option maxHeartbeats 1000000 in
theorem rput_lay1 (w : World) (g : Nat) (r : Option Nat) (d : Rdk) (h : IsRdk w g r d) (at_ : Nat) (A : Option Addr) (n c : Nat) (x : List Int) (hx : x.length = n) (hrd : Rd w A n c (B8 x))
    (haw : ∀ ad, A = some ad → x ≠ [] → ad.block ≠ g ∧ r ≠ some ad.block) (hst : d.st = false) (h1 : at_ ≤ d.b.length) (h2 : (at_ : Int) + n ≤ d.cap) (hcap : d.cap ≤ 1048576) (hlen : d.b.length ≤ d.cap) (M : Nat) (hM : M ≤ n)
    (c1 : (d.left == 0) = true) (c2 : d.bytes = M) (c3 : M < n) :
    Calls Try.prog 17 #[.pointer (some ⟨g, 0, none⟩), .int .i64 at_, .slice A n c] w
      (RPost w g r (d.laid at_ x M)) := by
  obtain ⟨A0, c0, k0, k1, k2, k3, k4, k5, kf, HB, hrow⟩ := h.cells
  obtain ⟨i0, hi, hz0, hz1, hz2⟩ := info_parts i_byte
  have hxV := V.mk hx
  have hnc := hrd.1
  clear hx
  have hb1 : decide (d.b.length < at_) = false := by simpa using h1
  have hb2 : decide ((at_ : Int) < 0) = false := by simp
  have hb3 : decide (d.cap < (at_ : Int) + n) = false := by simpa using h2
  have k5' : w.cell? ⟨g, 5, none⟩ = some (.int .i64 (M : Int)) := by rw [k5, c2]
  clear c2 k5
  have el : d.laid at_ x M = (10, { d with b := layB d.b at_ (x.take M), left := -1, st := true }) := by unfold Rdk.laid; rw [if_pos (by simpa using c1)]
  rw [el]
  clear el
  go_enter Try.func17, Try.ntmps17
  go_wp2
  clear k0 k1 k2 k3 k4 k5' kf
  go_loopw [8] (fun i wr => ∃ (k : Nat) (rk : Option Nat), k ≤ M ∧ i = .int .i64 k ∧ IsRdk wr g rk { d with b := layB d.b at_ (x.take k) } ∧ Kp w wr (fun j => j = g ∨ r = some j) ∧ Fr w r rk) (fun i _ => M - (intOf i).toNat)
  case atStart => exact ⟨0, r, Nat.zero_le _, rfl, by simpa [layB] using h, Kp.refl _ _, .inl rfl⟩
  case round =>
    obtain ⟨k, rk, hk, rfl, hd, hkp, hfr⟩ := hrel
    obtain ⟨A1, c1', k0, k1, k2, k3, k4, k5, kf, HB1, hrow1⟩ := hd.cells
    have hLl := layB_length d.b at_ (x.take k) h1
    rw [List.length_take, hxV.out] at hLl
    simp only at k0 k1 k2 k3 k4 k5 HB1 hrow1
    obtain ⟨L, hL⟩ : ∃ L, (layB d.b at_ (x.take k)).length = L := ⟨_, rfl⟩
    rw [hL] at k1 HB1 hrow1 hLl
    clear hL
    have hL1 : d.b.length ≤ L := by omega
    have hL2 : at_ + k ≤ L := by omega
    have hL3 : L ≤ 1048576 := by omega
    have hLx : L ≤ d.b.length ∨ L ≤ at_ + k := by omega
    clear hLl
    by_cases hgo : k < M
    · have hkx : k < x.length := by rw [hxV.out]; omega
      obtain ⟨ab, ao, rfl, hcw'⟩ := hrd.base (by omega) (by simp [hxV.out]; omega)
      have hcw := hcw' k (.int .u8 x[k]) (by simp [B8, hkx])
      have hcx := hkp.cell hcw (fun e => by
        have := haw _ rfl (by rintro rfl; simp at hkx)
        rcases e with e | e
        · exact this.1 e
        · exact this.2 e)
      clear hcw'
      have hcwV := V.mk hcw
      clear hcw
      by_cases happ : L ≤ at_ + k
      · obtain rfl : L = at_ + k := by omega
        have hcc := hrow1.le
        have hk1 : at_ + k + 1 ≤ 140737488355328 := by omega
        have hk2 : at_ + k + 1 ≤ maxLen := by simp only [maxLen]; omega
        go_wp2_with (at_builtin; refine wpList_app rfl (.tmp 70) (.tmp 71) 22 rfl 5 i0 (.int .u8 0) 1 1 u_bytes hi hz0 hz1 hz2 rfl (by decide) A1 (at_ + k) c1' _ rk (by rfl) (hrow1.alloc _) _ 1 1 [.int .u8 0] (by rfl) (Rd.box _ _ _) rfl (by simp [Value.oneCell']) (at_ + k + 1) rfl (by omega) hk2 ?_)
        intro A2 c2 r2 w2 hrow2 hkp2 hfr2 _
        have hkp3 : Kp wr w2 (fun j => rk = some j) := ((Kp.refl wr _).alloc _).trans hkp2 (fun j hj => .inl hj)
        have hfr3 : Fr wr rk r2 := Fr.trans (.inl rfl) (by simp) hfr2
        have hlB : (layB d.b at_ (x.take k) ++ [0]).length = at_ + k + 1 := by have := hrow1.1; simp only [B8_length] at this; simp only [List.length_append, List.length_singleton]; omega
        have hrow2' : Row w2 5 1 A2 (at_ + k + 1) c2 (B8 (layB d.b at_ (x.take k) ++ [0])) r2 := by rw [B8_append]; exact hrow2
        have hd3 := hd.grown hlB hrow2' hkp3
        have hfr4 := hfr.trans hkp.size hfr3
        have hkp4 : Kp w (w2.setCell ⟨g, 1, none⟩ (.slice A2 (at_ + k + 1) c2)) (fun j => j = g ∨ r = some j) := (hkp.trans hkp3 (fun j hj => by
          rcases hfr.of_lt hj with e | e
          · exact .inl (.inr e)
          · exact .inr e)).set g 1 _ (.inl (.inl rfl))
        have hcx3 := hkp4.cell hcwV.out (fun e => by
          have := haw _ rfl (by rintro rfl; simp at hkx)
          rcases e with e | e
          · exact this.1 e
          · exact this.2 e)
        have HB2 := HB1.kp hkp3 hd.ne
        have p1 := HB2.cell' 1 rfl
        have pf := HB2.free
        clear hcx k0 k1 k2 k3 k4 k5 kf
        go_wp2
        clear p1 pf
        generalize hw3 : w2.setCell ⟨g, 1, none⟩ (.slice A2 (at_ + k + 1) c2) = w3 at hd3 hkp4 hcx3 ⊢
        clear hw3
        obtain ⟨A3, c3', k0, k1, k2, k3, k4, k5, kf, HB3, hrow3⟩ := hd3.cells
        simp only [hlB] at k0 k1 k2 k3 k4 k5 HB3 hrow3
        obtain ⟨gb, rfl, hr⟩ := hrow3.addr (by omega)
        have hcc3 := hrow3.le
        have hfr0 := hrow3.free (at_ + k)
        obtain ⟨v0, hcell⟩ : ∃ v0, w3.cell? ⟨gb, at_ + k, none⟩ = some v0 := ⟨_, hrow3.at_ (at_ + k) _ (List.getElem?_eq_getElem (by have := hrow3.1; omega))⟩
        have s1 := IntWalk.i64_in ((at_ : Int) + k) (by omega)
        have s2 : (0 : Int) ≤ (at_ : Int) + k := by omega
        have s3 : (at_ : Int) + k < (at_ : Int) + k + 1 := by omega
        have s4 : ((at_ : Int) + k).toNat = at_ + k := by omega
        have s5 : (k : Int) < (n : Int) := by omega
        have hlV := V.mk hlB
        clear hlB
        go_still_tail 12, (by kernel_rfl)
        change wpList _ _ _ _ _ w3.drew
        clear s1 s2 s3 s5
        go_wp2
        go_roundw
        case rel =>
          have hd4 : IsRdk w3 g (some gb) { d with b := layB d.b at_ (x.take k) ++ [0] } := hr ▸ hd3
          refine ⟨k + 1, some gb, by omega, by go_num, ?_, ?_, hr ▸ hfr4⟩
          · rw [layB_more _ _ _ _ hkx h1 (by omega)]
            exact hd4.store (at_ + k) (by rw [hlV.out]; omega) x[k]
          · refine (hkp4.set gb (at_ + k) _ ?_).drew
            rcases hfr4.of_lt hr with e | e
            · exact .inl (.inr e)
            · exact .inr e
        case measure => simp [intOf]; omega
      · have hlt : at_ + k < L := by omega
        obtain ⟨gb, rfl, hr⟩ := hrow1.addr (by omega)
        have hcc := hrow1.le
        have hfr0 := hrow1.free (at_ + k)
        have hcell := hrow1.at_ (at_ + k) _ (List.getElem?_eq_getElem (by have := hrow1.1; omega))
        go_wp2
        have s1 := IntWalk.i64_in ((at_ : Int) + k) (by omega)
        have s2 : (0 : Int) ≤ (at_ : Int) + k := by omega
        have s3 : (at_ : Int) + k < (L : Int) := by omega
        have s4 : ((at_ : Int) + k).toNat = at_ + k := by omega
        have s5 : (k : Int) < (n : Int) := by omega
        go_still_tail 12, (by kernel_rfl)
        change wpList _ _ _ _ _ wr.drew
        clear s1 s2 s3 s5
        go_wp2
        go_roundw
        case rel =>
          have hd' : IsRdk wr g (some gb) { d with b := layB d.b at_ (x.take k) } := hr ▸ hd
          have hl2 : at_ + k < (layB d.b at_ (x.take k)).length := by have := hrow1.1; simp only [B8_length] at this; omega
          refine ⟨k + 1, some gb, by omega, by go_num, ?_, ?_, hr ▸ hfr⟩
          · rw [layB_over _ _ _ _ hkx (by omega)]
            exact hd'.store (at_ + k) hl2 x[k]
          · refine (hkp.set gb (at_ + k) _ ?_).drew
            rcases hfr.of_lt hr with e | e
            · exact .inl (.inr e)
            · exact .inr e
        case measure => simp [intOf]; omega
    · obtain rfl : k = M := by omega
      go_wp2
      go_ret
      exact ⟨rfl, rk, (hd.set_left (-1)).set_st true, (hkp.set g 4 _ (.inl (.inl rfl))).set g 3 _ (.inl (.inl rfl)), hfr⟩

set_option maxHeartbeats 1000000 in
theorem rput_lay2 (w : World) (g : Nat) (r : Option Nat) (d : Rdk) (h : IsRdk w g r d) (at_ : Nat) (A : Option Addr) (n c : Nat) (x : List Int) (hx : x.length = n) (hrd : Rd w A n c (B8 x))
    (haw : ∀ ad, A = some ad → x ≠ [] → ad.block ≠ g ∧ r ≠ some ad.block) (hst : d.st = false) (h1 : at_ ≤ d.b.length) (h2 : (at_ : Int) + n ≤ d.cap) (hcap : d.cap ≤ 1048576) (hlen : d.b.length ≤ d.cap) (M : Nat) (hM : M ≤ n)
    (c1 : (d.left == 0) = true) (c2 : M = n) (c3 : (n : Int) ≤ d.bytes) :
    Calls Try.prog 17 #[.pointer (some ⟨g, 0, none⟩), .int .i64 at_, .slice A n c] w
      (RPost w g r (d.laid at_ x M)) := by
  obtain ⟨A0, c0, k0, k1, k2, k3, k4, k5, kf, HB, hrow⟩ := h.cells
  obtain ⟨i0, hi, hz0, hz1, hz2⟩ := info_parts i_byte
  have hxV := V.mk hx
  have hnc := hrd.1
  clear hx
  have hb1 : decide (d.b.length < at_) = false := by simpa using h1
  have hb2 : decide ((at_ : Int) < 0) = false := by simp
  have hb3 : decide (d.cap < (at_ : Int) + n) = false := by simpa using h2
  obtain rfl : n = M := c2.symm
  have el : d.laid at_ x n = (10, { d with b := layB d.b at_ (x.take n), left := -1, st := true }) := by unfold Rdk.laid; rw [if_pos (by simpa using c1)]
  rw [el]
  clear el
  go_enter Try.func17, Try.ntmps17
  go_wp2
  clear k0 k1 k2 k3 k4 k5 kf
  go_loopw [8] (fun i wr => ∃ (k : Nat) (rk : Option Nat), k ≤ n ∧ i = .int .i64 k ∧ IsRdk wr g rk { d with b := layB d.b at_ (x.take k) } ∧ Kp w wr (fun j => j = g ∨ r = some j) ∧ Fr w r rk) (fun i _ => n - (intOf i).toNat)
  case atStart => exact ⟨0, r, Nat.zero_le _, rfl, by simpa [layB] using h, Kp.refl _ _, .inl rfl⟩
  case round =>
    obtain ⟨k, rk, hk, rfl, hd, hkp, hfr⟩ := hrel
    obtain ⟨A1, c1', k0, k1, k2, k3, k4, k5, kf, HB1, hrow1⟩ := hd.cells
    have hLl := layB_length d.b at_ (x.take k) h1
    rw [List.length_take, hxV.out] at hLl
    simp only at k0 k1 k2 k3 k4 k5 HB1 hrow1
    obtain ⟨L, hL⟩ : ∃ L, (layB d.b at_ (x.take k)).length = L := ⟨_, rfl⟩
    rw [hL] at k1 HB1 hrow1 hLl
    clear hL
    have hL1 : d.b.length ≤ L := by omega
    have hL2 : at_ + k ≤ L := by omega
    have hL3 : L ≤ 1048576 := by omega
    have hLx : L ≤ d.b.length ∨ L ≤ at_ + k := by omega
    clear hLl
    by_cases hgo : k < n
    · have hkx : k < x.length := by rw [hxV.out]; omega
      obtain ⟨ab, ao, rfl, hcw'⟩ := hrd.base (by omega) (by simp [hxV.out]; omega)
      have hcw := hcw' k (.int .u8 x[k]) (by simp [B8, hkx])
      have hcx := hkp.cell hcw (fun e => by
        have := haw _ rfl (by rintro rfl; simp at hkx)
        rcases e with e | e
        · exact this.1 e
        · exact this.2 e)
      clear hcw'
      have hcwV := V.mk hcw
      clear hcw
      by_cases happ : L ≤ at_ + k
      · obtain rfl : L = at_ + k := by omega
        have hcc := hrow1.le
        have hk1 : at_ + k + 1 ≤ 140737488355328 := by omega
        have hk2 : at_ + k + 1 ≤ maxLen := by simp only [maxLen]; omega
        go_wp2_with (at_builtin; refine wpList_app rfl (.tmp 70) (.tmp 71) 22 rfl 5 i0 (.int .u8 0) 1 1 u_bytes hi hz0 hz1 hz2 rfl (by decide) A1 (at_ + k) c1' _ rk (by rfl) (hrow1.alloc _) _ 1 1 [.int .u8 0] (by rfl) (Rd.box _ _ _) rfl (by simp [Value.oneCell']) (at_ + k + 1) rfl (by omega) hk2 ?_)
        intro A2 c2 r2 w2 hrow2 hkp2 hfr2 _
        have hkp3 : Kp wr w2 (fun j => rk = some j) := ((Kp.refl wr _).alloc _).trans hkp2 (fun j hj => .inl hj)
        have hfr3 : Fr wr rk r2 := Fr.trans (.inl rfl) (by simp) hfr2
        have hlB : (layB d.b at_ (x.take k) ++ [0]).length = at_ + k + 1 := by have := hrow1.1; simp only [B8_length] at this; simp only [List.length_append, List.length_singleton]; omega
        have hrow2' : Row w2 5 1 A2 (at_ + k + 1) c2 (B8 (layB d.b at_ (x.take k) ++ [0])) r2 := by rw [B8_append]; exact hrow2
        have hd3 := hd.grown hlB hrow2' hkp3
        have hfr4 := hfr.trans hkp.size hfr3
        have hkp4 : Kp w (w2.setCell ⟨g, 1, none⟩ (.slice A2 (at_ + k + 1) c2)) (fun j => j = g ∨ r = some j) := (hkp.trans hkp3 (fun j hj => by
          rcases hfr.of_lt hj with e | e
          · exact .inl (.inr e)
          · exact .inr e)).set g 1 _ (.inl (.inl rfl))
        have hcx3 := hkp4.cell hcwV.out (fun e => by
          have := haw _ rfl (by rintro rfl; simp at hkx)
          rcases e with e | e
          · exact this.1 e
          · exact this.2 e)
        have HB2 := HB1.kp hkp3 hd.ne
        have p1 := HB2.cell' 1 rfl
        have pf := HB2.free
        clear hcx k0 k1 k2 k3 k4 k5 kf
        go_wp2
        clear p1 pf
        generalize hw3 : w2.setCell ⟨g, 1, none⟩ (.slice A2 (at_ + k + 1) c2) = w3 at hd3 hkp4 hcx3 ⊢
        clear hw3
        obtain ⟨A3, c3', k0, k1, k2, k3, k4, k5, kf, HB3, hrow3⟩ := hd3.cells
        simp only [hlB] at k0 k1 k2 k3 k4 k5 HB3 hrow3
        obtain ⟨gb, rfl, hr⟩ := hrow3.addr (by omega)
        have hcc3 := hrow3.le
        have hfr0 := hrow3.free (at_ + k)
        obtain ⟨v0, hcell⟩ : ∃ v0, w3.cell? ⟨gb, at_ + k, none⟩ = some v0 := ⟨_, hrow3.at_ (at_ + k) _ (List.getElem?_eq_getElem (by have := hrow3.1; omega))⟩
        have s1 := IntWalk.i64_in ((at_ : Int) + k) (by omega)
        have s2 : (0 : Int) ≤ (at_ : Int) + k := by omega
        have s3 : (at_ : Int) + k < (at_ : Int) + k + 1 := by omega
        have s4 : ((at_ : Int) + k).toNat = at_ + k := by omega
        have s5 : (k : Int) < (n : Int) := by omega
        have hlV := V.mk hlB
        clear hlB
        go_still_tail 12, (by kernel_rfl)
        change wpList _ _ _ _ _ w3.drew
        clear s1 s2 s3 s5
        go_wp2
        go_roundw
        case rel =>
          have hd4 : IsRdk w3 g (some gb) { d with b := layB d.b at_ (x.take k) ++ [0] } := hr ▸ hd3
          refine ⟨k + 1, some gb, by omega, by go_num, ?_, ?_, hr ▸ hfr4⟩
          · rw [layB_more _ _ _ _ hkx h1 (by omega)]
            exact hd4.store (at_ + k) (by rw [hlV.out]; omega) x[k]
          · refine (hkp4.set gb (at_ + k) _ ?_).drew
            rcases hfr4.of_lt hr with e | e
            · exact .inl (.inr e)
            · exact .inr e
        case measure => simp [intOf]; omega
      · have hlt : at_ + k < L := by omega
        obtain ⟨gb, rfl, hr⟩ := hrow1.addr (by omega)
        have hcc := hrow1.le
        have hfr0 := hrow1.free (at_ + k)
        have hcell := hrow1.at_ (at_ + k) _ (List.getElem?_eq_getElem (by have := hrow1.1; omega))
        go_wp2
        have s1 := IntWalk.i64_in ((at_ : Int) + k) (by omega)
        have s2 : (0 : Int) ≤ (at_ : Int) + k := by omega
        have s3 : (at_ : Int) + k < (L : Int) := by omega
        have s4 : ((at_ : Int) + k).toNat = at_ + k := by omega
        have s5 : (k : Int) < (n : Int) := by omega
        go_still_tail 12, (by kernel_rfl)
        change wpList _ _ _ _ _ wr.drew
        clear s1 s2 s3 s5
        go_wp2
        go_roundw
        case rel =>
          have hd' : IsRdk wr g (some gb) { d with b := layB d.b at_ (x.take k) } := hr ▸ hd
          have hl2 : at_ + k < (layB d.b at_ (x.take k)).length := by have := hrow1.1; simp only [B8_length] at this; omega
          refine ⟨k + 1, some gb, by omega, by go_num, ?_, ?_, hr ▸ hfr⟩
          · rw [layB_over _ _ _ _ hkx (by omega)]
            exact hd'.store (at_ + k) hl2 x[k]
          · refine (hkp.set gb (at_ + k) _ ?_).drew
            rcases hfr.of_lt hr with e | e
            · exact .inl (.inr e)
            · exact .inr e
        case measure => simp [intOf]; omega
    · obtain rfl : k = n := by omega
      go_wp2
      go_ret
      exact ⟨rfl, rk, (hd.set_left (-1)).set_st true, (hkp.set g 4 _ (.inl (.inl rfl))).set g 3 _ (.inl (.inl rfl)), hfr⟩

set_option maxHeartbeats 1000000 in
theorem rput_lay3 (w : World) (g : Nat) (r : Option Nat) (d : Rdk) (h : IsRdk w g r d) (at_ : Nat) (A : Option Addr) (n c : Nat) (x : List Int) (hx : x.length = n) (hrd : Rd w A n c (B8 x))
    (haw : ∀ ad, A = some ad → x ≠ [] → ad.block ≠ g ∧ r ≠ some ad.block) (hst : d.st = false) (h1 : at_ ≤ d.b.length) (h2 : (at_ : Int) + n ≤ d.cap) (hcap : d.cap ≤ 1048576) (hlen : d.b.length ≤ d.cap) (M : Nat) (hM : M ≤ n)
    (c1 : 0 < d.left) (c2 : M = n) :
    Calls Try.prog 17 #[.pointer (some ⟨g, 0, none⟩), .int .i64 at_, .slice A n c] w
      (RPost w g r (d.laid at_ x M)) := by
  obtain ⟨A0, c0, k0, k1, k2, k3, k4, k5, kf, HB, hrow⟩ := h.cells
  obtain ⟨i0, hi, hz0, hz1, hz2⟩ := info_parts i_byte
  have hxV := V.mk hx
  have hnc := hrd.1
  clear hx
  have hb1 : decide (d.b.length < at_) = false := by simpa using h1
  have hb2 : decide ((at_ : Int) < 0) = false := by simp
  have hb3 : decide (d.cap < (at_ : Int) + n) = false := by simpa using h2
  obtain rfl : n = M := c2.symm
  have el : d.laid at_ x n = (0, { d with b := layB d.b at_ (x.take n), left := wr64 (d.left - 1), puts := wr64 (d.puts + 1) }) := by unfold Rdk.laid; rw [if_neg (by omega), if_pos c1]
  rw [el]
  clear el
  go_enter Try.func17, Try.ntmps17
  go_wp2
  clear k0 k1 k2 k3 k4 k5 kf
  go_loopw [8] (fun i wr => ∃ (k : Nat) (rk : Option Nat), k ≤ n ∧ i = .int .i64 k ∧ IsRdk wr g rk { d with b := layB d.b at_ (x.take k) } ∧ Kp w wr (fun j => j = g ∨ r = some j) ∧ Fr w r rk) (fun i _ => n - (intOf i).toNat)
  case atStart => exact ⟨0, r, Nat.zero_le _, rfl, by simpa [layB] using h, Kp.refl _ _, .inl rfl⟩
  case round =>
    obtain ⟨k, rk, hk, rfl, hd, hkp, hfr⟩ := hrel
    obtain ⟨A1, c1', k0, k1, k2, k3, k4, k5, kf, HB1, hrow1⟩ := hd.cells
    have hLl := layB_length d.b at_ (x.take k) h1
    rw [List.length_take, hxV.out] at hLl
    simp only at k0 k1 k2 k3 k4 k5 HB1 hrow1
    obtain ⟨L, hL⟩ : ∃ L, (layB d.b at_ (x.take k)).length = L := ⟨_, rfl⟩
    rw [hL] at k1 HB1 hrow1 hLl
    clear hL
    have hL1 : d.b.length ≤ L := by omega
    have hL2 : at_ + k ≤ L := by omega
    have hL3 : L ≤ 1048576 := by omega
    have hLx : L ≤ d.b.length ∨ L ≤ at_ + k := by omega
    clear hLl
    by_cases hgo : k < n
    · have hkx : k < x.length := by rw [hxV.out]; omega
      obtain ⟨ab, ao, rfl, hcw'⟩ := hrd.base (by omega) (by simp [hxV.out]; omega)
      have hcw := hcw' k (.int .u8 x[k]) (by simp [B8, hkx])
      have hcx := hkp.cell hcw (fun e => by
        have := haw _ rfl (by rintro rfl; simp at hkx)
        rcases e with e | e
        · exact this.1 e
        · exact this.2 e)
      clear hcw'
      have hcwV := V.mk hcw
      clear hcw
      by_cases happ : L ≤ at_ + k
      · obtain rfl : L = at_ + k := by omega
        have hcc := hrow1.le
        have hk1 : at_ + k + 1 ≤ 140737488355328 := by omega
        have hk2 : at_ + k + 1 ≤ maxLen := by simp only [maxLen]; omega
        go_wp2_with (at_builtin; refine wpList_app rfl (.tmp 70) (.tmp 71) 22 rfl 5 i0 (.int .u8 0) 1 1 u_bytes hi hz0 hz1 hz2 rfl (by decide) A1 (at_ + k) c1' _ rk (by rfl) (hrow1.alloc _) _ 1 1 [.int .u8 0] (by rfl) (Rd.box _ _ _) rfl (by simp [Value.oneCell']) (at_ + k + 1) rfl (by omega) hk2 ?_)
        intro A2 c2 r2 w2 hrow2 hkp2 hfr2 _
        have hkp3 : Kp wr w2 (fun j => rk = some j) := ((Kp.refl wr _).alloc _).trans hkp2 (fun j hj => .inl hj)
        have hfr3 : Fr wr rk r2 := Fr.trans (.inl rfl) (by simp) hfr2
        have hlB : (layB d.b at_ (x.take k) ++ [0]).length = at_ + k + 1 := by have := hrow1.1; simp only [B8_length] at this; simp only [List.length_append, List.length_singleton]; omega
        have hrow2' : Row w2 5 1 A2 (at_ + k + 1) c2 (B8 (layB d.b at_ (x.take k) ++ [0])) r2 := by rw [B8_append]; exact hrow2
        have hd3 := hd.grown hlB hrow2' hkp3
        have hfr4 := hfr.trans hkp.size hfr3
        have hkp4 : Kp w (w2.setCell ⟨g, 1, none⟩ (.slice A2 (at_ + k + 1) c2)) (fun j => j = g ∨ r = some j) := (hkp.trans hkp3 (fun j hj => by
          rcases hfr.of_lt hj with e | e
          · exact .inl (.inr e)
          · exact .inr e)).set g 1 _ (.inl (.inl rfl))
        have hcx3 := hkp4.cell hcwV.out (fun e => by
          have := haw _ rfl (by rintro rfl; simp at hkx)
          rcases e with e | e
          · exact this.1 e
          · exact this.2 e)
        have HB2 := HB1.kp hkp3 hd.ne
        have p1 := HB2.cell' 1 rfl
        have pf := HB2.free
        clear hcx k0 k1 k2 k3 k4 k5 kf
        go_wp2
        clear p1 pf
        generalize hw3 : w2.setCell ⟨g, 1, none⟩ (.slice A2 (at_ + k + 1) c2) = w3 at hd3 hkp4 hcx3 ⊢
        clear hw3
        obtain ⟨A3, c3', k0, k1, k2, k3, k4, k5, kf, HB3, hrow3⟩ := hd3.cells
        simp only [hlB] at k0 k1 k2 k3 k4 k5 HB3 hrow3
        obtain ⟨gb, rfl, hr⟩ := hrow3.addr (by omega)
        have hcc3 := hrow3.le
        have hfr0 := hrow3.free (at_ + k)
        obtain ⟨v0, hcell⟩ : ∃ v0, w3.cell? ⟨gb, at_ + k, none⟩ = some v0 := ⟨_, hrow3.at_ (at_ + k) _ (List.getElem?_eq_getElem (by have := hrow3.1; omega))⟩
        have s1 := IntWalk.i64_in ((at_ : Int) + k) (by omega)
        have s2 : (0 : Int) ≤ (at_ : Int) + k := by omega
        have s3 : (at_ : Int) + k < (at_ : Int) + k + 1 := by omega
        have s4 : ((at_ : Int) + k).toNat = at_ + k := by omega
        have s5 : (k : Int) < (n : Int) := by omega
        have hlV := V.mk hlB
        clear hlB
        go_still_tail 12, (by kernel_rfl)
        change wpList _ _ _ _ _ w3.drew
        clear s1 s2 s3 s5
        go_wp2
        go_roundw
        case rel =>
          have hd4 : IsRdk w3 g (some gb) { d with b := layB d.b at_ (x.take k) ++ [0] } := hr ▸ hd3
          refine ⟨k + 1, some gb, by omega, by go_num, ?_, ?_, hr ▸ hfr4⟩
          · rw [layB_more _ _ _ _ hkx h1 (by omega)]
            exact hd4.store (at_ + k) (by rw [hlV.out]; omega) x[k]
          · refine (hkp4.set gb (at_ + k) _ ?_).drew
            rcases hfr4.of_lt hr with e | e
            · exact .inl (.inr e)
            · exact .inr e
        case measure => simp [intOf]; omega
      · have hlt : at_ + k < L := by omega
        obtain ⟨gb, rfl, hr⟩ := hrow1.addr (by omega)
        have hcc := hrow1.le
        have hfr0 := hrow1.free (at_ + k)
        have hcell := hrow1.at_ (at_ + k) _ (List.getElem?_eq_getElem (by have := hrow1.1; omega))
        go_wp2
        have s1 := IntWalk.i64_in ((at_ : Int) + k) (by omega)
        have s2 : (0 : Int) ≤ (at_ : Int) + k := by omega
        have s3 : (at_ : Int) + k < (L : Int) := by omega
        have s4 : ((at_ : Int) + k).toNat = at_ + k := by omega
        have s5 : (k : Int) < (n : Int) := by omega
        go_still_tail 12, (by kernel_rfl)
        change wpList _ _ _ _ _ wr.drew
        clear s1 s2 s3 s5
        go_wp2
        go_roundw
        case rel =>
          have hd' : IsRdk wr g (some gb) { d with b := layB d.b at_ (x.take k) } := hr ▸ hd
          have hl2 : at_ + k < (layB d.b at_ (x.take k)).length := by have := hrow1.1; simp only [B8_length] at this; omega
          refine ⟨k + 1, some gb, by omega, by go_num, ?_, ?_, hr ▸ hfr⟩
          · rw [layB_over _ _ _ _ hkx (by omega)]
            exact hd'.store (at_ + k) hl2 x[k]
          · refine (hkp.set gb (at_ + k) _ ?_).drew
            rcases hfr.of_lt hr with e | e
            · exact .inl (.inr e)
            · exact .inr e
        case measure => simp [intOf]; omega
    · obtain rfl : k = n := by omega
      go_wp2
      go_ret
      refine ⟨rfl, rk, ?_, (hkp.set g 4 _ (.inl (.inl rfl))).set g 2 _ (.inl (.inl rfl)), hfr⟩
      have := (hd.set_left (wrap64 (d.left - 1))).set_puts (wrap64 (d.puts + 1))
      simpa only [wr64_eq] using this

set_option maxHeartbeats 1000000 in
theorem rput_lay4 (w : World) (g : Nat) (r : Option Nat) (d : Rdk) (h : IsRdk w g r d) (at_ : Nat) (A : Option Addr) (n c : Nat) (x : List Int) (hx : x.length = n) (hrd : Rd w A n c (B8 x))
    (haw : ∀ ad, A = some ad → x ≠ [] → ad.block ≠ g ∧ r ≠ some ad.block) (hst : d.st = false) (h1 : at_ ≤ d.b.length) (h2 : (at_ : Int) + n ≤ d.cap) (hcap : d.cap ≤ 1048576) (hlen : d.b.length ≤ d.cap) (M : Nat) (hM : M ≤ n)
    (c1 : d.left < 0) (c2 : M = n) :
    Calls Try.prog 17 #[.pointer (some ⟨g, 0, none⟩), .int .i64 at_, .slice A n c] w
      (RPost w g r (d.laid at_ x M)) := by
  obtain ⟨A0, c0, k0, k1, k2, k3, k4, k5, kf, HB, hrow⟩ := h.cells
  obtain ⟨i0, hi, hz0, hz1, hz2⟩ := info_parts i_byte
  have hxV := V.mk hx
  have hnc := hrd.1
  clear hx
  have hb1 : decide (d.b.length < at_) = false := by simpa using h1
  have hb2 : decide ((at_ : Int) < 0) = false := by simp
  have hb3 : decide (d.cap < (at_ : Int) + n) = false := by simpa using h2
  obtain rfl : n = M := c2.symm
  have el : d.laid at_ x n = (0, { d with b := layB d.b at_ (x.take n), left := d.left, puts := wr64 (d.puts + 1) }) := by unfold Rdk.laid; rw [if_neg (by omega), if_neg (by omega)]
  rw [el]
  clear el
  go_enter Try.func17, Try.ntmps17
  go_wp2
  clear k0 k1 k2 k3 k4 k5 kf
  go_loopw [8] (fun i wr => ∃ (k : Nat) (rk : Option Nat), k ≤ n ∧ i = .int .i64 k ∧ IsRdk wr g rk { d with b := layB d.b at_ (x.take k) } ∧ Kp w wr (fun j => j = g ∨ r = some j) ∧ Fr w r rk) (fun i _ => n - (intOf i).toNat)
  case atStart => exact ⟨0, r, Nat.zero_le _, rfl, by simpa [layB] using h, Kp.refl _ _, .inl rfl⟩
  case round =>
    obtain ⟨k, rk, hk, rfl, hd, hkp, hfr⟩ := hrel
    obtain ⟨A1, c1', k0, k1, k2, k3, k4, k5, kf, HB1, hrow1⟩ := hd.cells
    have hLl := layB_length d.b at_ (x.take k) h1
    rw [List.length_take, hxV.out] at hLl
    simp only at k0 k1 k2 k3 k4 k5 HB1 hrow1
    obtain ⟨L, hL⟩ : ∃ L, (layB d.b at_ (x.take k)).length = L := ⟨_, rfl⟩
    rw [hL] at k1 HB1 hrow1 hLl
    clear hL
    have hL1 : d.b.length ≤ L := by omega
    have hL2 : at_ + k ≤ L := by omega
    have hL3 : L ≤ 1048576 := by omega
    have hLx : L ≤ d.b.length ∨ L ≤ at_ + k := by omega
    clear hLl
    by_cases hgo : k < n
    · have hkx : k < x.length := by rw [hxV.out]; omega
      obtain ⟨ab, ao, rfl, hcw'⟩ := hrd.base (by omega) (by simp [hxV.out]; omega)
      have hcw := hcw' k (.int .u8 x[k]) (by simp [B8, hkx])
      have hcx := hkp.cell hcw (fun e => by
        have := haw _ rfl (by rintro rfl; simp at hkx)
        rcases e with e | e
        · exact this.1 e
        · exact this.2 e)
      clear hcw'
      have hcwV := V.mk hcw
      clear hcw
      by_cases happ : L ≤ at_ + k
      · obtain rfl : L = at_ + k := by omega
        have hcc := hrow1.le
        have hk1 : at_ + k + 1 ≤ 140737488355328 := by omega
        have hk2 : at_ + k + 1 ≤ maxLen := by simp only [maxLen]; omega
        go_wp2_with (at_builtin; refine wpList_app rfl (.tmp 70) (.tmp 71) 22 rfl 5 i0 (.int .u8 0) 1 1 u_bytes hi hz0 hz1 hz2 rfl (by decide) A1 (at_ + k) c1' _ rk (by rfl) (hrow1.alloc _) _ 1 1 [.int .u8 0] (by rfl) (Rd.box _ _ _) rfl (by simp [Value.oneCell']) (at_ + k + 1) rfl (by omega) hk2 ?_)
        intro A2 c2 r2 w2 hrow2 hkp2 hfr2 _
        have hkp3 : Kp wr w2 (fun j => rk = some j) := ((Kp.refl wr _).alloc _).trans hkp2 (fun j hj => .inl hj)
        have hfr3 : Fr wr rk r2 := Fr.trans (.inl rfl) (by simp) hfr2
        have hlB : (layB d.b at_ (x.take k) ++ [0]).length = at_ + k + 1 := by have := hrow1.1; simp only [B8_length] at this; simp only [List.length_append, List.length_singleton]; omega
        have hrow2' : Row w2 5 1 A2 (at_ + k + 1) c2 (B8 (layB d.b at_ (x.take k) ++ [0])) r2 := by rw [B8_append]; exact hrow2
        have hd3 := hd.grown hlB hrow2' hkp3
        have hfr4 := hfr.trans hkp.size hfr3
        have hkp4 : Kp w (w2.setCell ⟨g, 1, none⟩ (.slice A2 (at_ + k + 1) c2)) (fun j => j = g ∨ r = some j) := (hkp.trans hkp3 (fun j hj => by
          rcases hfr.of_lt hj with e | e
          · exact .inl (.inr e)
          · exact .inr e)).set g 1 _ (.inl (.inl rfl))
        have hcx3 := hkp4.cell hcwV.out (fun e => by
          have := haw _ rfl (by rintro rfl; simp at hkx)
          rcases e with e | e
          · exact this.1 e
          · exact this.2 e)
        have HB2 := HB1.kp hkp3 hd.ne
        have p1 := HB2.cell' 1 rfl
        have pf := HB2.free
        clear hcx k0 k1 k2 k3 k4 k5 kf
        go_wp2
        clear p1 pf
        generalize hw3 : w2.setCell ⟨g, 1, none⟩ (.slice A2 (at_ + k + 1) c2) = w3 at hd3 hkp4 hcx3 ⊢
        clear hw3
        obtain ⟨A3, c3', k0, k1, k2, k3, k4, k5, kf, HB3, hrow3⟩ := hd3.cells
        simp only [hlB] at k0 k1 k2 k3 k4 k5 HB3 hrow3
        obtain ⟨gb, rfl, hr⟩ := hrow3.addr (by omega)
        have hcc3 := hrow3.le
        have hfr0 := hrow3.free (at_ + k)
        obtain ⟨v0, hcell⟩ : ∃ v0, w3.cell? ⟨gb, at_ + k, none⟩ = some v0 := ⟨_, hrow3.at_ (at_ + k) _ (List.getElem?_eq_getElem (by have := hrow3.1; omega))⟩
        have s1 := IntWalk.i64_in ((at_ : Int) + k) (by omega)
        have s2 : (0 : Int) ≤ (at_ : Int) + k := by omega
        have s3 : (at_ : Int) + k < (at_ : Int) + k + 1 := by omega
        have s4 : ((at_ : Int) + k).toNat = at_ + k := by omega
        have s5 : (k : Int) < (n : Int) := by omega
        have hlV := V.mk hlB
        clear hlB
        go_still_tail 12, (by kernel_rfl)
        change wpList _ _ _ _ _ w3.drew
        clear s1 s2 s3 s5
        go_wp2
        go_roundw
        case rel =>
          have hd4 : IsRdk w3 g (some gb) { d with b := layB d.b at_ (x.take k) ++ [0] } := hr ▸ hd3
          refine ⟨k + 1, some gb, by omega, by go_num, ?_, ?_, hr ▸ hfr4⟩
          · rw [layB_more _ _ _ _ hkx h1 (by omega)]
            exact hd4.store (at_ + k) (by rw [hlV.out]; omega) x[k]
          · refine (hkp4.set gb (at_ + k) _ ?_).drew
            rcases hfr4.of_lt hr with e | e
            · exact .inl (.inr e)
            · exact .inr e
        case measure => simp [intOf]; omega
      · have hlt : at_ + k < L := by omega
        obtain ⟨gb, rfl, hr⟩ := hrow1.addr (by omega)
        have hcc := hrow1.le
        have hfr0 := hrow1.free (at_ + k)
        have hcell := hrow1.at_ (at_ + k) _ (List.getElem?_eq_getElem (by have := hrow1.1; omega))
        go_wp2
        have s1 := IntWalk.i64_in ((at_ : Int) + k) (by omega)
        have s2 : (0 : Int) ≤ (at_ : Int) + k := by omega
        have s3 : (at_ : Int) + k < (L : Int) := by omega
        have s4 : ((at_ : Int) + k).toNat = at_ + k := by omega
        have s5 : (k : Int) < (n : Int) := by omega
        go_still_tail 12, (by kernel_rfl)
        change wpList _ _ _ _ _ wr.drew
        clear s1 s2 s3 s5
        go_wp2
        go_roundw
        case rel =>
          have hd' : IsRdk wr g (some gb) { d with b := layB d.b at_ (x.take k) } := hr ▸ hd
          have hl2 : at_ + k < (layB d.b at_ (x.take k)).length := by have := hrow1.1; simp only [B8_length] at this; omega
          refine ⟨k + 1, some gb, by omega, by go_num, ?_, ?_, hr ▸ hfr⟩
          · rw [layB_over _ _ _ _ hkx (by omega)]
            exact hd'.store (at_ + k) hl2 x[k]
          · refine (hkp.set gb (at_ + k) _ ?_).drew
            rcases hfr.of_lt hr with e | e
            · exact .inl (.inr e)
            · exact .inr e
        case measure => simp [intOf]; omega
    · obtain rfl : k = n := by omega
      go_wp2
      go_ret
      refine ⟨rfl, rk, ?_, hkp.set g 2 _ (.inl (.inl rfl)), hfr⟩
      have := hd.set_puts (wrap64 (d.puts + 1))
      simpa only [wr64_eq] using this

theorem rput_any (w : World) (g : Nat) (r : Option Nat) (d : Rdk) (h : IsRdk w g r d) (at_ : Int) (A : Option Addr) (n c : Nat) (x : List Int) (hx : x.length = n) (hrd : Rd w A n c (B8 x))
    (haw : ∀ ad, A = some ad → x ≠ [] → ad.block ≠ g ∧ r ≠ some ad.block) (hn : d.left = 0 → 0 ≤ d.bytes) (hcap : d.cap ≤ 1048576) (hlen : d.b.length ≤ d.cap) (hbig : n ≤ 140737488355328) :
    Calls Try.prog 17 #[.pointer (some ⟨g, 0, none⟩), .int .i64 at_, .slice A n c] w (RPost w g r (d.put at_ x)) := by
  unfold Rdk.put
  by_cases hst : d.st = true
  · rw [if_pos hst]
    exact rput_st w g r d h at_ A n c hst
  · have hst' : d.st = false := by simpa using hst
    rw [if_neg hst]
    by_cases h1 : at_ < 0 ∨ (d.b.length : Int) < at_
    · rw [if_pos h1]
      exact rput_at w g r d h at_ A n c hst' h1
    · rw [if_neg h1]
      by_cases h2 : d.cap < at_ + (x.length : Int)
      · rw [if_pos h2]
        exact rput_full w g r d h at_ A n c hst' (by omega) (by omega) (by omega) (by omega) hbig
      · rw [if_neg h2]
        obtain ⟨k, rfl⟩ : ∃ k : Nat, at_ = k := ⟨at_.toNat, by omega⟩
        have e1 : (if d.left = 0 then ((10 : Int), { d with b := layB d.b (k : Int).toNat (x.take (d.many x).toNat), left := -1, st := true })
            else (0, { d with b := layB d.b (k : Int).toNat (x.take (d.many x).toNat), left := if 0 < d.left then wr64 (d.left - 1) else d.left, puts := wr64 (d.puts + 1) })) = d.laid k x (d.many x).toNat := by
          unfold Rdk.laid
          rw [Int.toNat_natCast]
        rw [e1]
        unfold Rdk.many
        by_cases h3 : d.left = 0
        · have h0 := hn h3
          have h3' : (d.left == 0) = true := by simp [h3]
          by_cases h4 : d.bytes < x.length
          · rw [if_pos ⟨h3, h4⟩]
            exact rput_lay1 w g r d h k A n c x hx hrd haw hst' (by omega) (by omega) hcap hlen d.bytes.toNat (by omega) h3' (by omega) (by omega)
          · have h5 : ¬ (d.left = 0 ∧ d.bytes < x.length) := fun h => h4 h.2
            rw [if_neg h5]
            exact rput_lay2 w g r d h k A n c x hx hrd haw hst' (by omega) (by omega) hcap hlen (x.length : Int).toNat (by omega) h3' (by omega) (by omega)
        · have h5 : ¬ (d.left = 0 ∧ d.bytes < x.length) := fun h => h3 h.1
          rw [if_neg h5]
          by_cases h6 : 0 < d.left
          · exact rput_lay3 w g r d h k A n c x hx hrd haw hst' (by omega) (by omega) hcap hlen (x.length : Int).toNat (by omega) h6 (by omega)
          · exact rput_lay4 w g r d h k A n c x hx hrd haw hst' (by omega) (by omega) hcap hlen (x.length : Int).toNat (by omega) (by omega) (by omega)

end Go.Proofs.Ytihmkddnfceoiaa
