/- longwireref13.Parse: reads a form. Condition: the bytes are read. -/
import Derived.Test.YtboambncimdfjaaRParse13M
import Derived.Test.YtboambncimdfjaaHeldE
import Derived.Test.YtboambncimdfjaaParse13
set_option linter.unusedVariables false
set_option linter.unusedSimpArgs false
set_option maxRecDepth 100000
namespace Go.Proofs.Ytboambncimdfjaa
open Go.RowKit

set_option maxHeartbeats 1000000 in
theorem rnum_any (w : World) (A : Option Addr) (n c : Nat) (bs : List Int) (hx : bs.length = n) (hrd : Rd w A n c (B8 bs)) (hby : IsB bs) (hn : 4 ≤ n) :
    Calls Try.prog 56 #[.slice A n c] w fun e w' => e = .returned (.int .u32 (numB (bs.take 4))) ∧ w = w' := by
  have hnc : n ≤ c ∧ c ≤ 9223372036854775807 := ⟨hrd.1, by have := hrd.2.1; simpa [maxLen] using this⟩
  have hxV := V.mk hx
  clear hx
  obtain ⟨ab, ao, rfl, hcs⟩ := hrd.base (by omega) (by simp [hxV.out]; omega)
  have hcsV := V.mk hcs
  clear hcs
  go_enter Try.func56, Try.ntmps56
  go_wp2
  go_loop [3, 4] (fun v i => ∃ k : Nat, k ≤ 4 ∧ i = .int .i64 k ∧ v = .int .u32 (numB (bs.take k))) (fun _ i => 4 - (intOf i).toNat)
  case atStart => exact ⟨0, Nat.zero_le _, rfl, rfl⟩
  case round =>
    obtain ⟨k, hk', rfl, rfl⟩ := hrel
    by_cases hgo : k < 4
    · have hko : k < bs.length := by rw [hxV.out]; omega
      have x0 : w.cell? ⟨ab, ao + k, none⟩ = some (.int .u8 bs[k]) := hcsV.out k _ (by simp [B8, hko])
      have hb := hby bs[k] (List.getElem_mem _)
      have hts : V (numB (bs.take (k + 1)) = numB (bs.take k) * 256 + bs[k]) := ⟨by rw [List.take_succ_eq_append_getElem hko, numB_snoc]⟩
      have hnb := numB_bound (bs.take k) (fun c hc => hby c (List.mem_of_mem_take hc))
      have hnb2 : numB (bs.take k) < 16777216 := by
        have h3 : (bs.take k).length ≤ 3 := by rw [List.length_take]; omega
        have : (256 : Int) ^ (bs.take k).length ≤ 256 ^ 3 := by exact_mod_cast Nat.pow_le_pow_right (by omega) h3
        omega
      have hnb1 := hnb.1
      have hor : V (256 * numB (bs.take k) + bs[k] = numB (bs.take (k + 1))) := ⟨by rw [hts.out]; omega⟩
      generalize numB (bs.take k) = q at *
      generalize bs[k] = y at *
      have hkn : k < n := by omega
      clear hnb hts
      go_wp2
      go_round
      case rel => exact ⟨k + 1, by omega, by go_num, by rw [← hor.out]⟩
      case measure => simp [intOf]; omega
    · obtain rfl : k = 4 := by omega
      go_wp2
      go_ret
      exact ⟨rfl, rfl⟩

theorem recQ_ok {c : List Int} (h : IsB c) : (recQ c).ok := by
  have f : ∀ l : List Int, IsB l → 0 ≤ numB (l.take 4) ∧ numB (l.take 4) < 4294967296 := by
    intro l hl
    have h1 := numB_bound (l.take 4) (fun x hx => hl x (List.mem_of_mem_take hx))
    have h2 : (256 : Int) ^ (l.take 4).length ≤ 256 ^ 4 := by
      have : (l.take 4).length ≤ 4 := by rw [List.length_take]; omega
      exact_mod_cast Nat.pow_le_pow_right (by omega) this
    omega
  have h0 := f c h
  have h4 := f (c.drop 4) (fun x hx => h x (List.mem_of_mem_drop hx))
  have h8 := f (c.drop 8) (fun x hx => h x (List.mem_of_mem_drop hx))
  exact ⟨h0.1, h0.2, h4.1, h4.2, h8.1, h8.2⟩
theorem itemsQ_ok {t : List Int} (h : IsB t) (k : Nat) : ∀ x ∈ itemsQ t k, x.ok := by
  intro x hx
  simp only [itemsQ, List.mem_map] at hx
  obtain ⟨i, _, rfl⟩ := hx
  exact recQ_ok (fun c hc => h c (List.mem_of_mem_drop hc))
theorem oddsQ_true {t : List Int} {k m : Nat} (hk : k < m) (h : oddQ (t.drop (13 * k)) = true) : oddsQ t m = true := by
  unfold oddsQ
  rw [List.any_eq_true]
  exact ⟨k, List.mem_range.2 hk, h⟩

/-- append, at a place of a region that draws its order. -/
theorem step_app {P : Program} {w : World} {ops : Array Oper} {o : Oper} {a : Act} {K : Act → World → Prop} {Q : Exit → Act → World → Prop} {E : Prop} (hgd : Region.wanted o (yielded ops a.tmps) = true) (s x : Operand) (t : TypeId)
    (ho : o.op = .call { callee := .builtin .append, args := #[s, x], argTypes := #[t, t] })
    (e : TypeId) (i : TypeInfo) (z : Value) (sz bytes : Nat) (ht : P.underlying t = some (.slice e)) (hi : P.info? e = some i) (hz : i.zero = some z)
    (hsize : i.size = sz) (hby : i.bytes = bytes) (hzs : z.cells.size = sz) (hsz : 0 < sz)
    (A : Option Addr) (n c : Nat) (xs : List Value) (r : Option Nat) (hs : a.eval s = .slice A n c) (hrow : Row w e sz A n c xs r)
    (B : Option Addr) (m d : Nat) (news : List Value) (hx : a.eval x = .slice B m d) (hrd : Rd w B m d news) (hl : news.length = m * sz) (h1 : ∀ u ∈ news, u.oneCell' = true)
    (N : Nat) (hN : n + m = N) (hbytes : N * bytes ≤ 140737488355328) (hmax : N ≤ maxLen)
    (h : ∀ A' c' r' w', Row w' e sz A' N c' (xs ++ news) r' → Kp w w' (fun k => r = some k) → Fr w r r' → (A' = none ↔ A = none ∧ m = 0) → K (a.put o.dst (.slice A' N c')) w') :
    if Region.wanted o (yielded ops a.tmps) = true then Oper.wp P o a w K Q else E := by
  rw [if_pos hgd]
  subst hN
  obtain ⟨A', c', r', w', hr, q1, q2, q3, q4⟩ := run_app (P := P) (w := w) t o.type e i z sz bytes ht hi hz hsize hby hzs hsz A n c xs r hrow B m d news hrd hl h1 hbytes hmax
  unfold Oper.wp
  have hrun : (execOp a.eval o).run P w = .ok (.value (.slice A' (n + m) c')) w' := by
    unfold execOp
    simp only [ho, resolve, invoke, builtin, Sem.run_bind, Sem.run_pure, Result.andThen_ok, List.map_toArray, List.map_cons, List.map_nil, hs, hx, hr]
  rw [hrun]
  exact h A' c' r' w' q1 q2 q3 q4

theorem rd_at {w : World} {ab ao n c : Nat} {bs : List Int} (h : Rd w (some ⟨ab, ao, none⟩) n c (B8 bs)) (lo : Nat) (hlo : lo < n) (hx : bs.length = n) : Rd w (some ⟨ab, ao + lo, none⟩) (n - lo) (c - lo) (B8 (bs.drop lo)) := by
  have h1 := h.sub lo (n - lo) (by omega)
  have hc := h.1
  rw [if_neg (by omega)] at h1
  have e : ((B8 bs).drop lo).take (n - lo) = B8 (bs.drop lo) := by
    rw [B8_drop]; exact List.take_of_length_le (by simp; omega)
  rw [e] at h1
  simpa [Addr.add_lit] using h1

set_option maxHeartbeats 4000000 in
theorem rparse_any (w : World) (A : Option Addr) (n c : Nat) (bs : List Int) (hx : bs.length = n) (hrd : Rd w A n c (B8 bs)) (hby : IsB bs) (hn : n ≤ 100000) :
    Calls Try.prog 30 #[.slice A n c] w (ParseP w 50 (parseQ bs)) := by
  obtain ⟨i0, hi, hz0, hz1, hz2⟩ := info_parts i_rhave
  have hnc : n ≤ c ∧ c ≤ 9223372036854775807 := ⟨hrd.1, by have := hrd.2.1; simpa [maxLen] using this⟩
  have hk0 := (Kp.refl w (fun _ => False)).alloc (.cells #[.int .u32 0, .slice none 0 0] 44)
  have hb0 := Blk.new w #[.int .u32 0, .slice none 0 0] 44
  have d0 := hb0.cell' 0 rfl
  have d1 := hb0.cell' 1 rfl
  have hxV := V.mk hx
  clear hx
  by_cases h5 : n < 5
  · have eR : V (parseQ bs = (0, [], 4)) := ⟨by unfold parseQ; rw [if_pos (.inl (by rw [hxV.out]; omega))]⟩
    have ht : decide (n < 5) = true := by simpa using h5
    go_enter Try.func30, Try.ntmps30
    go_wp2
    exact bodyPost_ret (v := .tuple #[.agg #[.int .u32 0, .slice none 0 0], .int .i64 4]) (by simp [results, Try.results30, go_sem, d0, d1]) rfl (by rw [eR.out]; exact ⟨none, 0, 0, none, rfl, rfl, Row.nil _ _ _, New.none _, (Kp.refl w _).alloc _⟩)
  · have hrd1 := hrd.kp hk0 (fun _ _ _ h => h)
    obtain ⟨ab, ao, rfl, hcs⟩ := hrd1.base (by omega) (by simp [hxV.out]; omega)
    have hm := hby (bs.getD 4 0) (by rw [List.getD_eq_getElem?_getD, List.getElem?_eq_getElem (by rw [hxV.out]; omega)]; exact List.getElem_mem _)
    obtain ⟨m, hm'⟩ : ∃ m : Nat, bs.getD 4 0 = m := ⟨(bs.getD 4 0).toNat, by omega⟩
    rw [hm'] at hm
    have x4 : (w.alloc (.cells #[.int .u32 0, .slice none 0 0] 44)).cell? ⟨ab, ao + 4, none⟩ = some (.int .u8 m) := hcs 4 _ (by
      rw [← hm']
      simp [B8, show 4 < bs.length by rw [hxV.out]; omega])
    have hmV := V.mk hm'
    have ht : decide (n < 5) = false := by simpa using h5
    clear hcs hm'
    by_cases hs : n < 5 + 13 * m
    · have eR : V (parseQ bs = (0, [], 4)) := ⟨by unfold parseQ; rw [if_pos (.inr (by rw [hxV.out, hmV.out]; omega))]⟩
      have ht2 : decide ((n : Int) < 5 + 13 * (m : Int)) = true := by simp; omega
      go_enter Try.func30, Try.ntmps30
      go_wp2
      exact bodyPost_ret (v := .tuple #[.agg #[.int .u32 0, .slice none 0 0], .int .i64 4]) (by simp [results, Try.results30, go_sem, d0, d1]) rfl (by rw [eR.out]; exact ⟨none, 0, 0, none, rfl, rfl, Row.nil _ _ _, New.none _, (Kp.refl w _).alloc _⟩)
    · have ht2 : decide ((n : Int) < 5 + 13 * (m : Int)) = false := by simp; omega
      have hnum := V.mk (rnum_any _ _ n c bs hxV.out hrd1 hby (by omega))
      have hnb := numB_bound (bs.take 4) (fun c hc => hby c (List.mem_of_mem_take hc))
      rw [List.length_take, show min 4 bs.length = 4 by rw [hxV.out]; omega] at hnb
      obtain ⟨next, hnx⟩ : ∃ k : Nat, numB (bs.take 4) = k := ⟨(numB (bs.take 4)).toNat, by omega⟩
      rw [hnx] at hnb hnum
      have hnl : next < 4294967296 := by have := hnb.2; omega
      have hnxV := V.mk hnx
      clear hnx hnb
      obtain ⟨wa, hW⟩ : ∃ wa, w.alloc (.cells #[.int .u32 0, .slice none 0 0] 44) = wa := ⟨_, rfl⟩
      have hWV := V.mk hW
      clear hW
      go_enter Try.func30, Try.ntmps30
      go_wp2_with fail
      refine hnum.out.mono ?_
      rintro e x ⟨rfl, rfl⟩
      rw [hWV.out] at hk0 hb0 d0 d1 x4 hrd1 hnum ⊢
      have hb2 := hb0.alloc (.cells #[.int .u32 next, .slice none 0 0] 44)
      have g0 := hb2.free 0
      have g1 := hb2.free 1
      have s0 := hb2.cell' 0 rfl
      have s1 := hb2.cell' 1 rfl
      have x4' := (hrd1.alloc (.cells #[.int .u32 next, .slice none 0 0] 44))
      have x42 : (wa.alloc (.cells #[.int .u32 next, .slice none 0 0] 44)).cell? ⟨ab, ao + 4, none⟩ = some (.int .u8 m) := ((Kp.refl wa (fun _ => False)).alloc (.cells #[.int .u32 next, .slice none 0 0] 44)).cell x4 (fun h => h)
      clear d0 d1
      by_cases hg : 5 + 13 * m < n
      · have eR : V (parseQ bs = (0, [], 5)) := ⟨by unfold parseQ; rw [hxV.out, hmV.out, if_neg (by omega), if_pos (by omega)]⟩
        have ht3 : decide ((n : Int) > 5 + 13 * (m : Int)) = true := by simp; omega
        have hfin := ((hb2).set 0 (.int .u32 0)).set 1 (.slice none 0 0)
        have d0 := hfin.cell' 0 rfl
        have d1 := hfin.cell' 1 rfl
        have kf := (((hk0.alloc (.cells #[.int .u32 next, .slice none 0 0] 44))).set w.heap.size 0 (.int .u32 0) (.inr (Nat.le_refl _))).set w.heap.size 1 (.slice none 0 0) (.inr (Nat.le_refl _))
        go_wp2
        exact bodyPost_ret (v := .tuple #[.agg #[.int .u32 0, .slice none 0 0], .int .i64 5]) (by simp [results, Try.results30, go_sem, d0, d1]) rfl (by rw [eR.out]; exact ⟨none, 0, 0, none, rfl, rfl, Row.nil _ _ _, New.none _, kf⟩)

      · have ht3 : decide ((n : Int) > 5 + 13 * (m : Int)) = false := by simp; omega
        obtain rfl : n = 5 + 13 * m := by omega
        have hw2b := Blk.new wa #[.int .u32 next, .slice none 0 0] 44
        have hk2 := hk0.alloc (.cells #[.int .u32 next, .slice none 0 0] 44)
        go_wp2
        obtain ⟨w2, hW2⟩ : ∃ w2, wa.alloc (.cells #[.int .u32 next, .slice none 0 0] 44) = w2 := ⟨_, rfl⟩
        rw [hW2] at hw2b hk2 hb2 x4' g0 g1 s0 s1 ⊢
        have hbw : w.heap.size ≠ wa.heap.size := by have := hb0.lt; omega
        have hws : w.heap.size ≤ wa.heap.size := hk0.size
        have hbl2 := hw2b.lt
        have habw : ab < wa.heap.size := by
          have := World.block_lt_of_cell? wa _ x4
          simpa using this
        generalize wa.heap.size = Bw at *
        clear hW2 x4 x42 hrd1 hb0 hk0 hnum
        go_loopw [6, 7] (fun i _ wr => ∃ (k : Nat) (A1 : Option Addr) (c1 : Nat) (r1 : Option Nat), k ≤ m ∧ i = .int .i64 k ∧ Blk wr Bw #[.int .u32 next, .slice A1 k c1] 44 ∧
          Row wr 50 4 A1 k c1 (hvCells (itemsQ (bs.drop 5) k)) r1 ∧ New w2 r1 ∧ Kp w2 wr (fun j => j = Bw) ∧ V (oddsQ (bs.drop 5) k = false)) (fun i _ _ => m - (intOf i).toNat)
        case atStart => exact ⟨0, none, 0, none, Nat.zero_le _, rfl, hw2b, Row.nil _ _ _, New.none _, Kp.refl _ _, ⟨rfl⟩⟩
        case round =>
          obtain ⟨k, A1, c1, r1, hk', rfl, hbw1, hrow, hnew, hkr, hodd⟩ := hrel
          have hbr := Blk.kp hb2 hkr (by omega)
          have g0 := hbr.free 0
          have g1 := hbr.free 1
          have s0 := hbr.cell' 0 rfl
          have s1 := hbr.cell' 1 rfl
          by_cases hgo : k < m
          · have hrr := x4'.kp hkr (fun ad h1 _ h2 => by simp only [Option.some.injEq] at h1; subst h1; simp only at h2; omega)
            have hlo : 5 + 13 * k < 5 + 13 * m := by omega
            have rd0 := rd_at hrr (5 + 13 * k) hlo hxV.out
            have hl13 : 13 ≤ 5 + 13 * m - (5 + 13 * k) := by omega
            have hlen0 : (bs.drop (5 + 13 * k)).length = 5 + 13 * m - (5 + 13 * k) := by rw [List.length_drop, hxV.out]
            have rd4 := rd_at rd0 4 (by omega) hlen0
            have rd8 := rd_at rd0 8 (by omega) hlen0
            have hy0 := hby (bs.getD (5 + 13 * k + 12) 0) (by rw [List.getD_eq_getElem?_getD, List.getElem?_eq_getElem (by rw [hxV.out]; omega)]; exact List.getElem_mem _)
            have hodd1 : oddQ ((bs.drop 5).drop (13 * k)) = decide (bs.getD (5 + 13 * k + 12) 0 > 1) := by
              unfold oddQ
              rw [List.drop_drop, List.getD_eq_getElem?_getD, List.getElem?_drop, List.getD_eq_getElem?_getD]
            have hrec : recQ ((bs.drop 5).drop (13 * k)) = ⟨numB ((bs.drop (5 + 13 * k)).take 4), numB (((bs.drop (5 + 13 * k)).drop 4).take 4), numB (((bs.drop (5 + 13 * k)).drop 8).take 4), bs.getD (5 + 13 * k + 12) 0 == 1⟩ := by
              unfold recQ
              rw [List.drop_drop, List.getD_eq_getElem?_getD (l := bs.drop (5 + 13 * k)), List.getElem?_drop, ← List.getD_eq_getElem?_getD]
            have xy : wr.cell? ⟨ab, ao + (5 + 13 * k) + 12, none⟩ = some (.int .u8 (bs.getD (5 + 13 * k + 12) 0)) := by
              have hh := hrr.2.2.2 _ rfl (5 + 13 * k + 12) (.int .u8 (bs.getD (5 + 13 * k + 12) 0)) (by
                rw [B8, List.getElem?_map, List.getD_eq_getElem?_getD, List.getElem?_eq_getElem (by rw [hxV.out]; omega)]
                rfl)
              rwa [Addr.add_lit, ← Nat.add_assoc] at hh
            have hs1 := itemsQ_succ (bs.drop 5) k
            have hs2 := oddsQ_succ (bs.drop 5) k
            rw [hrec] at hs1
            rw [hodd1] at hs2
            have hby0 : IsB (bs.drop (5 + 13 * k)) := fun x hx => hby x (List.mem_of_mem_drop hx)
            generalize bs.getD (5 + 13 * k + 12) 0 = y at *
            have hs1V := V.mk hs1
            have hs2V := V.mk hs2
            have hodV := V.mk hodd1
            have hid : (5 + 13 * (k : Int)).toNat = 5 + 13 * k := by omega
            have hid0 : (0 : Int) ≤ 5 + 13 * (k : Int) := by omega
            clear hs1 hs2 hodd1 hrec
            by_cases hy : 1 < y
            · have eR : V (parseQ bs = (0, [], 5)) := ⟨by
                unfold parseQ
                rw [hxV.out, hmV.out, if_neg (by omega), if_neg (by omega), if_pos (.inl (oddsQ_true (k := k) (by omega) (by rw [hodV.out]; simpa using hy)))]⟩
              have hy1 : decide (y > 1) = true := by simpa using hy
              have hkf : Kp w wr (fun _ => False) := hk2.trans hkr (fun j e => .inr (by omega))
              have hfin := ((hbr).set 0 (.int .u32 0)).set 1 (.slice none 0 0)
              have d0 := hfin.cell' 0 rfl
              have d1 := hfin.cell' 1 rfl
              have kf := ((hkf).set w.heap.size 0 (.int .u32 0) (.inr (Nat.le_refl _))).set w.heap.size 1 (.slice none 0 0) (.inr (Nat.le_refl _))
              go_wp2
              exact bodyPost_ret (v := .tuple #[.agg #[.int .u32 0, .slice none 0 0], .int .i64 5]) (by simp [results, Try.results30, go_sem, d0, d1]) rfl (by rw [eR.out]; exact ⟨none, 0, 0, none, rfl, rfl, Row.nil _ _ _, New.none _, kf⟩)
            · have hy1 : decide (y > 1) = false := by simpa using hy
              have w1 := hbw1.cell' 1 rfl
              obtain ⟨b, hb⟩ : ∃ b, (y == (1 : Int)) = b := ⟨_, rfl⟩
              rw [hb] at hs1V
              have r0V := V.mk (rnum_any wr.drew _ _ _ _ hlen0 rd0.drew hby0 (by omega))
              have r4V := V.mk (rnum_any wr.drew _ _ _ ((bs.drop (5 + 13 * k)).drop 4) (by rw [List.length_drop, hlen0]) rd4.drew (fun x hx => hby0 x (List.mem_of_mem_drop hx)) (by omega))
              have r8V := V.mk (rnum_any wr.drew _ _ _ ((bs.drop (5 + 13 * k)).drop 8) (by rw [List.length_drop, hlen0]) rd8.drew (fun x hx => hby0 x (List.mem_of_mem_drop hx)) (by omega))
              obtain ⟨v1, hv1⟩ : ∃ v, numB ((bs.drop (5 + 13 * k)).take 4) = v := ⟨_, rfl⟩
              obtain ⟨v2, hv2⟩ : ∃ v, numB (((bs.drop (5 + 13 * k)).drop 4).take 4) = v := ⟨_, rfl⟩
              obtain ⟨v3, hv3⟩ : ∃ v, numB (((bs.drop (5 + 13 * k)).drop 8).take 4) = v := ⟨_, rfl⟩
              rw [hv1] at r0V
              rw [hv2] at r4V
              rw [hv3] at r8V
              rw [hv1, hv2, hv3] at hs1V
              clear hv1 hv2 hv3 rd0 rd4 rd8 hrr hlen0
              have hcc : 5 + 13 * m - (5 + 13 * k) ≤ c - (5 + 13 * k) := by have := hnc.1; omega
              obtain ⟨N1, hN1⟩ : ∃ N1, 5 + 13 * m - (5 + 13 * k) = N1 := ⟨_, rfl⟩
              obtain ⟨C1, hC1⟩ : ∃ C1, c - (5 + 13 * k) = C1 := ⟨_, rfl⟩
              rw [hN1, hC1] at r0V r4V r8V hcc
              rw [hN1] at hl13
              have i1 : (4 : Int) ≤ (N1 : Int) := by omega
              have i2 : (8 : Int) ≤ (N1 : Int) := by omega
              have i3 : (12 : Int) < (N1 : Int) := by omega
              have i4 : (N1 : Int) ≤ (C1 : Int) := by omega
              have i5 : ¬ C1 = 4 := by omega
              have i6 : ¬ C1 = 8 := by omega
              have hne : r1 ≠ some Bw := hrow.ne_type hbw1 (by decide)
              have hbwa := V.mk (Blk.drew (hbw1.alloc (.cells #[.int .u32 v1, .int .u32 v2, .int .u32 v3, .bool b] 50)))
              have xya := V.mk (((Kp.refl wr (fun _ => False)).alloc (.cells #[.int .u32 v1, .int .u32 v2, .int .u32 v3, .bool b] 50)).drew.cell xy (fun h => h))
              have habn : ab ≠ Bw := by omega
              have hnr : ∀ j, r1 = some j → ab ≠ j := fun j e => by have := hnew j e; omega
              have hkm : k + 1 ≤ maxLen := by simp only [maxLen]; omega
              have hrow' := V.mk ((hrow.alloc (.cells #[.int .u32 v1, .int .u32 v2, .int .u32 v3, .bool b] 50)).drew)
              have eL : V (hvCells (itemsQ (bs.drop 5) k) ++ [.int .u32 v1, .int .u32 v2, .int .u32 v3, .bool b] = hvCells (itemsQ (bs.drop 5) (k + 1))) := ⟨by rw [hs1V.out]; simp [hvCells, Hv.cells]⟩
              go_wp2
              refine wp_region_E (fun W => W.cell? ⟨ab, ao + (5 + 13 * k) + 12, none⟩ = some (.int .u8 y) ∧ W.cell? ⟨Bw, 1, none⟩ = some (.slice A1 k c1)) [16, 18] (by kernel_rfl) ⟨xy, w1⟩ (fun hHeld => ?_)
              refine wpAnyE_take (i := 0) (oi := ⟨some 52, _, _, _, _, _⟩) (v := ?_) rfl (by kernel_rfl) (by kernel_rfl) (by kernel_rfl) (fun _ _ _ h => h) (Or.inl ⟨by rfl, ?_⟩) ?_
              rotate_left
              · intro W' _; go_simp <;> with_reducible rfl
              try simp only [Act.put, List.setIfInBounds_toArray, List.set_cons_zero, List.set_cons_succ]
              refine wpAnyE_load [16,18] (i := 1) (oi := ⟨some 53, _, _, _, _, _⟩) (v := ?_) rfl (by kernel_rfl) (by kernel_rfl) (by kernel_rfl) (by kernel_rfl) (by kernel_rfl) (by kernel_rfl) (fun _ _ _ h => h) (Or.inl ⟨by rfl, ?_⟩) hHeld ?_
              rotate_left
              · intro W' hSw; (try dsimp only at hSw); go_simp <;> with_reducible rfl
              try simp only [Act.put, List.setIfInBounds_toArray, List.set_cons_zero, List.set_cons_succ]
              refine wpAnyE_take (i := 2) (oi := ⟨some 54, _, _, _, _, _⟩) (v := ?_) rfl (by kernel_rfl) (by kernel_rfl) (by kernel_rfl) (fun _ _ _ h => h) (Or.inl ⟨by rfl, ?_⟩) ?_
              rotate_left
              · intro W' _; go_simp <;> with_reducible rfl
              try simp only [Act.put, List.setIfInBounds_toArray, List.set_cons_zero, List.set_cons_succ]
              refine wpAnyE_take (i := 4) (oi := ⟨some 56, _, _, _, _, _⟩) (v := ?_) rfl (by kernel_rfl) (by kernel_rfl) (by kernel_rfl) (fun _ _ _ h => h) (Or.inl ⟨by rfl, ?_⟩) ?_
              rotate_left
              · intro W' _; go_simp <;> with_reducible rfl
              try simp only [Act.put, List.setIfInBounds_toArray, List.set_cons_zero, List.set_cons_succ]
              refine wpAnyE_take (i := 5) (oi := ⟨some 57, _, _, _, _, _⟩) (v := ?_) rfl (by kernel_rfl) (by kernel_rfl) (by kernel_rfl) (fun _ _ _ h => h) (Or.inl ⟨by rfl, ?_⟩) ?_
              rotate_left
              · intro W' _; go_simp <;> with_reducible rfl
              try simp only [Act.put, List.setIfInBounds_toArray, List.set_cons_zero, List.set_cons_succ]
              refine wpAnyE_take (i := 7) (oi := ⟨some 59, _, _, _, _, _⟩) (v := ?_) rfl (by kernel_rfl) (by kernel_rfl) (by kernel_rfl) (fun _ _ _ h => h) (Or.inl ⟨by rfl, ?_⟩) ?_
              rotate_left
              · intro W' _; go_simp <;> with_reducible rfl
              try simp only [Act.put, List.setIfInBounds_toArray, List.set_cons_zero, List.set_cons_succ]
              refine wpAnyE_take (i := 8) (oi := ⟨some 60, _, _, _, _, _⟩) (v := ?_) rfl (by kernel_rfl) (by kernel_rfl) (by kernel_rfl) (fun _ _ _ h => h) (Or.inl ⟨by rfl, ?_⟩) ?_
              rotate_left
              · intro W' _; go_simp <;> with_reducible rfl
              try simp only [Act.put, List.setIfInBounds_toArray, List.set_cons_zero, List.set_cons_succ]
              refine wpAnyE_take (i := 10) (oi := ⟨some 62, _, _, _, _, _⟩) (v := ?_) rfl (by kernel_rfl) (by kernel_rfl) (by kernel_rfl) (fun _ _ _ h => h) (Or.inl ⟨by rfl, ?_⟩) ?_
              rotate_left
              · intro W' _; go_simp <;> with_reducible rfl
              try simp only [Act.put, List.setIfInBounds_toArray, List.set_cons_zero, List.set_cons_succ]
              refine wpAnyE_take (i := 11) (oi := ⟨some 63, _, _, _, _, _⟩) (v := ?_) rfl (by kernel_rfl) (by kernel_rfl) (by kernel_rfl) (fun _ _ _ h => h) (Or.inl ⟨by rfl, ?_⟩) ?_
              rotate_left
              · intro W' _; go_simp <;> with_reducible rfl
              try simp only [Act.put, List.setIfInBounds_toArray, List.set_cons_zero, List.set_cons_succ]
              refine wpAnyE_load [13,14,15,16,18] (i := 12) (oi := ⟨some 64, _, _, _, _, _⟩) (v := ?_) rfl (by kernel_rfl) (by kernel_rfl) (by kernel_rfl) (by kernel_rfl) (by kernel_rfl) (by kernel_rfl) (fun _ _ _ h => h) (Or.inl ⟨by rfl, ?_⟩) hHeld ?_
              rotate_left
              · intro W' hSw; (try dsimp only at hSw); go_simp <;> with_reducible rfl
              try simp only [Act.put, List.setIfInBounds_toArray, List.set_cons_zero, List.set_cons_succ]
              refine wpAnyE_take (i := 13) (oi := ⟨some 65, _, _, _, _, _⟩) (v := ?_) rfl (by kernel_rfl) (by kernel_rfl) (by kernel_rfl) (fun _ _ _ h => h) (Or.inl ⟨by rfl, ?_⟩) ?_
              rotate_left
              · intro W' _; go_simp <;> with_reducible rfl
              try simp only [Act.put, List.setIfInBounds_toArray, List.set_cons_zero, List.set_cons_succ]
              refine wpAnyE_step (i := 3) (by kernel_rfl) rfl (fun K hK => ?_)
              go_simp
              go_at_call 56
              refine r0V.out.mono ?_
              rintro e x ⟨rfl, rfl⟩
              go_simp
              refine hK.out _ _ (fun _ hHeld => ?_) ?_
              · (try dsimp only); first | exact hHeld | exact ⟨xya.out, hbwa.out.cell' 1 rfl⟩
              clear hK K
              try simp only [Act.put, List.setIfInBounds_toArray, List.set_cons_zero, List.set_cons_succ]
              refine wpAnyE_step (i := 6) (by kernel_rfl) rfl (fun K hK => ?_)
              go_simp
              go_at_call 56
              refine r4V.out.mono ?_
              rintro e x ⟨rfl, rfl⟩
              go_simp
              refine hK.out _ _ (fun _ hHeld => ?_) ?_
              · (try dsimp only); first | exact hHeld | exact ⟨xya.out, hbwa.out.cell' 1 rfl⟩
              clear hK K
              try simp only [Act.put, List.setIfInBounds_toArray, List.set_cons_zero, List.set_cons_succ]
              refine wpAnyE_step (i := 9) (by kernel_rfl) rfl (fun K hK => ?_)
              go_simp
              go_at_call 56
              refine r8V.out.mono ?_
              rintro e x ⟨rfl, rfl⟩
              go_simp
              refine hK.out _ _ (fun _ hHeld => ?_) ?_
              · (try dsimp only); first | exact hHeld | exact ⟨xya.out, hbwa.out.cell' 1 rfl⟩
              clear hK K
              try simp only [Act.put, List.setIfInBounds_toArray, List.set_cons_zero, List.set_cons_succ]
              refine wpAnyE_take (i := 14) (oi := ⟨some 66, _, _, _, _, _⟩) (v := ?_) rfl (by kernel_rfl) (by kernel_rfl) (by kernel_rfl) (fun _ _ _ h => h) (Or.inl ⟨by rfl, ?_⟩) ?_
              rotate_left
              · intro W' _; go_simp <;> with_reducible rfl
              try simp only [Act.put, List.setIfInBounds_toArray, List.set_cons_zero, List.set_cons_succ]
              refine wpAnyE_step (i := 15) (by kernel_rfl) rfl (fun K hK => ?_)
              go_simp
              refine hK.out _ _ (fun _ hHeld => ?_) ?_
              · (try dsimp only); first | exact hHeld | exact ⟨xya.out, hbwa.out.cell' 1 rfl⟩
              clear hK K
              try simp only [Act.put, List.setIfInBounds_toArray, List.set_cons_zero, List.set_cons_succ]
              refine wpAnyE_step (i := 16) (by kernel_rfl) rfl (fun K hK => ?_)
              refine step_app (by rfl) (.tmp 53) (.tmp 67) 42 rfl 50 i0 (.agg #[.int .u32 0, .int .u32 0, .int .u32 0, .bool false]) 4 16 u_rhaves hi hz0 hz1 hz2 rfl (by decide) A1 k c1 _ r1 (by rfl) hrow'.out _ 1 1 [.int .u32 v1, .int .u32 v2, .int .u32 v3, .bool b] (by rfl) (Rd.lit wr _ _ 1 _ (by simp [maxLen])) rfl (by simp [Value.oneCell']) (k + 1) rfl (by omega) hkm ?_
              intro A2 c2 r2 w5 hrow5 hkp5 hfr5 _
              have hb5 := Blk.kp hbwa.out hkp5 hne
              have t1 := hb5.cell' 1 rfl
              have t1f := hb5.free 1
              refine hK.out _ _ (fun h => by simp at h) ?_
              clear hK K
              try simp only [Act.put, List.setIfInBounds_toArray, List.set_cons_zero, List.set_cons_succ]
              refine wpAnyE_take (i := 17) (oi := ⟨some 69, _, _, _, _, _⟩) (v := ?_) rfl (by kernel_rfl) (by kernel_rfl) (by kernel_rfl) (fun _ _ _ h => h) (Or.inl ⟨by rfl, ?_⟩) ?_
              rotate_left
              · intro W' _; go_simp <;> with_reducible rfl
              try simp only [Act.put, List.setIfInBounds_toArray, List.set_cons_zero, List.set_cons_succ]
              refine wpAnyE_step (i := 18) (by kernel_rfl) rfl (fun K hK => ?_)
              go_simp
              refine hK.out _ _ (fun h => by simp at h) ?_
              clear hK K
              try simp only [Act.put, List.setIfInBounds_toArray, List.set_cons_zero, List.set_cons_succ]
              refine wpAnyE_done (by kernel_rfl) ?_ _
              have hkA := hkr.alloc (.cells #[.int .u32 v1, .int .u32 v2, .int .u32 v3, .bool b] 50)
              have hnew2 : New w2 r2 := hnew.fr hkA.size hfr5
              have hne2 : r2 ≠ some Bw := hrow5.ne_type hb5 (by decide)
              have hk2 : Kp w2 (w5.setCell ⟨Bw, 1, none⟩ (.slice A2 (k + 1) c2)) (fun j => j = Bw) := (hkA.drew.trans hkp5 (fun j hj => .inr (hnew j hj))).set _ _ _ (.inl rfl)
              have hb6 := hb5.set 1 (.slice A2 (k + 1) c2)
              rw [eL.out] at hrow5
              have hr6 := hrow5.far (p := ⟨Bw, 1, none⟩) hne2 (.slice A2 (k + 1) c2)
              have hod2 : V (oddsQ (bs.drop 5) (k + 1) = false) := ⟨by rw [hs2V.out, hodd.out]; simpa using hy⟩
              go_wp2
              go_roundw
              case rel => exact ⟨k + 1, A2, c2, r2, by omega, by go_num, hb6, hr6, hnew2, hk2, hod2⟩
              case measure => simp [intOf]; omega
          · obtain rfl : k = m := by omega
            have w0 := hbw1.cell' 0 rfl
            have w1 := hbw1.cell' 1 rfl
            have hm := V.mk (rmay_any wr next (by omega) (by omega) A1 k c1 _ (itemsQ_length _ _) hrow.rd (itemsQ_ok (fun x hx => hby x (List.mem_of_mem_drop hx)) _))
            go_wp2_with fail
            refine hm.out.mono ?_
            rintro e w8 ⟨rfl, hk8⟩
            have hb6 := Blk.kp hbr hk8 (fun h => h)
            have hbw8 := Blk.kp hbw1 hk8 (fun h => h)
            have hrow8 := hrow.kp hk8 (fun _ _ h => h)
            have hkf : Kp w w8 (fun _ => False) := (hk2.trans hkr (fun j e => .inr (by omega))).quiet hk8
            clear g0 g1 s0 s1 w0 w1 hm hbr hbw1
            have g0 := hb6.free 0
            have g1 := hb6.free 1
            have s0 := hb6.cell' 0 rfl
            have s1 := hb6.cell' 1 rfl
            have w0 := hbw8.cell' 0 rfl
            have w1 := hbw8.cell' 1 rfl
            by_cases hmay : may next (itemsQ (bs.drop 5) k) = true
            · have eR : V (parseQ bs = ((next : Int), itemsQ (bs.drop 5) k, 0)) := ⟨by
                unfold parseQ
                rw [hxV.out, hmV.out, if_neg (by omega), if_neg (by omega), hnxV.out, Int.toNat_natCast, if_neg (by rw [hodd.out, hmay]; simp)]⟩
              rw [hmay]
              clear hmay
              have hfin := (hb6.set 0 (.int .u32 next)).set 1 (.slice A1 k c1)
              have d0 := hfin.cell' 0 rfl
              have d1 := hfin.cell' 1 rfl
              have kf := (hkf.set w.heap.size 0 (.int .u32 next) (.inr (Nat.le_refl _))).set w.heap.size 1 (.slice A1 k c1) (.inr (Nat.le_refl _))
              have hne : r1 ≠ some w.heap.size := hrow8.ne_type hb6 (by decide)
              have hrf := (hrow8.far (p := ⟨w.heap.size, 0, none⟩) hne (.int .u32 next)).far (p := ⟨w.heap.size, 1, none⟩) hne (.slice A1 k c1)
              have hnw : New w r1 := hnew.mono hk2.size
              go_wp2
              exact bodyPost_ret (v := .tuple #[.agg #[.int .u32 next, .slice A1 k c1], .int .i64 0]) (by simp [results, Try.results30, go_sem, d0, d1]) rfl (by rw [eR.out]; exact ⟨A1, k, c1, r1, rfl, itemsQ_length _ _, hrf, hnw, kf⟩)
            · have hmay' : may next (itemsQ (bs.drop 5) k) = false := by simpa using hmay
              have eR : V (parseQ bs = (0, [], 5)) := ⟨by
                unfold parseQ
                rw [hxV.out, hmV.out, if_neg (by omega), if_neg (by omega), hnxV.out, Int.toNat_natCast, if_pos (.inr hmay')]⟩
              rw [hmay']
              clear hmay hmay'
              have hfin := (hb6.set 0 (.int .u32 0)).set 1 (.slice none 0 0)
              have d0 := hfin.cell' 0 rfl
              have d1 := hfin.cell' 1 rfl
              have kf := (hkf.set w.heap.size 0 (.int .u32 0) (.inr (Nat.le_refl _))).set w.heap.size 1 (.slice none 0 0) (.inr (Nat.le_refl _))
              go_wp2
              exact bodyPost_ret (v := .tuple #[.agg #[.int .u32 0, .slice none 0 0], .int .i64 5]) (by simp [results, Try.results30, go_sem, d0, d1]) rfl (by rw [eR.out]; exact ⟨none, 0, 0, none, rfl, rfl, Row.nil _ _ _, New.none _, kf⟩)

end Go.Proofs.Ytboambncimdfjaa
