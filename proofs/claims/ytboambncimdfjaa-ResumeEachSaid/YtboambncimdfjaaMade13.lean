/- longwirelaw13.made hands back what may be told. Condition: what is told reads as a list. -/
import Derived.Test.YtboambncimdfjaaOf13
set_option linter.unusedVariables false
set_option linter.unusedSimpArgs false
namespace Go.Proofs.Ytboambncimdfjaa
open Go.RowKit

theorem mayF_mono {a b : Int} (h : a ≤ b) : ∀ {l : List Hv} {least : Int}, mayF a least l = true → mayF b least l = true
  | [], _, _ => rfl
  | x :: l, least, hm => by
    simp only [mayF, Bool.and_eq_true, decide_eq_true_eq] at hm ⊢
    exact ⟨⟨hm.1.1, by omega⟩, mayF_mono h hm.2⟩
theorem mayF_last {n : Int} : ∀ {l : List Hv} {least : Int}, mayF n least l = true → ∀ x, l.getLast? = some x → x.id < n
  | [], _, _, x, h => by cases h
  | [y], _, hm, x, h => by
    simp only [List.getLast?_singleton, Option.some.injEq] at h
    subst h
    simp only [mayF, Bool.and_eq_true, decide_eq_true_eq] at hm
    exact hm.1.2
  | y :: z :: l, least, hm, x, h => by
    rw [List.getLast?_cons_cons] at h
    simp only [mayF, Bool.and_eq_true] at hm
    have h2 : mayF n (y.id + 1) (z :: l) = true := by
      simp only [mayF, Bool.and_eq_true]
      exact hm.2
    exact mayF_last h2 x h
theorem mayF_snoc {id : Int} {l : List Hv} (h1 : 1 ≤ id) (hm : mayF id 1 l = true) {x : Hv} (hx : x.id = id) : mayF (id + 1) 1 (l ++ [x]) = true := by
  rw [mayF_append, mayF_mono (by omega) hm, Bool.true_and]
  simp only [mayF, Bool.and_true, Bool.and_eq_true, decide_eq_true_eq]
  refine ⟨?_, by omega⟩
  cases hl : l.getLast? with
  | none => simp only; omega
  | some y => have := mayF_last hm y hl; simp only; omega

set_option maxRecDepth 100000 in
set_option maxHeartbeats 1000000 in
theorem made_any (w : World) (nb : Nat) (hnb : nb ≤ 255) (op : Nat) (hop : op < 18446744073709551616) (A : Option Addr) (n c : Nat) (l : List Hv) (hl : l.length = n) (hrd : Rd w A n c (hvCells l)) (hok : ∀ h ∈ l, h.ok) :
    Calls Try.prog 8 #[.int .u8 nb, .int .u64 op, .slice A n c] w fun e w' =>
      ∃ (next m : Nat) (L : List Hv), L.length = m ∧ next < 4294967296 ∧ may next L = true ∧ (∀ h ∈ L, h.ok) ∧ AskP w 35 next m L e w' := by
  obtain ⟨i0, hi, hz0, hz1, hz2⟩ := info_parts i_have
  have hnc : n ≤ c ∧ c ≤ 9223372036854775807 := ⟨hrd.1, by have := hrd.2.1; simpa [maxLen] using this⟩
  obtain ⟨nm, hnm⟩ : ∃ nm : Nat, nb % 60 = nm := ⟨_, rfl⟩
  have hnm60 : nm < 60 := by omega
  have ht1 : Int.tmod (nb : Int) 60 = (nm : Int) := by rw [Int.tmod_eq_emod_of_nonneg (by omega)]; omega
  go_enter Try.func8, Try.ntmps8
  go_wp2
  have hk := ((Kp.refl w (fun _ => False)).alloc (.cells #[.int .u32 0, .slice none 0 0] 26)).alloc (.cells #[.int .u32 (1 + (nm : Int)), .slice none 0 0] 26)
  have hb0 := (Blk.new w #[.int .u32 0, .slice none 0 0] 26).alloc (.cells #[.int .u32 (1 + (nm : Int)), .slice none 0 0] 26)
  have hb1 := Blk.new (w.alloc (.cells #[.int .u32 0, .slice none 0 0] 26)) #[.int .u32 (1 + (nm : Int)), .slice none 0 0] 26
  rw [World.size_alloc] at hb1
  obtain ⟨wa, hW⟩ : ∃ wa, (w.alloc (.cells #[.int .u32 0, .slice none 0 0] 26)).alloc (.cells #[.int .u32 (1 + (nm : Int)), .slice none 0 0] 26) = wa := ⟨_, rfl⟩
  rw [hW] at hk hb0 hb1 ⊢
  clear hW
  have hrd1 := hrd.kp hk (fun _ _ _ h => h)
  obtain ⟨B, hB⟩ : ∃ B, w.heap.size = B := ⟨_, rfl⟩
  rw [hB] at hb0 hb1 ⊢
  have hBV := V.mk hB
  have hlow : ∀ ad, A = some ad → hvCells l ≠ [] → ad.block < B := fun ad h1 h2 => by
    have h3 : 0 < (hvCells l).length := by
      rcases Nat.eq_zero_or_pos (hvCells l).length with q | q
      · exact absurd (List.eq_nil_of_length_eq_zero q) h2
      · exact q
    have := World.block_lt_of_cell? w _ (hrd.2.2.2 ad h1 0 _ (List.getElem?_eq_getElem h3))
    rw [← hB]
    rwa [add_block] at this
  clear hB
  go_loopw [8, 9] (fun i _ wr => ∃ (id k : Nat) (A1 : Option Addr) (c1 : Nat) (r1 : Option Nat) (L : List Hv), 1 ≤ id ∧ id ≤ 1 + nm ∧ i = .int .u32 id ∧ k ≤ 16 ∧ Blk wr (B + 1) #[.int .u32 (1 + (nm : Int)), .slice A1 k c1] 26 ∧
      Row wr 35 4 A1 k c1 (hvCells L) r1 ∧ L.length = k ∧ (∀ h ∈ L, h.ok) ∧ mayF id 1 L = true ∧ New wa r1 ∧ Kp wa wr (fun j => j = B + 1)) (fun i _ _ => 1 + nm - (intOf i).toNat)
  case atStart => exact ⟨1, 0, none, 0, none, [], Nat.le_refl _, by omega, rfl, Nat.zero_le _, hb1, Row.nil _ _ _, rfl, (fun h hh => by simp at hh), rfl, New.none _, Kp.refl _ _⟩
  case round =>
    obtain ⟨id, k, A1, c1, r1, L, hid1, hidn, rfl, hk16, hbw, hrow, hlL, hokL, hmay, hnew, hkr⟩ := hrel
    have w0 := hbw.cell' 0 rfl
    have w1 := hbw.cell' 1 rfl
    by_cases hgo : id < 1 + nm ∧ k < 16
    · have d1 : decide ((id : Int) < 1 + (nm : Int)) = true := by simp; omega
      have d2 : decide ((k : Int) < 16) = true := by simp; omega
      have d3 : decide (k < 16) = true := by simp; omega
      have hkm : k + 1 ≤ maxLen := by simp only [maxLen]; omega
      obtain ⟨bt, hbt⟩ : ∃ b, (bits BinOp.and IntKind.u64 ((op : Int) / 2 ^ id) 1 == 1) = b := ⟨_, rfl⟩
      cases bt with
      | false =>
        go_wp2
        go_roundw
        case rel => exact ⟨id + 1, k, A1, c1, r1, L, by omega, by omega, by go_num, hk16, hbw, hrow, hlL, hokL, mayF_mono (by omega) hmay, hnew, hkr⟩
        case measure => simp [intOf]; omega
      | true =>
        by_cases h0 : 0 < n
        · have d5 : decide (0 < n) = true := by simpa using h0
          obtain ⟨q, hq⟩ : ∃ q, id % n = q := ⟨_, rfl⟩
          have hqn : q < n := by rw [← hq]; exact Nat.mod_lt _ h0
          have d6 : Int.tmod (id : Int) (n : Int) = (q : Int) := by rw [Int.tmod_eq_emod_of_nonneg (by omega)]; omega
          have d7 : ¬ n = 0 := by omega
          have d8 : (q : Int) < (n : Int) := by omega
          have d9 : (0 : Int) ≤ (q : Int) := by omega
          have hrx := (hrd1.kp hkr (fun ad h1 h2 h3 => by have := hlow ad h1 h2; omega)).alloc (.cells #[.int .u32 0, .int .u32 0, .int .u32 0, .bool false] 35)
          obtain ⟨ab, ao, rfl, hcs⟩ := hrx.base (by omega) (by rw [hvCells_length]; omega)
          obtain ⟨x0, x1, x2, x3⟩ := hv_at hcs q (by omega)
          have hxok := hok (l[q]'(by omega)) (List.getElem_mem _)
          clear hcs hrx hq
          generalize l[q] = x at *
          have hbw' := hbw.alloc (.cells #[.int .u32 id, .int .u32 x.out, .int .u32 x.err, .bool x.st] 35)
          have w1' := hbw'.cell' 1 rfl
          go_wp2_with (at_builtin; refine wpList_app (by rfl) (.tmp 47) (.tmp 49) 23 rfl 35 i0 (.agg #[.int .u32 0, .int .u32 0, .int .u32 0, .bool false]) 4 16 u_haves hi hz0 hz1 hz2 rfl (by decide) A1 k c1 _ r1 (by rfl) ((hrow.alloc _).alloc _) _ 1 1 [.int .u32 id, .int .u32 x.out, .int .u32 x.err, .bool x.st] (by rfl) (Rd.lit2' _ _ _ _ 1 _ (by simp [maxLen])) rfl (by simp [Value.oneCell']) (k + 1) rfl (by omega) hkm ?_)
          intro A2 c2 r2 w2 hrow2 hkp2 hfr2 _
          have hne1 : r1 ≠ some (B + 1) := hrow.ne_type hbw (by decide)
          have hbw2 := Blk.kp (hbw'.alloc (.cells #[.int .u32 id, .int .u32 x.out, .int .u32 x.err, .bool x.st] 35)) hkp2 hne1
          have hka := (hkr.alloc (.cells #[.int .u32 id, .int .u32 x.out, .int .u32 x.err, .bool x.st] 35)).alloc (.cells #[.int .u32 id, .int .u32 x.out, .int .u32 x.err, .bool x.st] 35)
          have hnew2 : New wa r2 := hnew.fr hka.size hfr2
          have hne2 : r2 ≠ some (B + 1) := hrow2.ne_type hbw2 (by decide)
          have hk2 : Kp wa (w2.setCell ⟨B + 1, 1, none⟩ (.slice A2 (k + 1) c2)) (fun j => j = B + 1) := (hka.trans hkp2 (fun j hj => .inr (hnew j hj))).set _ _ _ (.inl rfl)
          have hb3 := hbw2.set 1 (.slice A2 (k + 1) c2)
          have e2 : hvCells L ++ [.int .u32 id, .int .u32 x.out, .int .u32 x.err, .bool x.st] = hvCells (L ++ [⟨id, x.out, x.err, x.st⟩]) := by rw [hvCells_append]; simp [hvCells, Hv.cells]
          rw [e2] at hrow2
          have hr3 := hrow2.far (p := ⟨B + 1, 1, none⟩) hne2 (.slice A2 (k + 1) c2)
          have t1 := hbw2.cell' 1 rfl
          have t2 := hbw2.free 1
          have hok3 : ∀ h ∈ L ++ [(⟨id, x.out, x.err, x.st⟩ : Hv)], h.ok := fun h hh => by
            rcases List.mem_append.1 hh with q | q
            · exact hokL h q
            · rw [List.mem_singleton] at q
              subst q
              exact ⟨by simp, by simp only; omega, hxok.o0, hxok.o1, hxok.e0, hxok.e1⟩
          have hmy : mayF ((id + 1 : Nat) : Int) 1 (L ++ [(⟨id, x.out, x.err, x.st⟩ : Hv)]) = true := by
            have := mayF_snoc (id := (id : Int)) (by omega) hmay (x := ⟨id, x.out, x.err, x.st⟩) rfl
            simpa using this
          clear e2 hrow hkp2 hfr2 hrow2 hbw' w1'
          go_wp2
          go_roundw
          case rel => exact ⟨id + 1, k + 1, A2, c2, r2, L ++ [⟨id, x.out, x.err, x.st⟩], by omega, by omega, by go_num, by omega, hb3, hr3, by simp [hlL], hok3, hmy, hnew2, hk2⟩
          case measure => simp [intOf]; omega
        · have d5 : decide (0 < n) = false := by simpa using h0
          have hbw' := hbw.alloc (.cells #[.int .u32 id, .int .u32 0, .int .u32 0, .bool false] 35)
          have w1' := hbw'.cell' 1 rfl
          go_wp2_with (at_builtin; refine wpList_app (by rfl) (.tmp 47) (.tmp 49) 23 rfl 35 i0 (.agg #[.int .u32 0, .int .u32 0, .int .u32 0, .bool false]) 4 16 u_haves hi hz0 hz1 hz2 rfl (by decide) A1 k c1 _ r1 (by rfl) ((hrow.alloc _).alloc _) _ 1 1 [.int .u32 id, .int .u32 0, .int .u32 0, .bool false] (by rfl) (Rd.lit2' _ _ _ _ 1 _ (by simp [maxLen])) rfl (by simp [Value.oneCell']) (k + 1) rfl (by omega) hkm ?_)
          intro A2 c2 r2 w2 hrow2 hkp2 hfr2 _
          have hne1 : r1 ≠ some (B + 1) := hrow.ne_type hbw (by decide)
          have hbw2 := Blk.kp (hbw'.alloc (.cells #[.int .u32 id, .int .u32 0, .int .u32 0, .bool false] 35)) hkp2 hne1
          have hka := (hkr.alloc (.cells #[.int .u32 id, .int .u32 0, .int .u32 0, .bool false] 35)).alloc (.cells #[.int .u32 id, .int .u32 0, .int .u32 0, .bool false] 35)
          have hnew2 : New wa r2 := hnew.fr hka.size hfr2
          have hne2 : r2 ≠ some (B + 1) := hrow2.ne_type hbw2 (by decide)
          have hk2 : Kp wa (w2.setCell ⟨B + 1, 1, none⟩ (.slice A2 (k + 1) c2)) (fun j => j = B + 1) := (hka.trans hkp2 (fun j hj => .inr (hnew j hj))).set _ _ _ (.inl rfl)
          have hb3 := hbw2.set 1 (.slice A2 (k + 1) c2)
          have e2 : hvCells L ++ [.int .u32 id, .int .u32 0, .int .u32 0, .bool false] = hvCells (L ++ [⟨id, 0, 0, false⟩]) := by rw [hvCells_append]; simp [hvCells, Hv.cells]
          rw [e2] at hrow2
          have hr3 := hrow2.far (p := ⟨B + 1, 1, none⟩) hne2 (.slice A2 (k + 1) c2)
          have t1 := hbw2.cell' 1 rfl
          have t2 := hbw2.free 1
          have hok3 : ∀ h ∈ L ++ [(⟨id, 0, 0, false⟩ : Hv)], h.ok := fun h hh => by
            rcases List.mem_append.1 hh with q | q
            · exact hokL h q
            · rw [List.mem_singleton] at q
              subst q
              exact ⟨by simp, by simp only; omega, by simp, by simp, by simp, by simp⟩
          have hmy : mayF ((id + 1 : Nat) : Int) 1 (L ++ [(⟨id, 0, 0, false⟩ : Hv)]) = true := by
            have := mayF_snoc (id := (id : Int)) (by omega) hmay (x := ⟨id, 0, 0, false⟩) rfl
            simpa using this
          clear e2 hrow hkp2 hfr2 hrow2 hbw' w1'
          go_wp2
          go_roundw
          case rel => exact ⟨id + 1, k + 1, A2, c2, r2, L ++ [⟨id, 0, 0, false⟩], by omega, by omega, by go_num, by omega, hb3, hr3, by simp [hlL], hok3, hmy, hnew2, hk2⟩
          case measure => simp [intOf]; omega
    · by_cases h1 : id < 1 + nm
      · have d1 : decide ((id : Int) < 1 + (nm : Int)) = true := by simp; omega
        have d2 : decide ((k : Int) < 16) = false := by simp; omega
        have d3 : decide (k < 16) = false := by simp; omega
        have hr1 := Blk.kp hb0 hkr (by omega)
        have s0 := hr1.cell' 0 rfl
        have s1 := hr1.cell' 1 rfl
        have f0 := hr1.free 0
        have f1 := hr1.free 1
        have hne : r1 ≠ some B := hrow.ne_type hr1 (by decide)
        have hfin := ((hr1.set 0 (.int .u32 (1 + (nm : Int)))).set 1 (.slice A1 k c1))
        have t0 := hfin.cell' 0 rfl
        have t1 := hfin.cell' 1 rfl
        have hrf := (hrow.far (p := ⟨B, 0, none⟩) hne (.int .u32 (1 + (nm : Int)))).far (p := ⟨B, 1, none⟩) hne (.slice A1 k c1)
        have kf : Kp w ((wr.setCell ⟨B, 0, none⟩ (.int .u32 (1 + (nm : Int)))).setCell ⟨B, 1, none⟩ (.slice A1 k c1)) (fun _ => False) :=
          ((hk.trans hkr (fun j hj => .inr (by rw [hBV.out]; omega))).set _ _ _ (.inr (by rw [hBV.out]; omega))).set _ _ _ (.inr (by rw [hBV.out]; omega))
        have hnf : New w r1 := New.mono (w1 := wa) hnew hk.size
        have hmm : may ((1 + nm : Nat) : Int) L = true := by
          unfold may
          rw [mayF_mono (by omega) hmay]
          simp only [Bool.true_and, Bool.and_eq_true, decide_eq_true_eq]
          exact ⟨by omega, by omega⟩
        go_wp2
        exact bodyPost_ret (v := .agg #[.int .u32 (1 + (nm : Int)), .slice A1 k c1]) (by simp [results, Try.results8, go_sem, t0, t1]) rfl ⟨1 + nm, k, L, hlL, by omega, hmm, hokL, A1, c1, r1, rfl, hrf, hnf, kf⟩
      · have d1 : decide ((id : Int) < 1 + (nm : Int)) = false := by simp; omega
        have hr1 := Blk.kp hb0 hkr (by omega)
        have s0 := hr1.cell' 0 rfl
        have s1 := hr1.cell' 1 rfl
        have f0 := hr1.free 0
        have f1 := hr1.free 1
        have hne : r1 ≠ some B := hrow.ne_type hr1 (by decide)
        have hfin := ((hr1.set 0 (.int .u32 (1 + (nm : Int)))).set 1 (.slice A1 k c1))
        have t0 := hfin.cell' 0 rfl
        have t1 := hfin.cell' 1 rfl
        have hrf := (hrow.far (p := ⟨B, 0, none⟩) hne (.int .u32 (1 + (nm : Int)))).far (p := ⟨B, 1, none⟩) hne (.slice A1 k c1)
        have kf : Kp w ((wr.setCell ⟨B, 0, none⟩ (.int .u32 (1 + (nm : Int)))).setCell ⟨B, 1, none⟩ (.slice A1 k c1)) (fun _ => False) :=
          ((hk.trans hkr (fun j hj => .inr (by rw [hBV.out]; omega))).set _ _ _ (.inr (by rw [hBV.out]; omega))).set _ _ _ (.inr (by rw [hBV.out]; omega))
        have hnf : New w r1 := New.mono (w1 := wa) hnew hk.size
        have hmm : may ((1 + nm : Nat) : Int) L = true := by
          unfold may
          rw [mayF_mono (by omega) hmay]
          simp only [Bool.true_and, Bool.and_eq_true, decide_eq_true_eq]
          exact ⟨by omega, by omega⟩
        go_wp2
        exact bodyPost_ret (v := .agg #[.int .u32 (1 + (nm : Int)), .slice A1 k c1]) (by simp [results, Try.results8, go_sem, t0, t1]) rfl ⟨1 + nm, k, L, hlL, by omega, hmm, hokL, A1, c1, r1, rfl, hrf, hnf, kf⟩

end Go.Proofs.Ytboambncimdfjaa
