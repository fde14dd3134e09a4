/- longwirelaw13.of: what is told as the document's own has it. Condition: what is told reads as a list. -/
import Derived.Test.YtboambncimdfjaaFew13
set_option linter.unusedVariables false
set_option linter.unusedSimpArgs false
namespace Go.Proofs.Ytboambncimdfjaa
open Go.RowKit

theorem Rd.lit2' (w : World) (o : Obj) (e : TypeId) (fr : Nat × Nat) (n : Nat) (cs : List Value) (hn : n ≤ maxLen) : Rd ((w.alloc o).alloc (.cells cs.toArray e fr)) (some ⟨w.heap.size + 1, 0, none⟩) n n cs := by
  have := Rd.lit (w.alloc o) e fr n cs hn
  rwa [World.size_alloc] at this

set_option maxRecDepth 100000 in
set_option maxHeartbeats 2000000 in
theorem of_any (w : World) (next : Int) (A : Option Addr) (n c : Nat) (l : List Hv) (hl : l.length = n) (hrd : Rd w A n c (hvCells l)) (hn : n ≤ 100000) :
    Calls Try.prog 18 #[.agg #[.int .u32 next, .slice A n c]] w (AskP w 50 next n l) := by
  obtain ⟨i0, hi, hz0, hz1, hz2⟩ := info_parts i_rhave
  have hnc : n ≤ c ∧ c ≤ 9223372036854775807 := ⟨hrd.1, by have := hrd.2.1; simpa [maxLen] using this⟩
  have k1 := ((Kp.refl w (fun _ => False)).alloc (.cells #[.int .u32 next, .slice A n c] 26)).alloc (.cells #[.int .u32 0, .slice none 0 0] 44)
  have hk := k1.alloc (.cells #[.int .u32 next, .slice none 0 0] 44)
  have ha := ((Blk.new w #[.int .u32 next, .slice A n c] 26).alloc (.cells #[.int .u32 0, .slice none 0 0] 44)).alloc (.cells #[.int .u32 next, .slice none 0 0] 44)
  have hr := (Blk.new (w.alloc (.cells #[.int .u32 next, .slice A n c] 26)) #[.int .u32 0, .slice none 0 0] 44).alloc (.cells #[.int .u32 next, .slice none 0 0] 44)
  have hw := Blk.new ((w.alloc (.cells #[.int .u32 next, .slice A n c] 26)).alloc (.cells #[.int .u32 0, .slice none 0 0] 44)) #[.int .u32 next, .slice none 0 0] 44
  simp only [World.size_alloc] at hr hw
  have q0 := ((Blk.new w #[.int .u32 next, .slice A n c] 26).alloc (.cells #[.int .u32 0, .slice none 0 0] 44)).cell' 0 rfl
  obtain ⟨wa, hW⟩ : ∃ wa, ((w.alloc (.cells #[.int .u32 next, .slice A n c] 26)).alloc (.cells #[.int .u32 0, .slice none 0 0] 44)).alloc (.cells #[.int .u32 next, .slice none 0 0] 44) = wa := ⟨_, rfl⟩
  rw [hW] at hk ha hr hw
  have hWV := V.mk hW
  clear hW k1
  have q1 := ha.cell' 1 rfl
  go_enter Try.func18, Try.ntmps18
  go_wp2
  rw [hWV.out]
  have hrdw := hrd.kp hk (fun _ _ _ h => h)
  have hza := hw.lt
  go_loopw [5, 12] (fun _ i wr => ∃ (k : Nat) (A1 : Option Addr) (c1 : Nat) (r1 : Option Nat), k ≤ n ∧ i = .int .i64 k ∧ Blk wr (w.heap.size + 1 + 1) #[.int .u32 next, .slice A1 k c1] 44 ∧
      Row wr 50 4 A1 k c1 (hvCells (l.take k)) r1 ∧ New wa r1 ∧ Kp wa wr (fun j => j = w.heap.size + 1 + 1)) (fun _ i _ => n - (intOf i).toNat)
  case atStart => exact ⟨0, none, 0, none, Nat.zero_le _, rfl, hw, Row.nil _ _ _, New.none _, Kp.refl _ _⟩
  case round =>
    obtain ⟨k, A1, c1, r1, hk', rfl, hbw, hrow, hnew, hkr⟩ := hrel
    by_cases hgo : k < n
    · have hrk := hrdw.kp hkr
      obtain ⟨ab, ao, rfl, hcs⟩ := hrdw.base (by omega) (by rw [hvCells_length]; omega)
      have hab : ab ≠ w.heap.size + 1 + 1 := by
        obtain ⟨y0, _⟩ := hv_at hcs k (by omega)
        rintro rfl
        have hlt := World.block_lt_of_cell? wa _ y0
        have hge : w.heap.size ≤ w.heap.size + 1 + 1 := by omega
        obtain ⟨bb, oo, he, hcw⟩ := hrd.base (by omega) (by rw [hvCells_length]; omega)
        simp only [Option.some.injEq, Addr.mk.injEq, and_true] at he
        obtain ⟨y1, _⟩ := hv_at hcw k (by omega)
        have := World.block_lt_of_cell? w _ y1
        simp only at this
        omega
      obtain ⟨bb, oo, he, hcs2⟩ := (hrk (fun ad h1 _ h2 => by simp only [Option.some.injEq] at h1; subst h1; exact hab h2)).base (by omega) (by rw [hvCells_length]; omega)
      simp only [Option.some.injEq, Addr.mk.injEq, and_true] at he
      obtain ⟨rfl, rfl⟩ := he
      obtain ⟨x0, x1, x2, x3⟩ := hv_at hcs2 k (by omega)
      have hts := V.mk (List.take_succ_eq_append_getElem (show k < l.length by omega))
      have hbw' := hbw.alloc (.cells #[.int .u32 l[k].id, .int .u32 l[k].out, .int .u32 l[k].err, .bool l[k].st] 35)
      have w1 := hbw'.cell' 1 rfl
      have hkm : k + 1 ≤ maxLen := by simp only [maxLen]; omega
      clear hcs hcs2 hrk
      generalize l[k] = x at *
      go_wp2_with (at_builtin; refine wpList_app (by rfl) (.tmp 17) (.tmp 19) 42 rfl 50 i0 (.agg #[.int .u32 0, .int .u32 0, .int .u32 0, .bool false]) 4 16 u_rhaves hi hz0 hz1 hz2 rfl (by decide) A1 k c1 _ r1 (by rfl) ((hrow.alloc _).alloc _) _ 1 1 [.int .u32 x.id, .int .u32 x.out, .int .u32 x.err, .bool x.st] (by rfl) (Rd.lit2' _ _ _ _ 1 _ (by simp [maxLen])) rfl (by simp [Value.oneCell']) (k + 1) rfl (by omega) hkm ?_)
      intro A2 c2 r2 w2 hrow2 hkp2 hfr2 _
      have hne1 : r1 ≠ some (w.heap.size + 1 + 1) := hrow.ne_type hbw (by decide)
      have hbw2 := Blk.kp (hbw'.alloc (.cells #[.int .u32 x.id, .int .u32 x.out, .int .u32 x.err, .bool x.st] 50)) hkp2 hne1
      have hka := (hkr.alloc (.cells #[.int .u32 x.id, .int .u32 x.out, .int .u32 x.err, .bool x.st] 35)).alloc (.cells #[.int .u32 x.id, .int .u32 x.out, .int .u32 x.err, .bool x.st] 50)
      have hnew2 : New wa r2 := hnew.fr hka.size hfr2
      have hne2 : r2 ≠ some (w.heap.size + 1 + 1) := hrow2.ne_type hbw2 (by decide)
      have hk2 : Kp wa (w2.setCell ⟨w.heap.size + 1 + 1, 1, none⟩ (.slice A2 (k + 1) c2)) (fun j => j = w.heap.size + 1 + 1) := (hka.trans hkp2 (fun j hj => .inr (hnew j hj))).set _ _ _ (.inl rfl)
      have hb3 := hbw2.set 1 (.slice A2 (k + 1) c2)
      have e2 : hvCells (l.take k) ++ [.int .u32 x.id, .int .u32 x.out, .int .u32 x.err, .bool x.st] = hvCells (l.take (k + 1)) := by rw [hts.out, hvCells_append]; simp [hvCells, Hv.cells]
      rw [e2] at hrow2
      have hr3 := hrow2.far (p := ⟨w.heap.size + 1 + 1, 1, none⟩) hne2 (.slice A2 (k + 1) c2)
      have t1 := hbw2.cell' 1 rfl
      have t2 := hbw2.free 1
      clear e2 hrow hkp2 hfr2 x0 x1 x2 x3 hrow2 hbw' w1
      go_wp2
      go_roundw
      case rel => exact ⟨k + 1, A2, c2, r2, by omega, by go_num, hb3, hr3, hnew2, hk2⟩
      case measure => simp [intOf]; omega
    · have hend : l.take k = l := List.take_of_length_le (by omega)
      rw [hend] at hrow
      clear hend
      obtain rfl : k = n := by omega
      have w0 := hbw.cell' 0 rfl
      have w1 := hbw.cell' 1 rfl
      have hr1 := Blk.kp hr hkr (by omega)
      have s0 := hr1.cell' 0 rfl
      have s1 := hr1.cell' 1 rfl
      have f0 := hr1.free 0
      have f1 := hr1.free 1
      have hne : r1 ≠ some (w.heap.size + 1) := hrow.ne_type hr1 (by decide)
      have hfin := ((hr1.set 0 (.int .u32 next)).set 1 (.slice A1 k c1))
      have t0 := hfin.cell' 0 rfl
      have t1 := hfin.cell' 1 rfl
      have hrf := (hrow.far (p := ⟨w.heap.size + 1, 0, none⟩) hne (.int .u32 next)).far (p := ⟨w.heap.size + 1, 1, none⟩) hne (.slice A1 k c1)
      have kf : Kp w ((wr.setCell ⟨w.heap.size + 1, 0, none⟩ (.int .u32 next)).setCell ⟨w.heap.size + 1, 1, none⟩ (.slice A1 k c1)) (fun _ => False) :=
        ((hk.trans hkr (fun j hj => .inr (by omega))).set _ _ _ (.inr (by omega))).set _ _ _ (.inr (by omega))
      have hnf : New w r1 := New.mono (w1 := wa) hnew hk.size
      go_wp2
      exact bodyPost_ret (v := .agg #[.int .u32 next, .slice A1 k c1]) (by simp [results, Try.results18, go_sem, t0, t1]) rfl ⟨A1, c1, r1, rfl, hrf, hnf, kf⟩

end Go.Proofs.Ytboambncimdfjaa
