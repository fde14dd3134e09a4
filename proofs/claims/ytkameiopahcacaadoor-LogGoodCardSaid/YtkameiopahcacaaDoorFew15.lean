/- longwirelaw15.Few: the first so many calls, each with at most 60 bytes. Condition: the calls are data. -/
import Derived.Test.YtkameiopahcacaaDoorDskCopy
set_option linter.unusedVariables false
set_option linter.unusedSimpArgs false
set_option maxRecDepth 100000
namespace Go.Proofs.YtkameiopahcacaaDoor
open Go.RowKit

theorem u_acts : Tryd.prog.underlying 46 = some (.slice 56) := by kernel_rfl
theorem i_act : (Tryd.prog.info? 56).map (fun i => (i.zero, i.size, i.bytes)) = some (some (.agg #[.int .i64 0, .int .i64 0, .int .i64 0, .slice none 0 0]), 4, 48) := by kernel_rfl

theorem Rd.lit2 (w : World) (o : Obj) (e : TypeId) (n : Nat) (cs : List Value) (hn : n ≤ maxLen) : Rd ((w.alloc o).alloc (.cells cs.toArray e)) (some ⟨w.heap.size + 1, 0, none⟩) n n cs := by
  have := Rd.lit (w.alloc o) e (0, 0) n cs hn
  rwa [World.size_alloc] at this

def fewTo (l : List DAct) (k : Nat) : List DAct := (l.take k).map (·.cut 60)

/-- The law's calls in new memory are handed back. -/
def FPost (w : World) (l : List DAct) (e : Ending) (w' : World) : Prop :=
  ∃ A n c r, e = .returned (.slice A n c) ∧ l.length = n ∧ Row w' 56 4 A n c (actCells l) r ∧ New w r ∧ Kp w w' (fun _ => False)

set_option maxHeartbeats 1000000 in
theorem few_any (w : World) (A : Option Addr) (n c : Nat) (l : List DAct) (hl : l.length = n) (hrd : Rd w A n c (actCells l)) (hw : ∀ a ∈ l, a.n ≤ a.c ∧ a.c ≤ 9223372036854775807) (most : Nat) (hmost : most ≤ 1000) :
    Calls Tryd.prog 21 #[.slice A n c, .int .i64 most] w (FPost w (fewTo l most)) := by
  obtain ⟨i0, hi, hz0, hz1, hz2⟩ := info_parts i_act
  have hn : n ≤ c ∧ c ≤ 9223372036854775807 := ⟨hrd.1, by have := hrd.2.1; simpa [maxLen] using this⟩
  go_enter Tryd.func21, Tryd.ntmps21
  go_wp2
  go_loopw [5, 6, 7, 10] (fun v _ _ i wr => ∃ (k m : Nat) (A1 : Option Addr) (c1 : Nat) (r1 : Option Nat), k ≤ n ∧ V (m = min k most) ∧ i = .int .i64 k ∧ v = .slice A1 m c1 ∧
      Row wr 56 4 A1 m c1 (actCells (fewTo l m)) r1 ∧ New w r1 ∧ Kp w wr (fun _ => False)) (fun _ _ _ i _ => n - (intOf i).toNat)
  case atStart => exact ⟨0, 0, none, 0, none, Nat.zero_le _, ⟨by omega⟩, rfl, rfl, Row.nil _ _ _, New.none _, Kp.refl _ _⟩
  case round =>
    obtain ⟨k, m, A1, c1, r1, hk, hkm0, rfl, rfl, hrow1, hnew1, hkp1⟩ := hrel
    by_cases hgo : k < n ∧ k < most
    · obtain ⟨hg1, hg2⟩ := hgo
      have hkm' : m = k := by have := hkm0.out; omega
      rw [hkm'] at hrow1
      clear hkm0
      rw [hkm']
      clear hkm'
      have hkl : k < l.length := by omega
      obtain ⟨ab, ao, rfl, hcs⟩ := (hrd.kp hkp1 (fun _ _ _ h => h)).base (by omega) (by rw [actCells_length]; omega)
      obtain ⟨a, ha⟩ : ∃ a, a = l[k] := ⟨_, rfl⟩
      have hwa := hw l[k] (List.getElem_mem hkl)
      rw [← ha] at hwa
      have x0 := hcs (k * 4 + 0) (.int .i64 a.what) (by rw [actCells_at l k 0 hkl (by omega), ← ha]; rfl)
      have x1 := hcs (k * 4 + 1) (.int .i64 a.at_) (by rw [actCells_at l k 1 hkl (by omega), ← ha]; rfl)
      have x2 := hcs (k * 4 + 2) (.int .i64 a.many) (by rw [actCells_at l k 2 hkl (by omega), ← ha]; rfl)
      have x3 := hcs (k * 4 + 3) (.slice a.A a.n a.c) (by rw [actCells_at l k 3 hkl (by omega), ← ha]; rfl)
      simp only [Nat.add_zero, ← Nat.add_assoc] at x0 x1 x2 x3
      have haV := V.mk ha
      clear hcs ha
      have hkm : k + 1 ≤ maxLen := by simp only [maxLen]; omega
      have hcc := hrow1.le
      by_cases h60 : 60 < a.n
      · have ecut := V.mk (show DAct.cells (a.cut 60) = [.int .i64 a.what, .int .i64 a.at_, .int .i64 a.many, .slice a.A 60 a.c] by simp [DAct.cells, DAct.cut]; omega)
        go_wp2_with (at_builtin; refine wpList_app (by rfl) (.tmp 26) (.tmp 28) 46 rfl 56 i0 (.agg #[.int .i64 0, .int .i64 0, .int .i64 0, .slice none 0 0]) 4 48 u_acts hi hz0 hz1 hz2 rfl (by decide) A1 k c1 _ r1 (by rfl) ((hrow1.alloc _).alloc _) _ 1 1 [.int .i64 a.what, .int .i64 a.at_, .int .i64 a.many, .slice a.A 60 a.c] (by rfl) (Rd.lit2 _ _ _ 1 _ (by simp [maxLen])) rfl (by simp [Value.oneCell']) (k + 1) rfl (by omega) hkm ?_)
        intro A2 c2 r2 w2 hrow2 hkp2 hfr2 _
        have hkp3 : Kp w w2 (fun _ => False) := ((hkp1.alloc _).alloc _).trans hkp2 (fun j hj => .inr (hnew1 j hj))
        have hnew3 : New w r2 := hnew1.fr ((hkp1.alloc _).alloc _).size hfr2
        have e2 : actCells (fewTo l (k + 1)) = actCells (fewTo l k) ++ [.int .i64 a.what, .int .i64 a.at_, .int .i64 a.many, .slice a.A 60 a.c] := by
          unfold fewTo
          rw [List.take_succ_eq_append_getElem hkl, List.map_append, actCells_append, ← haV.out]
          simp only [List.map_cons, List.map_nil, actCells, List.flatMap_cons, List.flatMap_nil, List.append_nil, ecut.out]
        rw [← e2] at hrow2
        clear e2 hrow1 hkp2 hfr2 hnew1 x0 x1 x2 x3
        go_wp2
        go_roundw
        case rel => exact ⟨k + 1, k + 1, A2, c2, r2, by omega, ⟨by omega⟩, by go_num, rfl, hrow2, hnew3, hkp3⟩
        case measure => simp [intOf]; omega
      · have ecut := V.mk (show DAct.cells (a.cut 60) = [.int .i64 a.what, .int .i64 a.at_, .int .i64 a.many, .slice a.A a.n a.c] by simp [DAct.cells, DAct.cut]; omega)
        go_wp2_with (at_builtin; refine wpList_app (by rfl) (.tmp 26) (.tmp 28) 46 rfl 56 i0 (.agg #[.int .i64 0, .int .i64 0, .int .i64 0, .slice none 0 0]) 4 48 u_acts hi hz0 hz1 hz2 rfl (by decide) A1 k c1 _ r1 (by rfl) ((hrow1.alloc _).alloc _) _ 1 1 [.int .i64 a.what, .int .i64 a.at_, .int .i64 a.many, .slice a.A a.n a.c] (by rfl) (Rd.lit2 _ _ _ 1 _ (by simp [maxLen])) rfl (by simp [Value.oneCell']) (k + 1) rfl (by omega) hkm ?_)
        intro A2 c2 r2 w2 hrow2 hkp2 hfr2 _
        have hkp3 : Kp w w2 (fun _ => False) := ((hkp1.alloc _).alloc _).trans hkp2 (fun j hj => .inr (hnew1 j hj))
        have hnew3 : New w r2 := hnew1.fr ((hkp1.alloc _).alloc _).size hfr2
        have e2 : actCells (fewTo l (k + 1)) = actCells (fewTo l k) ++ [.int .i64 a.what, .int .i64 a.at_, .int .i64 a.many, .slice a.A a.n a.c] := by
          unfold fewTo
          rw [List.take_succ_eq_append_getElem hkl, List.map_append, actCells_append, ← haV.out]
          simp only [List.map_cons, List.map_nil, actCells, List.flatMap_cons, List.flatMap_nil, List.append_nil, ecut.out]
        rw [← e2] at hrow2
        clear e2 hrow1 hkp2 hfr2 hnew1 x0 x1 x2 x3
        go_wp2
        go_roundw
        case rel => exact ⟨k + 1, k + 1, A2, c2, r2, by omega, ⟨by omega⟩, by go_num, rfl, hrow2, hnew3, hkp3⟩
        case measure => simp [intOf]; omega
    · by_cases hg1 : k < n
      · have hg2 : ¬ k < most := fun h => hgo ⟨hg1, h⟩
        have hkl : k < l.length := by omega
        obtain ⟨ab, ao, rfl, hcs⟩ := (hrd.kp hkp1 (fun _ _ _ h => h)).base (by omega) (by rw [actCells_length]; omega)
        obtain ⟨a, ha⟩ : ∃ a, a = l[k] := ⟨_, rfl⟩
        have x0 := hcs (k * 4 + 0) (.int .i64 a.what) (by rw [actCells_at l k 0 hkl (by omega), ← ha]; rfl)
        have x1 := hcs (k * 4 + 1) (.int .i64 a.at_) (by rw [actCells_at l k 1 hkl (by omega), ← ha]; rfl)
        have x2 := hcs (k * 4 + 2) (.int .i64 a.many) (by rw [actCells_at l k 2 hkl (by omega), ← ha]; rfl)
        have x3 := hcs (k * 4 + 3) (.slice a.A a.n a.c) (by rw [actCells_at l k 3 hkl (by omega), ← ha]; rfl)
        simp only [Nat.add_zero, ← Nat.add_assoc] at x0 x1 x2 x3
        clear hcs ha
        have hrow2 := hrow1.alloc (.cells #[.int .i64 a.what, .int .i64 a.at_, .int .i64 a.many, .slice a.A a.n a.c] 56)
        have hkp3 := hkp1.alloc (.cells #[.int .i64 a.what, .int .i64 a.at_, .int .i64 a.many, .slice a.A a.n a.c] 56)
        clear hrow1
        go_wp2
        go_roundw
        case rel => exact ⟨k + 1, m, A1, c1, r1, by omega, ⟨by have := hkm0.out; omega⟩, by go_num, rfl, hrow2, hnew1, hkp3⟩
        case measure => simp [intOf]; omega
      · have hend : fewTo l m = fewTo l most := by
          have := hkm0.out
          unfold fewTo
          by_cases h : n < most
          · rw [List.take_of_length_le (by omega), List.take_of_length_le (by omega)]
          · rw [show m = most by omega]
        have hlen : (fewTo l most).length = m := by rw [← hend]; simp [fewTo]; have := hkm0.out; omega
        rw [hend] at hrow1
        have hlV := V.mk hlen
        clear hend hlen
        go_wp2_with fail
        all_goals (go_ret; exact ⟨A1, m, c1, r1, rfl, hlV.out, hrow1, hnew1, hkp1⟩)

end Go.Proofs.YtkameiopahcacaaDoor
