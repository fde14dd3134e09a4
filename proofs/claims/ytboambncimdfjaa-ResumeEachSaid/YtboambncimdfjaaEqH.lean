/- slices.Equal of what is had: whether both are the same. Condition: both are read. -/
import Derived.Test.YtboambncimdfjaaFstH13
import Derived.Test.YtboambncimdfjaaEqU
import Derived.Deep.RegionHeld3
import Derived.Laws.StructEq
set_option linter.unusedVariables false
set_option linter.unusedSimpArgs false
namespace Go.Proofs.Ytboambncimdfjaa
open Go.RowKit

theorem neq_hvh (w : World) (a b : Hv) : (binOp .neq 35 (.agg #[.int .u32 a.id, .int .u32 a.out, .int .u32 a.err, .bool a.st]) (.agg #[.int .u32 b.id, .int .u32 b.out, .int .u32 b.err, .bool b.st])).run Try.prog w = .ok (.bool (decide (a ≠ b))) w := by
  have hS : Try.prog.underlying 35 = some (.struct (Try.prog.fieldsOf 35)) := by kernel_rfl
  have hp : Try.prog.stoodInHeld 35 = false := by kernel_rfl
  have u1 := Try.underlying24
  have u2 := Try.underlying4
  have a1 := Try.isAgg24
  have a2 := Try.isAgg4
  have z1 := Try.sizeOf24
  have z2 := Try.sizeOf4
  have e : (binOp .neq 35 (.agg #[.int .u32 a.id, .int .u32 a.out, .int .u32 a.err, .bool a.st]) (.agg #[.int .u32 b.id, .int .u32 b.out, .int .u32 b.err, .bool b.st])).run Try.prog w =
    ((Op.equalIn (9999 + 1) 35 (.agg #[.int .u32 a.id, .int .u32 a.out, .int .u32 a.err, .bool a.st]) (.agg #[.int .u32 b.id, .int .u32 b.out, .int .u32 b.err, .bool b.st])).run Try.prog w).andThen fun r w' => .ok (.bool !r) w' := by
    simp only [binOp, Op.equal, Op.maxDepth, Sem.run_bind, Sem.run_pure]
  rw [e, run_equalIn_struct w 9999 _ _ _ hS hp]
  obtain ⟨a1, a2, a3, a4⟩ := a
  obtain ⟨b1, b2, b3, b4⟩ := b
  simp only [Program.fieldsOf, Try.underlying35, Hv.mk.injEq]
  go_simp
  by_cases h1 : a1 = b1 <;> by_cases h2 : a2 = b2 <;> by_cases h3 : a3 = b3 <;> by_cases h4 : a4 = b4 <;> simp [h1, h2, h3, h4]

set_option maxHeartbeats 1000000 in
theorem eqh_any (w : World) (A1 A2 : Option Addr) (n1 n2 c1 c2 : Nat) (x y : List Hv) (hx : x.length = n1) (hy : y.length = n2) (h1 : Rd w A1 n1 c1 (hvCells x)) (h2 : Rd w A2 n2 c2 (hvCells y)) :
    Calls Try.prog 44 #[.slice A1 n1 c1, .slice A2 n2 c2] w fun e w' => e = .returned (.bool (decide (x = y))) ∧ Kp w w' (fun _ => False) := by
  have b1 : n1 ≤ c1 ∧ c1 ≤ 9223372036854775807 := ⟨h1.1, by have := h1.2.1; simpa [maxLen] using this⟩
  by_cases hlen : n1 = n2
  · subst hlen
    go_enter Try.func44, Try.ntmps44
    go_wp2
    go_loopw [5, 13] (fun _ i wr => ∃ k : Nat, k ≤ n1 ∧ i = .int .i64 k ∧ V (x.take k = y.take k) ∧ Kp w wr (fun _ => False)) (fun _ i _ => n1 - (intOf i).toNat)
    case atStart => exact ⟨0, Nat.zero_le _, rfl, ⟨rfl⟩, Kp.refl _ _⟩
    case round =>
      obtain ⟨k, hk, rfl, htk, hkp⟩ := hrel
      by_cases hgo : k < n1
      · obtain ⟨ab, ao, rfl, hc1⟩ := (h1.kp hkp (fun _ _ _ h => h)).base (by omega) (by rw [hvCells_length]; omega)
        obtain ⟨bb, bo, rfl, hc2⟩ := (h2.kp hkp (fun _ _ _ h => h)).base (by omega) (by rw [hvCells_length]; omega)
        obtain ⟨x0, x1, x2, x3⟩ := hv_at hc1 k (by omega)
        obtain ⟨y0, y1, y2, y3⟩ := hv_at hc2 k (by omega)
        clear hc1 hc2
        obtain ⟨u, hu⟩ : ∃ u, x[k] = u := ⟨_, rfl⟩
        obtain ⟨v, hv⟩ : ∃ v, y[k] = v := ⟨_, rfl⟩
        have huV := V.mk hu
        have hvV := V.mk hv
        rw [hu] at x0 x1 x2 x3
        rw [hv] at y0 y1 y2 y3
        clear hu hv
        have hkd := hkp.drew
        by_cases he : u = v
        · have hts : V (x.take (k + 1) = y.take (k + 1)) := ⟨take_eq_succ (by omega) (by omega) htk.out (by rw [huV.out, hvV.out, he])⟩
          subst he
          have hneq := fun w => neq_hvh w u u
          rw [show decide (u ≠ u) = false by simp] at hneq
          clear htk huV hvV
          go_wp2
          go_region_held3 (fun W => W.cell? ⟨ab, ao + k * 4, none⟩ = some (.int .u32 u.id) ∧ W.cell? ⟨ab, ao + k * 4 + 1, none⟩ = some (.int .u32 u.out) ∧ W.cell? ⟨ab, ao + k * 4 + 2, none⟩ = some (.int .u32 u.err) ∧ W.cell? ⟨ab, ao + k * 4 + 3, none⟩ = some (.bool u.st) ∧ W.cell? ⟨bb, bo + k * 4, none⟩ = some (.int .u32 u.id) ∧ W.cell? ⟨bb, bo + k * 4 + 1, none⟩ = some (.int .u32 u.out) ∧ W.cell? ⟨bb, bo + k * 4 + 2, none⟩ = some (.int .u32 u.err) ∧ W.cell? ⟨bb, bo + k * 4 + 3, none⟩ = some (.bool u.st)) (exact ⟨by assumption, by assumption, by assumption, by assumption, by assumption, by assumption, by assumption, by assumption⟩) (fail)
          all_goals
            go_wp2
            go_roundw
            case rel => exact ⟨k + 1, by omega, by go_num, hts, hkd⟩
            case measure => simp [intOf]; omega
        · have hts : V (decide (x = y) = false) := ⟨by simpa using ne_of_getElem (k := k) (by omega) (by omega) (by rw [huV.out, hvV.out]; exact he)⟩
          have he' : decide (u ≠ v) = true := by simpa using he
          have hneq := fun w => neq_hvh w u v
          rw [he'] at hneq
          clear htk huV hvV
          go_wp2
          go_region_held3 (fun W => W.cell? ⟨ab, ao + k * 4, none⟩ = some (.int .u32 u.id) ∧ W.cell? ⟨ab, ao + k * 4 + 1, none⟩ = some (.int .u32 u.out) ∧ W.cell? ⟨ab, ao + k * 4 + 2, none⟩ = some (.int .u32 u.err) ∧ W.cell? ⟨ab, ao + k * 4 + 3, none⟩ = some (.bool u.st) ∧ W.cell? ⟨bb, bo + k * 4, none⟩ = some (.int .u32 v.id) ∧ W.cell? ⟨bb, bo + k * 4 + 1, none⟩ = some (.int .u32 v.out) ∧ W.cell? ⟨bb, bo + k * 4 + 2, none⟩ = some (.int .u32 v.err) ∧ W.cell? ⟨bb, bo + k * 4 + 3, none⟩ = some (.bool v.st)) (exact ⟨by assumption, by assumption, by assumption, by assumption, by assumption, by assumption, by assumption, by assumption⟩) (fail)
          all_goals
            go_wp2
            go_ret
            exact ⟨ret_bool hts.out.symm, hkd⟩
      · have e1 : V (decide (x = y) = true) := ⟨by have := htk.out; rw [List.take_of_length_le (by omega), List.take_of_length_le (by omega)] at this; simpa using this⟩
        go_wp2
        go_ret
        exact ⟨ret_bool e1.out.symm, hkp⟩
  · have e1 : V (decide (x = y) = false) := ⟨by simp; rintro rfl; omega⟩
    have hne : ((n1 : Int) != (n2 : Int)) = true := by simp; omega
    go_enter Try.func44, Try.ntmps44
    go_wp2
    go_ret
    exact ⟨ret_bool e1.out.symm, Kp.refl _ _⟩

theorem neq_hvr (w : World) (a b : Hv) : (binOp .neq 50 (.agg #[.int .u32 a.id, .int .u32 a.out, .int .u32 a.err, .bool a.st]) (.agg #[.int .u32 b.id, .int .u32 b.out, .int .u32 b.err, .bool b.st])).run Try.prog w = .ok (.bool (decide (a ≠ b))) w := by
  have hS : Try.prog.underlying 50 = some (.struct (Try.prog.fieldsOf 50)) := by kernel_rfl
  have hp : Try.prog.stoodInHeld 50 = false := by kernel_rfl
  have u1 := Try.underlying24
  have u2 := Try.underlying4
  have a1 := Try.isAgg24
  have a2 := Try.isAgg4
  have z1 := Try.sizeOf24
  have z2 := Try.sizeOf4
  have e : (binOp .neq 50 (.agg #[.int .u32 a.id, .int .u32 a.out, .int .u32 a.err, .bool a.st]) (.agg #[.int .u32 b.id, .int .u32 b.out, .int .u32 b.err, .bool b.st])).run Try.prog w =
    ((Op.equalIn (9999 + 1) 50 (.agg #[.int .u32 a.id, .int .u32 a.out, .int .u32 a.err, .bool a.st]) (.agg #[.int .u32 b.id, .int .u32 b.out, .int .u32 b.err, .bool b.st])).run Try.prog w).andThen fun r w' => .ok (.bool !r) w' := by
    simp only [binOp, Op.equal, Op.maxDepth, Sem.run_bind, Sem.run_pure]
  rw [e, run_equalIn_struct w 9999 _ _ _ hS hp]
  obtain ⟨a1, a2, a3, a4⟩ := a
  obtain ⟨b1, b2, b3, b4⟩ := b
  simp only [Program.fieldsOf, Try.underlying50, Hv.mk.injEq]
  go_simp
  by_cases h1 : a1 = b1 <;> by_cases h2 : a2 = b2 <;> by_cases h3 : a3 = b3 <;> by_cases h4 : a4 = b4 <;> simp [h1, h2, h3, h4]

set_option maxHeartbeats 1000000 in
theorem eqr_any (w : World) (A1 A2 : Option Addr) (n1 n2 c1 c2 : Nat) (x y : List Hv) (hx : x.length = n1) (hy : y.length = n2) (h1 : Rd w A1 n1 c1 (hvCells x)) (h2 : Rd w A2 n2 c2 (hvCells y)) :
    Calls Try.prog 25 #[.slice A1 n1 c1, .slice A2 n2 c2] w fun e w' => e = .returned (.bool (decide (x = y))) ∧ Kp w w' (fun _ => False) := by
  have b1 : n1 ≤ c1 ∧ c1 ≤ 9223372036854775807 := ⟨h1.1, by have := h1.2.1; simpa [maxLen] using this⟩
  by_cases hlen : n1 = n2
  · subst hlen
    go_enter Try.func25, Try.ntmps25
    go_wp2
    go_loopw [5, 13] (fun _ i wr => ∃ k : Nat, k ≤ n1 ∧ i = .int .i64 k ∧ V (x.take k = y.take k) ∧ Kp w wr (fun _ => False)) (fun _ i _ => n1 - (intOf i).toNat)
    case atStart => exact ⟨0, Nat.zero_le _, rfl, ⟨rfl⟩, Kp.refl _ _⟩
    case round =>
      obtain ⟨k, hk, rfl, htk, hkp⟩ := hrel
      by_cases hgo : k < n1
      · obtain ⟨ab, ao, rfl, hc1⟩ := (h1.kp hkp (fun _ _ _ h => h)).base (by omega) (by rw [hvCells_length]; omega)
        obtain ⟨bb, bo, rfl, hc2⟩ := (h2.kp hkp (fun _ _ _ h => h)).base (by omega) (by rw [hvCells_length]; omega)
        obtain ⟨x0, x1, x2, x3⟩ := hv_at hc1 k (by omega)
        obtain ⟨y0, y1, y2, y3⟩ := hv_at hc2 k (by omega)
        clear hc1 hc2
        obtain ⟨u, hu⟩ : ∃ u, x[k] = u := ⟨_, rfl⟩
        obtain ⟨v, hv⟩ : ∃ v, y[k] = v := ⟨_, rfl⟩
        have huV := V.mk hu
        have hvV := V.mk hv
        rw [hu] at x0 x1 x2 x3
        rw [hv] at y0 y1 y2 y3
        clear hu hv
        have hkd := hkp.drew
        by_cases he : u = v
        · have hts : V (x.take (k + 1) = y.take (k + 1)) := ⟨take_eq_succ (by omega) (by omega) htk.out (by rw [huV.out, hvV.out, he])⟩
          subst he
          have hneq := fun w => neq_hvr w u u
          rw [show decide (u ≠ u) = false by simp] at hneq
          clear htk huV hvV
          go_wp2
          go_region_held3 (fun W => W.cell? ⟨ab, ao + k * 4, none⟩ = some (.int .u32 u.id) ∧ W.cell? ⟨ab, ao + k * 4 + 1, none⟩ = some (.int .u32 u.out) ∧ W.cell? ⟨ab, ao + k * 4 + 2, none⟩ = some (.int .u32 u.err) ∧ W.cell? ⟨ab, ao + k * 4 + 3, none⟩ = some (.bool u.st) ∧ W.cell? ⟨bb, bo + k * 4, none⟩ = some (.int .u32 u.id) ∧ W.cell? ⟨bb, bo + k * 4 + 1, none⟩ = some (.int .u32 u.out) ∧ W.cell? ⟨bb, bo + k * 4 + 2, none⟩ = some (.int .u32 u.err) ∧ W.cell? ⟨bb, bo + k * 4 + 3, none⟩ = some (.bool u.st)) (exact ⟨by assumption, by assumption, by assumption, by assumption, by assumption, by assumption, by assumption, by assumption⟩) (fail)
          all_goals
            go_wp2
            go_roundw
            case rel => exact ⟨k + 1, by omega, by go_num, hts, hkd⟩
            case measure => simp [intOf]; omega
        · have hts : V (decide (x = y) = false) := ⟨by simpa using ne_of_getElem (k := k) (by omega) (by omega) (by rw [huV.out, hvV.out]; exact he)⟩
          have he' : decide (u ≠ v) = true := by simpa using he
          have hneq := fun w => neq_hvr w u v
          rw [he'] at hneq
          clear htk huV hvV
          go_wp2
          go_region_held3 (fun W => W.cell? ⟨ab, ao + k * 4, none⟩ = some (.int .u32 u.id) ∧ W.cell? ⟨ab, ao + k * 4 + 1, none⟩ = some (.int .u32 u.out) ∧ W.cell? ⟨ab, ao + k * 4 + 2, none⟩ = some (.int .u32 u.err) ∧ W.cell? ⟨ab, ao + k * 4 + 3, none⟩ = some (.bool u.st) ∧ W.cell? ⟨bb, bo + k * 4, none⟩ = some (.int .u32 v.id) ∧ W.cell? ⟨bb, bo + k * 4 + 1, none⟩ = some (.int .u32 v.out) ∧ W.cell? ⟨bb, bo + k * 4 + 2, none⟩ = some (.int .u32 v.err) ∧ W.cell? ⟨bb, bo + k * 4 + 3, none⟩ = some (.bool v.st)) (exact ⟨by assumption, by assumption, by assumption, by assumption, by assumption, by assumption, by assumption, by assumption⟩) (fail)
          all_goals
            go_wp2
            go_ret
            exact ⟨ret_bool hts.out.symm, hkd⟩
      · have e1 : V (decide (x = y) = true) := ⟨by have := htk.out; rw [List.take_of_length_le (by omega), List.take_of_length_le (by omega)] at this; simpa using this⟩
        go_wp2
        go_ret
        exact ⟨ret_bool e1.out.symm, hkp⟩
  · have e1 : V (decide (x = y) = false) := ⟨by simp; rintro rfl; omega⟩
    have hne : ((n1 : Int) != (n2 : Int)) = true := by simp; omega
    go_enter Try.func25, Try.ntmps25
    go_wp2
    go_ret
    exact ⟨ret_bool e1.out.symm, Kp.refl _ _⟩

end Go.Proofs.Ytboambncimdfjaa
