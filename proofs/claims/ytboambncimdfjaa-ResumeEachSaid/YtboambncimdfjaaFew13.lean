/- longwirelaw13.few, longwirelaw13.of: what is told of the first 20; what is told as the document's own has it. Condition: what is told reads as a list. -/
import Derived.Test.YtboambncimdfjaaRef13c
import Derived.Deep.RegionHeld3
import Derived.StillTailTactics
set_option linter.unusedVariables false
set_option linter.unusedSimpArgs false
namespace Go.Proofs.Ytboambncimdfjaa
open Go.RowKit

theorem hvCells_one (l : List Hv) : ∀ u ∈ hvCells l, u.oneCell' = true := by
  intro u hu
  simp only [hvCells, Hv.cells, List.mem_flatMap] at hu
  obtain ⟨h, _, hu⟩ := hu
  simp only [List.mem_cons, List.mem_nil_iff, or_false] at hu
  rcases hu with rfl | rfl | rfl | rfl <;> rfl
theorem rd_hv_pre {w : World} {A : Option Addr} {n c : Nat} {l : List Hv} (h : Rd w A n c (hvCells l)) (m : Nat) (hm : m ≤ n) : Rd w A m c (hvCells (l.take m)) := by
  refine ⟨by have := h.1; omega, h.2.1, h.2.2.1, fun ad ha j u hu => h.2.2.2 ad ha j u ?_⟩
  have e : hvCells l = hvCells (l.take m) ++ hvCells (l.drop m) := by rw [← hvCells_append, List.take_append_drop]
  rw [e, List.getElem?_append_left (Array.getElem?_eq_some_iff.1 (show (hvCells (l.take m)).toArray[j]? = some u by simpa using hu)).1]
  exact hu

/-- A copy in new memory. -/
def CloH (w : World) (n : Nat) (L : List Hv) (e : Ending) (w' : World) : Prop :=
  ∃ A c r, e = .returned (.slice A n c) ∧ Row w' 35 4 A n c (hvCells L) r ∧ New w r ∧ Kp w w' (fun _ => False)
set_option maxHeartbeats 1000000 in
theorem cloneh_any (w : World) (A : Option Addr) (n c : Nat) (x : List Hv) (hx : x.length = n) (hrd : Rd w A n c (hvCells x)) (hn : n ≤ 1048576) :
    Calls Try.prog 45 #[.slice A n c] w (CloH w n x) := by
  obtain ⟨i0, hi, hz0, hz1, hz2⟩ := info_parts i_have
  have hnil := fun (A : Option Addr) (n c : Nat) (w : World) => Lib.run_eql_slice_nil (P := Try.prog) w 23 35 A n c 0 0 u_haves
  have hxV := V.mk hx
  clear hx
  cases A with
  | none =>
    have hc := hrd.2.2.1 rfl
    have hnc := hrd.1
    obtain rfl : n = 0 := by omega
    have hx0 : V (x = []) := ⟨List.eq_nil_of_length_eq_zero hxV.out⟩
    clear hc
    go_enter Try.func45, Try.ntmps45
    go_wp2
    go_ret
    exact ⟨none, 0, none, rfl, by rw [hx0.out]; exact Row.nil _ _ _, New.none _, Kp.refl _ _⟩
  | some ad =>
    go_enter Try.func45, Try.ntmps45
    go_wp2_with (at_builtin; refine wpList_app rfl (.tmp 5) (.tmp 6) 23 rfl 35 i0 (.agg #[.int .u32 0, .int .u32 0, .int .u32 0, .bool false]) 4 16 u_haves hi hz0 hz1 hz2 rfl (by decide) _ 0 0 [] _ (by rfl) (Row.made0 w _ 4) (some ad) n c (hvCells x) (by rfl) (hrd.alloc _) (by rw [hvCells_length, hxV.out]) (hvCells_one x) n (by omega) (by omega) (by simp only [maxLen]; omega) ?_)
    intro A' c' r' w' hrow hkp hfr _
    go_wp2
    go_ret
    refine ⟨A', c', r', rfl, hrow, ?_, ?_⟩
    · intro k hk
      rcases hfr.of_lt hk with h | h
      · simp only [Option.some.injEq] at h; omega
      · rw [World.size_alloc] at h; omega
    · exact ((Kp.refl w (fun _ => False)).alloc _).trans hkp (fun k hk => .inr (by cases hk; exact Nat.le_refl _))

/-- What is told is handed back, in new memory. -/
def AskP (w : World) (t : TypeId) (next : Int) (n : Nat) (L : List Hv) (e : Ending) (w' : World) : Prop :=
  ∃ A c r, e = .returned (.agg #[.int .u32 next, .slice A n c]) ∧ Row w' t 4 A n c (hvCells L) r ∧ New w r ∧ Kp w w' (fun _ => False)

set_option maxRecDepth 100000 in
set_option maxHeartbeats 1000000 in
theorem few_any (w : World) (next : Int) (A : Option Addr) (n c : Nat) (l : List Hv) (hl : l.length = n) (hrd : Rd w A n c (hvCells l)) (m : Nat) (hm : min n 20 = m) :
    Calls Try.prog 17 #[.agg #[.int .u32 next, .slice A n c]] w (AskP w 35 next m (l.take 20)) := by
  have hn : n ≤ c ∧ c ≤ 9223372036854775807 := ⟨hrd.1, by have := hrd.2.1; simpa [maxLen] using this⟩
  have hk := ((Kp.refl w (fun _ => False)).alloc (.cells #[.int .u32 next, .slice A n c] 26)).alloc (.cells #[.int .u32 0, .slice none 0 0] 26)
  have hb := (Blk.new w #[.int .u32 next, .slice A n c] 26).alloc (.cells #[.int .u32 0, .slice none 0 0] 26)
  have hr := Blk.new (w.alloc (.cells #[.int .u32 next, .slice A n c] 26)) #[.int .u32 0, .slice none 0 0] 26
  rw [World.size_alloc] at hr
  obtain ⟨wa, hW⟩ : ∃ wa, (w.alloc (.cells #[.int .u32 next, .slice A n c] 26)).alloc (.cells #[.int .u32 0, .slice none 0 0] 26) = wa := ⟨_, rfl⟩
  rw [hW] at hk hb hr
  have hWV := V.mk hW
  clear hW
  have q0 := hb.cell' 0 rfl
  have q1 := hb.cell' 1 rfl
  have hrd1 := (rd_hv_pre (hrd.kp hk (fun _ _ _ h => h)) m (by omega)).drew
  have htk : l.take m = l.take 20 := by
    by_cases h : n ≤ 20
    · rw [List.take_of_length_le (by omega), List.take_of_length_le (by omega)]
    · rw [show m = 20 by omega]
  rw [htk] at hrd1
  have hlen : (l.take 20).length = m := by rw [List.length_take]; omega
  have hc := V.mk (cloneh_any _ A m c (l.take 20) hlen hrd1 (by omega))
  have hlV := V.mk hlen
  clear htk hlen
  have b2 : (if ((20 : Int) < (n : Int)) then (20 : Int) else (n : Int)) = (m : Int) := by split <;> omega
  have b4 : (m : Int) ≤ (c : Int) := by omega
  have b5 : m ≤ c := by omega
  have b6 : (0 : Int) ≤ (m : Int) := by omega
  clear hm
  go_enter Try.func17, Try.ntmps17
  go_wp2
  rw [hWV.out]
  go_region_held3 (fun W => W.cell? ⟨w.heap.size, 0, none⟩ = some (.int .u32 next) ∧ W.cell? ⟨w.heap.size, 1, none⟩ = some (.slice A n c)) (first | exact ⟨by assumption, by assumption⟩ | go_keep)
    ((first | (go_at_call 45; refine hc.out.mono ?_; rintro e w2 ⟨A', c', r', rfl, hrow, hnew, hk2⟩; have hr2 := Blk.kp hr (Kp.of_drew hk2) (fun h => h); have s0 := hr2.cell' 0 rfl; have s1 := hr2.cell' 1 rfl; have f0 := hr2.free 0; have f1 := hr2.free 1; have q02 := (Blk.kp hb (Kp.of_drew hk2) (fun h => h)).cell' 0 rfl; have q12 := (Blk.kp hb (Kp.of_drew hk2) (fun h => h)).cell' 1 rfl) | fail "no arm"))
  have hz := hr.lt
  have hsz := hk.size
  have hne : r' ≠ some (w.heap.size + 1) := fun e => by have := hnew _ e; simp at this; omega
  have hfin := ((hr2.set 0 (.int .u32 next)).set 1 (.slice A' m c'))
  have t0 := hfin.cell' 0 rfl
  have t1 := hfin.cell' 1 rfl
  have hrf := (hrow.far (p := ⟨w.heap.size + 1, 0, none⟩) hne (.int .u32 next)).far (p := ⟨w.heap.size + 1, 1, none⟩) hne (.slice A' m c')
  have kf : Kp w ((w2.setCell ⟨w.heap.size + 1, 0, none⟩ (.int .u32 next)).setCell ⟨w.heap.size + 1, 1, none⟩ (.slice A' m c')) (fun _ => False) :=
    ((hk.drew.quiet hk2).set _ _ _ (.inr (by omega))).set _ _ _ (.inr (by omega))
  have hnf : New w r' := New.mono (w1 := wa.drew) hnew hk.size
  go_wp2
  exact bodyPost_ret (v := .agg #[.int .u32 next, .slice A' m c']) (by simp [results, Try.results17, go_sem, t0, t1]) rfl ⟨A', c', r', rfl, hrf, hnf, kf⟩

end Go.Proofs.Ytboambncimdfjaa
