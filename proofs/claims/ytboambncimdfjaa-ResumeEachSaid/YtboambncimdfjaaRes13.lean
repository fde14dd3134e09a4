/- What a client tells (layer 13): has, May. Condition: what is told reads as a list. -/
import Derived.Test.YtboambncimdfjaaThose
import Derived.Test.YtboambncimdfjaaRes13M
set_option linter.unusedVariables false
set_option linter.unusedSimpArgs false
namespace Go.Proofs.Ytboambncimdfjaa
open Go.RowKit Go.Shelf

def Hv.cells (h : Hv) : List Value := [.int .u32 h.id, .int .u32 h.out, .int .u32 h.err, .bool h.st]
def hvCells (l : List Hv) : List Value := l.flatMap Hv.cells
theorem hvCells_length (l : List Hv) : (hvCells l).length = l.length * 4 := by
  induction l with
  | nil => rfl
  | cons a l ih => simp [hvCells, Hv.cells] at ih ⊢; omega
theorem hvCells_append (a b : List Hv) : hvCells (a ++ b) = hvCells a ++ hvCells b := by simp [hvCells]
theorem hvCells_at (l : List Hv) (i j : Nat) (hi : i < l.length) (hj : j < 4) : (hvCells l)[i * 4 + j]? = l[i].cells[j]? := by
  induction l generalizing i with
  | nil => simp at hi
  | cons a l ih =>
    cases i with
    | zero =>
      show (a.cells ++ hvCells l)[0 * 4 + j]? = _
      rw [List.getElem?_append_left (by simp [Hv.cells]; omega)]; simp
    | succ i =>
      show (a.cells ++ hvCells l)[(i + 1) * 4 + j]? = _
      rw [List.getElem?_append_right (by simp [Hv.cells]; omega)]
      have := ih i (by simp at hi; omega)
      simp only [List.getElem_cons_succ]
      rw [← this]; congr 1; simp [Hv.cells]; omega
/-- The cells of an element, as the walk spells them. -/
theorem hv_at {w : World} {b o : Nat} {l : List Hv} (hcs : ∀ j u, (hvCells l)[j]? = some u → w.cell? ⟨b, o + j, none⟩ = some u) (k : Nat) (hk : k < l.length) :
    w.cell? ⟨b, o + k * 4, none⟩ = some (.int .u32 l[k].id) ∧ w.cell? ⟨b, o + k * 4 + 1, none⟩ = some (.int .u32 l[k].out) ∧ w.cell? ⟨b, o + k * 4 + 2, none⟩ = some (.int .u32 l[k].err) ∧ w.cell? ⟨b, o + k * 4 + 3, none⟩ = some (.bool l[k].st) := by
  refine ⟨?_, ?_, ?_, ?_⟩
  · have := hcs (k * 4 + 0) _ (by rw [hvCells_at l k 0 hk (by omega)]; rfl); simpa using this
  · have := hcs (k * 4 + 1) _ (by rw [hvCells_at l k 1 hk (by omega)]; rfl); simpa [Nat.add_assoc] using this
  · have := hcs (k * 4 + 2) _ (by rw [hvCells_at l k 2 hk (by omega)]; rfl); simpa [Nat.add_assoc] using this
  · have := hcs (k * 4 + 3) _ (by rw [hvCells_at l k 3 hk (by omega)]; rfl); simpa [Nat.add_assoc] using this

set_option maxHeartbeats 1000000 in
theorem has1_any (w : World) (h : Hv) (B : Nat) (x : Int) (hb : Blk w B #[.int .u32 x] 24) :
    Calls Try.prog 61 #[.agg #[.int .u32 h.id, .int .u32 h.out, .int .u32 h.err, .bool h.st], .pointer (some ⟨B, 0, none⟩)] w fun e w' => e = .returned (.bool (h.id == x)) ∧ Kp w w' (fun _ => False) := by
  have hb' := (hb.alloc (.cells #[.int .u32 h.id, .int .u32 h.out, .int .u32 h.err, .bool h.st] 35)).cell' 0 rfl
  go_enter Try.func61, Try.ntmps61
  go_wp2
  go_ret
  exact ⟨rfl, (Kp.refl _ _).alloc _⟩

/-- An index was found, or none. -/
def IPost (w : World) (b : Bool) (e : Ending) (w' : World) : Prop := ∃ k : Int, e = .returned (.int .i64 k) ∧ decide (0 ≤ k) = b ∧ Kp w w' (fun _ => False)

set_option maxHeartbeats 1000000 in
theorem idx_any (w : World) (A : Option Addr) (n c : Nat) (l : List Hv) (hl : l.length = n) (hrd : Rd w A n c (hvCells l)) (B : Nat) (x : Int) (hb : Blk w B #[.int .u32 x] 24) :
    Calls Try.prog 66 #[.slice A n c, .func (.func 61) #[] #[.pointer (some ⟨B, 0, none⟩)]] w (IPost w (hasB l x)) := by
  have hn : n ≤ c ∧ c ≤ 9223372036854775807 := ⟨hrd.1, by have := hrd.2.1; simpa [maxLen] using this⟩
  go_enter Try.func66, Try.ntmps66
  go_wp2
  go_loopw [4, 5, 8] (fun r v i wr => ∃ k : Nat, k ≤ n ∧ i = .int .i64 k ∧ V (hasB (l.take k) x = false) ∧ Kp w wr (fun _ => False)) (fun _ _ i _ => n - (intOf i).toNat)
  case atStart => exact ⟨0, Nat.zero_le _, rfl, ⟨rfl⟩, Kp.refl _ _⟩
  case round =>
    obtain ⟨k, hk, rfl, hno, hkp⟩ := hrel
    by_cases hgo : k < n
    · obtain ⟨ab, ao, rfl, hcs⟩ := (hrd.kp hkp (fun _ _ _ h => h)).base (by omega) (by rw [hvCells_length]; omega)
      obtain ⟨x0, x1, x2, x3⟩ := hv_at hcs k (by omega)
      clear hcs
      have hb1 := V.mk (has1_any _ l[k] B x (Blk.kp hb hkp (fun h => h)))
      have hs := V.mk (hasB_take_succ l x k (by omega))
      go_wp2_with fail
      refine hb1.out.mono ?_
      rintro e w1 ⟨rfl, hk1⟩
      have hkp1 := hkp.quiet hk1
      clear hb1 x0 x1 x2 x3 hk1
      by_cases hx : l[k].id = x
      · have hx' : (l[k].id == x) = true := by simpa using hx
        go_wp2
        go_ret
        refine ⟨k, rfl, ?_, hkp1⟩
        have e1 : hasB l x = true := by
          unfold hasB
          rw [List.any_eq_true]
          exact ⟨l[k], List.getElem_mem _, hx'⟩
        rw [e1]
        simp
      · have hx' : (l[k].id == x) = false := by simpa using hx
        have hn1 : V (hasB (l.take (k + 1)) x = false) := ⟨by rw [hs.out, hno.out, hx']; rfl⟩
        clear hs hno
        go_wp2
        go_roundw
        case rel => exact ⟨k + 1, by omega, by go_num, hn1, hkp1⟩
        case measure => simp [intOf]; omega
    · have e1 : V (hasB l x = false) := ⟨by rw [← hno.out, List.take_of_length_le (by omega)]⟩
      go_wp2
      go_ret
      exact ⟨-1, rfl, by rw [e1.out]; rfl, hkp⟩

set_option maxHeartbeats 1000000 in
theorem contains_any (w : World) (A : Option Addr) (n c : Nat) (l : List Hv) (hl : l.length = n) (hrd : Rd w A n c (hvCells l)) (B : Nat) (x : Int) (hb : Blk w B #[.int .u32 x] 24) :
    Calls Try.prog 60 #[.slice A n c, .func (.func 61) #[] #[.pointer (some ⟨B, 0, none⟩)]] w fun e w' => e = .returned (.bool (hasB l x)) ∧ Kp w w' (fun _ => False) := by
  have hc := V.mk (idx_any w A n c l hl hrd B x hb)
  generalize hasB l x = b at hc ⊢
  go_enter Try.func60, Try.ntmps60
  go_wp2_with fail
  refine hc.out.mono ?_
  rintro e w1 ⟨k, rfl, rfl, hk⟩
  go_wp2
  go_ret
  exact ⟨rfl, hk⟩

set_option maxHeartbeats 1000000 in
theorem has_any (w : World) (next : Int) (A : Option Addr) (n c : Nat) (l : List Hv) (hl : l.length = n) (hrd : Rd w A n c (hvCells l)) (x : Int) :
    Calls Try.prog 43 #[.agg #[.int .u32 next, .slice A n c], .int .u32 x] w fun e w' => e = .returned (.bool (hasB l x)) ∧ Kp w w' (fun _ => False) := by
  have hk2 := ((Kp.refl w (fun _ => False)).alloc (.cells #[.int .u32 next, .slice A n c] 26)).alloc (.cells #[.int .u32 x] 24)
  have hb := Blk.new (w.alloc (.cells #[.int .u32 next, .slice A n c] 26)) #[.int .u32 x] 24
  rw [World.size_alloc] at hb
  have hc := V.mk (contains_any _ A n c l hl (hrd.kp hk2 (fun _ _ _ h => h)) _ x hb)
  have hkV := V.mk hk2
  clear hb hk2
  go_enter Try.func43, Try.ntmps43
  go_wp2_with fail
  refine hc.out.mono ?_
  rintro e w1 ⟨rfl, hk⟩
  go_wp2
  go_ret
  exact ⟨rfl, hkV.out.quiet hk⟩

set_option maxHeartbeats 2000000 in
theorem may_any (w : World) (next : Int) (hn0 : 0 ≤ next) (hn1 : next < 4294967296) (A : Option Addr) (n c : Nat) (l : List Hv) (hl : l.length = n) (hrd : Rd w A n c (hvCells l)) (hok : ∀ h ∈ l, h.ok) :
    Calls Try.prog 15 #[.agg #[.int .u32 next, .slice A n c]] w fun e w' => e = .returned (.bool (may next l)) ∧ Kp w w' (fun _ => False) := by
  have hn : n ≤ c ∧ c ≤ 9223372036854775807 := ⟨hrd.1, by have := hrd.2.1; simpa [maxLen] using this⟩
  have hkp0 := (Kp.refl w (fun _ => False)).alloc (.cells #[.int .u32 next, .slice A n c] 26)
  have hbx := Blk.new w #[.int .u32 next, .slice A n c] 26
  go_enter Try.func15, Try.ntmps15
  go_wp2
  generalize w.alloc (.cells #[.int .u32 next, .slice A n c] 26) = wa at hkp0 hbx ⊢
  go_loopw [3, 5, 9] (fun le _ i wr => ∃ k : Nat, k ≤ n ∧ i = .int .i64 k ∧ le = .int .u32 (leastAt l k) ∧ 0 ≤ leastAt l k ∧ leastAt l k < 4294967296 ∧ V (mayF next 1 (l.take k) = true) ∧ Kp w wr (fun _ => False) ∧ Kp wa wr (fun _ => False)) (fun _ _ i _ => n - (intOf i).toNat)
  case atStart => exact ⟨0, Nat.zero_le _, rfl, rfl, by simp [leastAt_zero], by simp [leastAt_zero], ⟨rfl⟩, hkp0, Kp.refl _ _⟩
  case round =>
    obtain ⟨k, hk, rfl, rfl, hle0, hle1, hso, hkp, hkpa⟩ := hrel
    have hbr := Blk.kp hbx hkpa (fun h => h)
    by_cases hgo : k < n
    · obtain ⟨ab, ao, rfl, hcs⟩ := (hrd.kp hkp (fun _ _ _ h => h)).base (by omega) (by rw [hvCells_length]; omega)
      obtain ⟨x0, x1, x2, x3⟩ := hv_at hcs k (by omega)
      clear hcs
      have hh := hok l[k] (List.getElem_mem _)
      have hi0 := hh.i0
      have hi1 := hh.i1
      have b0 := (hbr.alloc (.cells #[.int .u32 l[k].id, .int .u32 l[k].out, .int .u32 l[k].err, .bool l[k].st] 35)).cell' 0 rfl
      have hkp' := hkp.alloc (.cells #[.int .u32 l[k].id, .int .u32 l[k].out, .int .u32 l[k].err, .bool l[k].st] 35)
      have hkpa' := hkpa.alloc (.cells #[.int .u32 l[k].id, .int .u32 l[k].out, .int .u32 l[k].err, .bool l[k].st] 35)
      have hst := V.mk (mayF_step next l k (by omega))
      have hts := V.mk (mayF_take_succ next l k (by omega))
      have hls := leastAt_succ l k (by omega)
      by_cases hlt : l[k].id < leastAt l k
      · have e1 : V (may next l = false) := ⟨by unfold may; rw [hst.out, show decide (leastAt l k ≤ l[k].id) = false by simpa using hlt]; simp⟩
        clear hst hts hls
        have ht : decide (l[k].id < leastAt l k) = true := by simpa using hlt
        go_wp2
        go_ret
        exact ⟨ret_bool e1.out.symm, hkp'⟩
      · have ht : decide (l[k].id < leastAt l k) = false := by simpa using hlt
        by_cases hge : next ≤ l[k].id
        · have e1 : V (may next l = false) := ⟨by unfold may; rw [hst.out, show decide (l[k].id < next) = false by simpa using hge]; simp⟩
          clear hst hts hls
          have hg : decide (l[k].id ≥ next) = true := by simpa using hge
          go_wp2
          go_ret
          exact ⟨ret_bool e1.out.symm, hkp'⟩
        · have e1 : V (mayF next 1 (l.take (k + 1)) = true) := ⟨by rw [hts.out, hso.out, show decide (l[k].id < next) = true by simpa using hge, show decide (leastAt l k ≤ l[k].id) = true by simpa using hlt]; rfl⟩
          have e2 := V.mk hls
          clear hst hts hls
          have hg : decide (l[k].id ≥ next) = false := by simpa using hge
          go_wp2
          go_roundw
          case rel => exact ⟨k + 1, by omega, by go_num, by rw [e2.out], by rw [e2.out]; omega, by rw [e2.out]; omega, e1, hkp', hkpa'⟩
          case measure => simp [intOf]; omega
    · have e1 : V (mayF next 1 l = true) := ⟨by rw [← hso.out, List.take_of_length_le (by omega)]⟩
      have q0 := hbr.cell' 0 rfl
      have q1 := hbr.cell' 1 rfl
      by_cases hp : 0 < next
      · have hp' : decide (0 < next) = true := by simpa using hp
        go_wp2
        go_ret
        refine ⟨ret_bool ?_, hkp⟩
        unfold may
        rw [e1.out, hp', hl]
        simp
        omega
      · go_wp2
        go_ret
        refine ⟨?_, hkp⟩
        unfold may
        rw [show decide (0 < next) = false by simpa using hp]
        simp

end Go.Proofs.Ytboambncimdfjaa
