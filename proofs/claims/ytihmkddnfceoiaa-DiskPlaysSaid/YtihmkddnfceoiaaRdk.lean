/- The document's disk (longwireref14): what each of its functions does, in the model's words. Condition: the disk is one. -/
import Derived.Test.YtihmkddnfceoiaaDsk
import Derived.Test.YtihmkddnfceoiaaRdkM
import Derived.StillTailTactics
set_option linter.unusedVariables false
set_option linter.unusedSimpArgs false
namespace Go.Proofs.Ytihmkddnfceoiaa
open Go.RowKit

def IsRdk (w : World) (g : Nat) (r : Option Nat) (e : Rdk) : Prop :=
  ∃ A c, Blk w g #[.int .i64 e.cap, .slice A e.b.length c, .int .i64 e.puts, .bool e.st, .int .i64 e.left, .int .i64 e.bytes] 45 ∧
    Row w 5 1 A e.b.length c (B8 e.b) r

section
variable {w w1 : World} {g : Nat} {r : Option Nat} {e : Rdk} {S : Nat → Prop}
theorem IsRdk.kp (h : IsRdk w g r e) (hk : Kp w w1 S) (h1 : ¬ S g) (h2 : ∀ k, r = some k → ¬ S k) : IsRdk w1 g r e := by
  obtain ⟨A, c, hb, hr⟩ := h
  exact ⟨A, c, hb.kp hk h1, hr.kp hk h2⟩
theorem IsRdk.ne (h : IsRdk w g r e) : r ≠ some g := by
  obtain ⟨A, c, hb, hr⟩ := h
  exact hr.ne_type hb (by decide)
theorem IsRdk.lt (h : IsRdk w g r e) : g < w.heap.size := by
  obtain ⟨A, c, hb, hr⟩ := h
  exact hb.lt
theorem IsRdk.rlt (h : IsRdk w g r e) {k : Nat} (hk : r = some k) : k < w.heap.size := by
  obtain ⟨A, c, hb, hr⟩ := h
  exact hr.lt hk
theorem IsRdk.cells (h : IsRdk w g r e) : ∃ A c, w.cell? ⟨g, 0, none⟩ = some (.int .i64 e.cap) ∧ w.cell? ⟨g, 1, none⟩ = some (.slice A e.b.length c) ∧
    w.cell? ⟨g, 2, none⟩ = some (.int .i64 e.puts) ∧ w.cell? ⟨g, 3, none⟩ = some (.bool e.st) ∧ w.cell? ⟨g, 4, none⟩ = some (.int .i64 e.left) ∧ w.cell? ⟨g, 5, none⟩ = some (.int .i64 e.bytes) ∧
    (∀ j, w.frozen? ⟨g, j, none⟩ = false) ∧ Blk w g #[.int .i64 e.cap, .slice A e.b.length c, .int .i64 e.puts, .bool e.st, .int .i64 e.left, .int .i64 e.bytes] 45 ∧
    Row w 5 1 A e.b.length c (B8 e.b) r := by
  obtain ⟨A, c, hb, hr⟩ := h
  exact ⟨A, c, hb.cell' 0 rfl, hb.cell' 1 rfl, hb.cell' 2 rfl, hb.cell' 3 rfl, hb.cell' 4 rfl, hb.cell' 5 rfl, hb.free, hb, hr⟩
theorem IsRdk.set_puts (h : IsRdk w g r e) (x : Int) : IsRdk (w.setCell ⟨g, 2, none⟩ (.int .i64 x)) g r { e with puts := x } := by
  obtain ⟨A, c, hb, hr⟩ := h
  exact ⟨A, c, by simpa using hb.set 2 (.int .i64 x), hr.far (hr.ne_type hb (by decide)) _⟩
theorem IsRdk.set_st (h : IsRdk w g r e) (x : Bool) : IsRdk (w.setCell ⟨g, 3, none⟩ (.bool x)) g r { e with st := x } := by
  obtain ⟨A, c, hb, hr⟩ := h
  exact ⟨A, c, by simpa using hb.set 3 (.bool x), hr.far (hr.ne_type hb (by decide)) _⟩
theorem IsRdk.set_left (h : IsRdk w g r e) (x : Int) : IsRdk (w.setCell ⟨g, 4, none⟩ (.int .i64 x)) g r { e with left := x } := by
  obtain ⟨A, c, hb, hr⟩ := h
  exact ⟨A, c, by simpa using hb.set 4 (.int .i64 x), hr.far (hr.ne_type hb (by decide)) _⟩
theorem IsRdk.set_bytes (h : IsRdk w g r e) (x : Int) : IsRdk (w.setCell ⟨g, 5, none⟩ (.int .i64 x)) g r { e with bytes := x } := by
  obtain ⟨A, c, hb, hr⟩ := h
  exact ⟨A, c, by simpa using hb.set 5 (.int .i64 x), hr.far (hr.ne_type hb (by decide)) _⟩
end

def RPost (w : World) (g : Nat) (r : Option Nat) (res : Int × Rdk) (e : Ending) (w' : World) : Prop :=
  e = .returned (.int .i64 res.1) ∧ ∃ r', IsRdk w' g r' res.2 ∧ Kp w w' (fun k => k = g ∨ r = some k) ∧ Fr w r r'

theorem RPost.same {w : World} {g : Nat} {r : Option Nat} {d : Rdk} (h : IsRdk w g r d) (x : Int) : RPost w g r (x, d) (.returned (.int .i64 x)) w :=
  ⟨rfl, r, h, Kp.refl _ _, .inl rfl⟩

theorem rnew_ok (w : World) (cap : Int) (h0 : 0 ≤ cap) (h1 : cap ≤ 1048576) :
    Calls Try.prog 15 #[.int .i64 cap] w fun e w' => e = .returned (.tuple #[.pointer (some ⟨w.heap.size, 0, none⟩), .int .i64 0]) ∧
      IsRdk w' w.heap.size none ⟨cap, [], 0, false, -1, 0⟩ ∧ Kp w w' (fun _ => False) ∧ w.heap.size < w'.heap.size := by
  go_enter Try.func15, Try.ntmps15
  go_wp2
  go_ret2
  refine ⟨rfl, ⟨none, 0, ?_, Row.nil _ _ _⟩, ?_, by simp⟩
  · exact Blk.new _ _ _
  · exact (Kp.refl w _).alloc _

theorem rnew_no (w : World) (cap : Int) (h : cap < 0 ∨ 1048576 < cap) :
    Calls Try.prog 15 #[.int .i64 cap] w fun e w' => e = .returned (.tuple #[.pointer none, .int .i64 1]) ∧ w = w' := by
  go_enter Try.func15, Try.ntmps15
  go_wp2
  all_goals (go_ret2; exact ⟨rfl, rfl⟩)

theorem rplan_any (w : World) (g : Nat) (r : Option Nat) (d : Rdk) (h : IsRdk w g r d) (puts bytes : Int) :
    Calls Try.prog 18 #[.pointer (some ⟨g, 0, none⟩), .int .i64 puts, .int .i64 bytes] w (RPost w g r (d.plan puts bytes)) := by
  obtain ⟨A0, c0, k0, k1, k2, k3, k4, k5, kf, -, -⟩ := h.cells
  unfold Rdk.plan
  by_cases hst : d.st = true
  · rw [if_pos hst]
    go_enter Try.func18, Try.ntmps18
    go_wp2
    go_ret
    exact RPost.same h _
  · rw [if_neg hst]
    by_cases hp : puts < 0 ∨ bytes < 0
    · rw [if_pos hp]
      go_enter Try.func18, Try.ntmps18
      go_wp2
      all_goals (go_ret; exact RPost.same h _)
    · rw [if_neg hp]
      go_enter Try.func18, Try.ntmps18
      go_wp2
      go_ret
      exact ⟨rfl, r, (h.set_left puts).set_bytes bytes, ((Kp.refl w _).set g 4 _ (.inl (.inl rfl))).set g 5 _ (.inl (.inl rfl)), .inl rfl⟩

theorem rrevive_any (w : World) (g : Nat) (r : Option Nat) (d : Rdk) (h : IsRdk w g r d) :
    Calls Try.prog 20 #[.pointer (some ⟨g, 0, none⟩)] w (RPost w g r d.revive) := by
  obtain ⟨A0, c0, k0, k1, k2, k3, k4, k5, kf, -, -⟩ := h.cells
  unfold Rdk.revive
  by_cases hst : d.st = true
  · rw [if_pos hst]
    go_enter Try.func20, Try.ntmps20
    go_wp2
    go_ret
    exact ⟨rfl, r, h.set_st false, (Kp.refl w _).set g 3 _ (.inl (.inl rfl)), .inl rfl⟩
  · rw [if_neg hst]
    go_enter Try.func20, Try.ntmps20
    go_wp2
    go_ret
    exact RPost.same h _

set_option maxHeartbeats 400000 in
theorem rread_any (w : World) (g : Nat) (r : Option Nat) (d : Rdk) (h : IsRdk w g r d) (at_ many : Int) (hlen : d.b.length ≤ 1048576) (hat : at_ ≤ 9223372036854775807) :
    Calls Try.prog 21 #[.pointer (some ⟨g, 0, none⟩), .int .i64 at_, .int .i64 many] w (BPost w (d.read at_ many)) := by
  obtain ⟨A0, c0, k0, k1, k2, k3, k4, k5, kf, HB, hrow⟩ := h.cells
  obtain ⟨i0, hi, hz0, hz1, hz2⟩ := info_parts i_byte
  go_enter Try.func21, Try.ntmps21
  go_wp2
  go_loopw [7, 8] (fun v i wr => ∃ (k : Nat) (A : Option Addr) (c : Nat) (r1 : Option Nat), (k : Int) ≤ 1048576 ∧ (k = 0 ∨ (0 ≤ at_ ∧ k ≤ many.toNat ∧ at_.toNat + k ≤ d.b.length)) ∧ i = .int .i64 k ∧ v = .slice A k c ∧
      Row wr 5 1 A k c (B8 ((d.b.drop at_.toNat).take k)) r1 ∧ (∀ j, r1 = some j → w.heap.size ≤ j) ∧ Kp w wr (fun _ => False)) (fun _ i _ => 1048577 - (intOf i).toNat)
  case atStart => exact ⟨0, none, 0, none, by omega, .inl rfl, rfl, rfl, Row.nil _ _ _, by simp, Kp.refl _ _⟩
  case round =>
    obtain ⟨k, A, c, r1, hk, hkk, rfl, rfl, hrow1, hfr1, hkp1⟩ := hrel
    have HB1 := HB.kp hkp1 (fun h => h)
    have q1 := HB1.cell' 1 rfl
    have hkm : (k : Int) ≤ many ∨ many < k := by omega
    by_cases hgo : 0 ≤ at_ ∧ (k : Int) < many ∧ at_ + k < d.b.length
    · obtain ⟨g0, g1, g2⟩ := hgo
      obtain ⟨a, rfl⟩ : ∃ a : Nat, at_ = a := ⟨at_.toNat, by omega⟩
      have hrow' := hrow.kp hkp1 (fun _ _ h => h)
      obtain ⟨gb, rfl, hr⟩ := hrow'.addr (by omega)
      have hlt : a + k < d.b.length := by omega
      have hc := hrow'.rd.2.2.2 _ rfl (a + k) (.int .u8 (d.b[a + k])) (by simp [B8, hlt])
      rw [add_zero'] at hc
      have hkm' : k + 1 ≤ 1048576 := by omega
      have hkmax : k + 1 ≤ maxLen := by simp only [maxLen]; omega
      have hcc := hrow.le
      go_wp2_with (at_builtin; refine wpList_app rfl (.tmp 29) (.tmp 39) 22 rfl 5 i0 (.int .u8 0) 1 1 u_bytes hi hz0 hz1 hz2 rfl (by decide) A k c _ r1 (by rfl) (hrow1.alloc _) _ 1 1 [.int .u8 (d.b[a + k])] (by rfl) (Rd.box _ _ _) rfl (by simp [Value.oneCell']) (k + 1) rfl (by omega) hkmax ?_)
      intro A2 c2 r2 w2 hrow2 hkp2 hfr2 _
      have hkp3 : Kp w w2 (fun _ => False) := ((hkp1.alloc _).trans hkp2 (fun j hj => .inr (hfr1 j hj)))
      have hfr3 : ∀ j, r2 = some j → w.heap.size ≤ j := fun j hj => by
        rcases hfr2.of_lt hj with h | h
        · exact hfr1 j h
        · have := hkp1.size
          rw [World.size_alloc] at h
          omega
      have e2 : B8 ((d.b.drop a).take (k + 1)) = B8 ((d.b.drop a).take k) ++ [.int .u8 (d.b[a + k])] := by
        rw [List.take_succ_eq_append_getElem (by simp; omega), B8_append]
        simp [B8]
      have hrow3 : Row w2 5 1 A2 (k + 1) c2 (B8 ((d.b.drop a).take (k + 1))) r2 := by rw [e2]; exact hrow2
      clear e2 hrow2 hrow1 hkp2 hfr2 hfr1 hc q1 k0 k1 k2 k3 k4 k5
      go_wp2
      go_roundw
      case rel => exact ⟨k + 1, A2, c2, r2, by omega, .inr ⟨by omega, by omega, by omega⟩, by go_num, rfl, hrow3, hfr3, hkp3⟩
      case measure => simp [intOf]; omega
    · go_wp2_with fail
      all_goals
        go_ret
        refine ⟨A, k, c, r1, rfl, ?_, hfr1, hkp1⟩
        have e1 : d.read at_ many = (d.b.drop at_.toNat).take k := by
          unfold Rdk.read
          by_cases h0 : at_ < 0
          · rw [if_pos h0]
            obtain rfl : k = 0 := by omega
            rfl
          · rw [if_neg h0]
            by_cases h1 : (k : Int) < many
            · rw [List.take_of_length_le (by simp; omega), List.take_of_length_le (by simp; omega)]
            · rw [show many.toNat = k by omega]
        rw [e1]
        exact hrow1

theorem rput_st (w : World) (g : Nat) (r : Option Nat) (d : Rdk) (h : IsRdk w g r d) (at_ : Int) (A : Option Addr) (n c : Nat) (hst : d.st = true) :
    Calls Try.prog 17 #[.pointer (some ⟨g, 0, none⟩), .int .i64 at_, .slice A n c] w (RPost w g r (10, d)) := by
  obtain ⟨A0, c0, k0, k1, k2, k3, k4, k5, kf, -, -⟩ := h.cells
  go_enter Try.func17, Try.ntmps17
  go_wp2
  go_ret
  exact RPost.same h _

theorem rput_at (w : World) (g : Nat) (r : Option Nat) (d : Rdk) (h : IsRdk w g r d) (at_ : Int) (A : Option Addr) (n c : Nat) (hst : d.st = false) (hlt : at_ < 0 ∨ (d.b.length : Int) < at_) :
    Calls Try.prog 17 #[.pointer (some ⟨g, 0, none⟩), .int .i64 at_, .slice A n c] w (RPost w g r (1, d)) := by
  obtain ⟨A0, c0, k0, k1, k2, k3, k4, k5, kf, -, -⟩ := h.cells
  go_enter Try.func17, Try.ntmps17
  go_wp2
  all_goals (go_ret; exact RPost.same h _)

theorem rput_full (w : World) (g : Nat) (r : Option Nat) (d : Rdk) (h : IsRdk w g r d) (at_ : Int) (A : Option Addr) (n c : Nat) (hst : d.st = false) (h0 : 0 ≤ at_) (h1 : at_ ≤ d.b.length) (hl : d.b.length ≤ 1048576) (h2 : d.cap < at_ + n) (hn : n ≤ 140737488355328) :
    Calls Try.prog 17 #[.pointer (some ⟨g, 0, none⟩), .int .i64 at_, .slice A n c] w (RPost w g r (7, d)) := by
  obtain ⟨A0, c0, k0, k1, k2, k3, k4, k5, kf, -, -⟩ := h.cells
  go_enter Try.func17, Try.ntmps17
  go_wp2
  go_ret
  exact RPost.same h _

end Go.Proofs.Ytihmkddnfceoiaa
