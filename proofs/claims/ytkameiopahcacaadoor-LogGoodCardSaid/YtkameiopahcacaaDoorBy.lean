/- Bytes: rows of numbers of one byte; a copy of them. Condition: the slice is read. -/
import Derived.Test.YtkameiopahcacaaDoorLib
import Derived.Test.YtkameiopahcacaaDoorProg
import Derived.KernelRfl
import Derived.Lib.SlBytesConst
set_option linter.unusedVariables false
set_option linter.unusedSimpArgs false
namespace Go.Proofs.YtkameiopahcacaaDoor
open Go.RowKit

def B8 (l : List Int) : List Value := l.map (Value.int .u8)
@[simp] theorem B8_length (l : List Int) : (B8 l).length = l.length := by simp [B8]
theorem B8_one (l : List Int) : ∀ u ∈ B8 l, u.oneCell' = true := ints_oneCell _ _
theorem B8_append (a b : List Int) : B8 (a ++ b) = B8 a ++ B8 b := by simp [B8]
theorem B8_take (a : List Int) (n : Nat) : B8 (a.take n) = (B8 a).take n := by simp [B8, List.map_take]
theorem B8_drop (a : List Int) (n : Nat) : B8 (a.drop n) = (B8 a).drop n := by simp [B8, List.map_drop]
theorem B8_nil_iff (a : List Int) : B8 a = [] ↔ a = [] := by simp [B8]

theorem u_string : Tryd.prog.underlying 9 = some .string := by kernel_rfl
theorem u_bytes : Tryd.prog.underlying 38 = some (.slice 5) := by kernel_rfl
theorem u_byte : Tryd.prog.underlying 5 = some (.int .u8) := by kernel_rfl
theorem u_int : Tryd.prog.underlying 3 = some (.int .i64) := by kernel_rfl
theorem i_byte : (Tryd.prog.info? 5).map (fun i => (i.zero, i.size, i.bytes)) = some (some (.int .u8 0), 1, 1) := by kernel_rfl

theorem cv_bytes (w : World) (C : Array Value) (n c : Nat) : (convert 38 38 (.slice (some ⟨w.heap.size, 0, none⟩) n c)).run Tryd.prog (w.alloc (.cells C 5)) = .ok (.slice (some ⟨w.heap.size, 0, none⟩) n c) (w.alloc (.cells C 5 (C.size, C.size + 1))) :=
  Lib.run_convert_bytes_const (P := Tryd.prog) w 38 5 C n c u_bytes u_byte

/-- Bytes in new memory are handed back (or nil, for none). -/
def BPost (w : World) (bs : List Int) (e : Ending) (w' : World) : Prop :=
  ∃ A n c r, e = .returned (.slice A n c) ∧ Row w' 5 1 A n c (B8 bs) r ∧ (∀ k, r = some k → w.heap.size ≤ k) ∧ Kp w w' (fun _ => False)

theorem rd_take {w : World} {A : Option Addr} {n c : Nat} {x : List Int} (h : Rd w A n c (B8 x)) (m : Nat) (hm : m ≤ n) : Rd w A m c (B8 (x.take m)) := by
  refine ⟨by have := h.1; omega, h.2.1, h.2.2.1, fun ad ha j u hu => h.2.2.2 ad ha j u ?_⟩
  rw [B8_take, List.getElem?_take] at hu
  split at hu
  · exact hu
  · simp at hu

/-- slices.Clone of bytes: nil, or new memory that reads the same. -/
theorem clone_any (w : World) (A : Option Addr) (n c : Nat) (x : List Int) (hx : x.length = n) (hrd : Rd w A n c (B8 x)) (hn : n ≤ 1048576) :
    Calls Tryd.prog 39 #[.slice A n c] w fun e w' => ∃ A' c' r', e = .returned (.slice A' n c') ∧ Row w' 5 1 A' n c' (B8 x) r' ∧ (∀ k, r' = some k → w.heap.size ≤ k) ∧ Kp w w' (fun _ => False) := by
  obtain ⟨i0, hi, hz0, hz1, hz2⟩ := info_parts i_byte
  have hnil := fun (A : Option Addr) (n c : Nat) (w : World) => Lib.run_eql_slice_nil (P := Tryd.prog) w 38 5 A n c 0 0 u_bytes
  have hxV := V.mk hx
  clear hx
  cases A with
  | none =>
    have hc := hrd.2.2.1 rfl
    have hnc := hrd.1
    obtain rfl : n = 0 := by omega
    have hx0 : x = [] := List.eq_nil_of_length_eq_zero hxV.out
    clear hc
    go_enter Tryd.func39, Tryd.ntmps39
    go_wp2
    go_ret
    exact ⟨none, 0, none, rfl, by rw [hx0]; exact Row.nil _ _ _, by simp, Kp.refl _ _⟩
  | some ad =>
    go_enter Tryd.func39, Tryd.ntmps39
    go_wp2_with (at_builtin; refine wpList_app rfl (.tmp 5) (.tmp 6) 38 rfl 5 i0 (.int .u8 0) 1 1 u_bytes hi hz0 hz1 hz2 rfl (by decide) _ 0 0 [] _ (by rfl) (Row.made0 w _ 1) (some ad) n c (B8 x) (by rfl) (hrd.alloc _) (by simp [hxV.out]) (B8_one x) n (by omega) (by omega) (by simp only [maxLen]; omega) ?_)
    intro A' c' r' w' hrow hkp hfr _
    go_wp2
    go_ret
    refine ⟨A', c', r', rfl, hrow, ?_, ?_⟩
    · intro k hk
      rcases hfr.of_lt hk with h | h
      · simp only [Option.some.injEq] at h; omega
      · rw [World.size_alloc] at h; omega
    · exact ((Kp.refl w (fun _ => False)).alloc _).trans hkp (fun k hk => .inr (by cases hk; exact Nat.le_refl _))

end Go.Proofs.YtkameiopahcacaaDoor
