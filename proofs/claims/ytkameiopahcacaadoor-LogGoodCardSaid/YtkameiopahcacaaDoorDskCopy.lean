/- The program's disk: Copy; the law's Few. Condition: the disk is one. -/
import Derived.Test.YtkameiopahcacaaDoorDskMore
set_option linter.unusedVariables false
set_option linter.unusedSimpArgs false
set_option maxRecDepth 100000
namespace Go.Proofs.YtkameiopahcacaaDoor
open Go.RowKit

/-- A disk in new memory is handed back. -/
def CPost (w : World) (d : Dsk) (e : Ending) (w' : World) : Prop :=
  ∃ g r, e = .returned (.pointer (some ⟨g, 0, none⟩)) ∧ IsDisk w' g r d ∧ w.heap.size ≤ g ∧ New w r ∧ Kp w w' (fun _ => False)

set_option maxHeartbeats 400000 in
theorem copy_any (w : World) (g : Nat) (r : Option Nat) (d : Dsk) (h : IsDisk w g r d) (hok : d.ok) :
    Calls Tryd.prog 35 #[.pointer (some ⟨g, 0, none⟩)] w (CPost w d) := by
  obtain ⟨A0, c0, k0, k1, k2, k3, k4, k5, k6, k7, kf, HB, hrow⟩ := h.cells
  have hl : d.b.length ≤ 1048576 := by have := hok.len; have := hok.c1; omega
  clear hok
  have hlt := h.lt
  go_enter Tryd.func35, Tryd.ntmps35
  go_wp2_with (first
    | (go_at_call 38; refine (none_is w g r d h).mono ?_; rintro e w' ⟨rfl, rfl⟩)
    | (go_at_call 39; refine (clone_any _ A0 d.b.length c0 d.b rfl (hrow.rd.alloc _) hl).mono ?_; rintro e w' ⟨A', c', r', rfl, q1, q2, q3⟩; have hb := (Blk.new w #[Value.bool true, .int .i64 d.cap, .slice A0 d.b.length c0, .int .i64 d.puts, .bool d.st, .bool d.is, .int .i64 d.p, .int .i64 d.n] 79).kp q3 (fun h => h); have p2 := hb.cell' 2 rfl; have pf := hb.free))
  go_ret
  refine ⟨w.heap.size, r', rfl, ⟨A', c', by simpa using hb.set 2 (.slice A' d.b.length c'), q1.far (q1.ne_type hb (by decide)) _⟩, Nat.le_refl _, fun k hk => ?_, ?_⟩
  · have := q2 k hk
    rw [World.size_alloc] at this
    omega
  · exact ((((Kp.refl w (fun _ => False)).alloc _).quiet q3).set w.heap.size 2 _ (.inr (Nat.le_refl _)))

/-! ### The law's calls -/
/-- A call: what, at, many; its bytes, and the slice that they lie in. -/
structure DAct where
  what : Int
  at_ : Int
  many : Int
  A : Option Addr
  n : Nat
  c : Nat
  b : List Int

def DAct.cells (a : DAct) : List Value := [.int .i64 a.what, .int .i64 a.at_, .int .i64 a.many, .slice a.A a.n a.c]
def DAct.cut (a : DAct) (m : Nat) : DAct := { a with n := min a.n m, b := a.b.take m }

/-- The call's numbers are ints; its bytes lie in memory, below block B. -/
structure DAct.Ok (w : World) (B : Nat) (a : DAct) : Prop where
  what : -9223372036854775808 ≤ a.what ∧ a.what ≤ 9223372036854775807
  at_ : -9223372036854775808 ≤ a.at_ ∧ a.at_ ≤ 9223372036854775807
  many : -9223372036854775808 ≤ a.many ∧ a.many ≤ 9223372036854775807
  len : a.b.length = a.n
  rd : Rd w a.A a.n a.c (B8 a.b)
  low : ∀ ad, a.A = some ad → a.b ≠ [] → ad.block < B

theorem DAct.Ok.cut {w : World} {B : Nat} {a : DAct} (h : a.Ok w B) (m : Nat) : (a.cut m).Ok w B := by
  refine ⟨h.what, h.at_, h.many, ?_, ?_, ?_⟩
  · show (a.b.take m).length = min a.n m
    rw [List.length_take, h.len]; omega
  · have := h.rd.pre (min a.n m) (by omega)
    have e : (B8 a.b).take (min a.n m) = B8 (a.b.take m) := by
      rw [B8_take]
      by_cases hm : m ≤ a.n
      · rw [show min a.n m = m by omega]
      · rw [List.take_of_length_le (by simp [h.len]; omega), List.take_of_length_le (by simp [h.len]; omega)]
    rw [e] at this
    exact this
  · exact fun ad ha hne => h.low ad ha (by rintro h0; apply hne; show a.b.take m = []; rw [h0]; simp)

theorem DAct.Ok.below {w w1 : World} {B : Nat} {a : DAct} (h : a.Ok w B) (hb : Below B w w1) : a.Ok w1 B :=
  ⟨h.what, h.at_, h.many, h.len, h.rd.below hb (fun ad ha hne => h.low ad ha (by rintro h0; rw [h0] at hne; exact hne rfl)), h.low⟩

def actCells (l : List DAct) : List Value := l.flatMap DAct.cells
theorem actCells_length (l : List DAct) : (actCells l).length = l.length * 4 := by
  induction l with
  | nil => rfl
  | cons a l ih => simp only [actCells, List.flatMap_cons, List.length_append, List.length_cons] at ih ⊢; rw [ih]; simp [DAct.cells]; omega
theorem actCells_append (a b : List DAct) : actCells (a ++ b) = actCells a ++ actCells b := by simp [actCells]
theorem actCells_at (l : List DAct) (i j : Nat) (hi : i < l.length) (hj : j < 4) : (actCells l)[i * 4 + j]? = l[i].cells[j]? := by
  induction l generalizing i with
  | nil => simp at hi
  | cons a l ih =>
    cases i with
    | zero => simp only [actCells, List.flatMap_cons, Nat.zero_mul, Nat.zero_add]; rw [List.getElem?_append_left (by simpa [DAct.cells] using hj)]; rfl
    | succ i =>
      simp only [actCells, List.flatMap_cons]
      rw [List.getElem?_append_right (by simp [DAct.cells]; omega)]
      have := ih i (by simpa using hi)
      simp only [actCells] at this
      rw [show (i + 1) * 4 + j - (DAct.cells a).length = i * 4 + j by simp [DAct.cells]; omega, this]
      rfl

end Go.Proofs.YtkameiopahcacaaDoor
