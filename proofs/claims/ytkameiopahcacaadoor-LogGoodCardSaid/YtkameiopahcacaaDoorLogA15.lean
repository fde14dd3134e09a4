/- A log: none, Next, Size, All, frames. Condition: the log stands at a block (or there is none). -/
import Derived.Test.YtkameiopahcacaaDoorFrm15
import Derived.Test.YtkameiopahcacaaDoorDskPut
set_option linter.unusedVariables false
set_option linter.unusedSimpArgs false
set_option maxRecDepth 100000
namespace Go.Proofs.YtkameiopahcacaaDoor
open Go.RowKit

/-- A log at block g: its disk's block, where it ends, the last check, the next number. -/
def IsLog (w : World) (g d : Nat) (at_ sum next : Nat) : Prop := Blk w g #[.pointer (some ⟨d, 0, none⟩), .int .i64 at_, .int .u32 sum, .int .u32 next] 26

theorem lnone_is (w : World) (g d at_ sum next : Nat) (h : IsLog w g d at_ sum next) :
    Calls Tryd.prog 31 #[.pointer (some ⟨g, 0, none⟩)] w fun e w' => e = .returned (.bool false) ∧ w = w' := by
  have q0 := Blk.cell' h 0 rfl
  go_enter Tryd.func31, Tryd.ntmps31
  go_wp2
  go_ret
  exact ⟨rfl, rfl⟩
theorem lnone_nil (w : World) :
    Calls Tryd.prog 31 #[.pointer none] w fun e w' => e = .returned (.bool true) ∧ w = w' := by
  go_enter Tryd.func31, Tryd.ntmps31
  go_wp2
  go_ret
  exact ⟨rfl, rfl⟩
theorem lnext_is (w : World) (g d at_ sum next : Nat) (h : IsLog w g d at_ sum next) :
    Calls Tryd.prog 9 #[.pointer (some ⟨g, 0, none⟩)] w fun e w' => e = .returned (.int .u32 next) ∧ w = w' := by
  have hn := V.mk (lnone_is w g d at_ sum next h)
  have q3 := Blk.cell' h 3 rfl
  go_enter Tryd.func9, Tryd.ntmps9
  go_wp2_with fail
  refine hn.out.mono ?_
  rintro e w1 ⟨rfl, rfl⟩
  go_wp2
  go_ret
  exact ⟨rfl, rfl⟩
theorem lnext_nil (w : World) :
    Calls Tryd.prog 9 #[.pointer none] w fun e w' => e = .returned (.int .u32 0) ∧ w = w' := by
  have hn := V.mk (lnone_nil w)
  go_enter Tryd.func9, Tryd.ntmps9
  go_wp2_with fail
  refine hn.out.mono ?_
  rintro e w1 ⟨rfl, rfl⟩
  go_wp2
  go_ret
  exact ⟨rfl, rfl⟩
theorem lsize_is (w : World) (g d at_ sum next : Nat) (h : IsLog w g d at_ sum next) :
    Calls Tryd.prog 10 #[.pointer (some ⟨g, 0, none⟩)] w fun e w' => e = .returned (.int .i64 at_) ∧ w = w' := by
  have hn := V.mk (lnone_is w g d at_ sum next h)
  have q3 := Blk.cell' h 1 rfl
  go_enter Tryd.func10, Tryd.ntmps10
  go_wp2_with fail
  refine hn.out.mono ?_
  rintro e w1 ⟨rfl, rfl⟩
  go_wp2
  go_ret
  exact ⟨rfl, rfl⟩
theorem lsize_nil (w : World) :
    Calls Tryd.prog 10 #[.pointer none] w fun e w' => e = .returned (.int .i64 0) ∧ w = w' := by
  have hn := V.mk (lnone_nil w)
  go_enter Tryd.func10, Tryd.ntmps10
  go_wp2_with fail
  refine hn.out.mono ?_
  rintro e w1 ⟨rfl, rfl⟩
  go_wp2
  go_ret
  exact ⟨rfl, rfl⟩

/-- A closure over one box. -/
def CloX (w : World) (f : Nat) (cs : Array Value) (t : TypeId) (e : Ending) (w' : World) : Prop :=
  e = .returned (.func (.func f) #[] #[.pointer (some ⟨w.heap.size, 0, none⟩)]) ∧ w' = w.alloc (.cells cs t)
theorem frames_any (w : World) (A : Option Addr) (n c : Nat) :
    Calls Tryd.prog 36 #[.slice A n c] w (CloX w 56 #[.slice A n c] 38) := by
  go_enter Tryd.func36, Tryd.ntmps36
  go_wp2
  go_ret
  exact ⟨rfl, rfl⟩
theorem lall_any (w : World) (g : Option Addr) :
    Calls Tryd.prog 28 #[.pointer g] w (CloX w 48 #[.pointer g] 22) := by
  go_enter Tryd.func28, Tryd.ntmps28
  go_wp2
  go_ret
  exact ⟨rfl, rfl⟩

end Go.Proofs.YtkameiopahcacaaDoor
