/- A log that is none: nil, or a zero value; Recover of no disk. No condition. -/
import Derived.Test.YtkameiopahcacaaDoorLogC15
set_option linter.unusedVariables false
set_option linter.unusedSimpArgs false
set_option maxRecDepth 100000
namespace Go.Proofs.YtkameiopahcacaaDoor
open Go.RowKit Go.Shelf

def ZLog (w : World) (g : Nat) : Prop := Blk w g #[.pointer none, .int .i64 0, .int .u32 0, .int .u32 0] 26
theorem lnone_zero (w : World) (g : Nat) (h : ZLog w g) :
    Calls Tryd.prog 31 #[.pointer (some ⟨g, 0, none⟩)] w fun e w' => e = .returned (.bool true) ∧ w = w' := by
  have q0 := Blk.cell' h 0 rfl
  go_enter Tryd.func31, Tryd.ntmps31
  go_wp2
  go_ret
  exact ⟨rfl, rfl⟩
theorem lsize_zero (w : World) (g : Nat) (h : ZLog w g) :
    Calls Tryd.prog 10 #[.pointer (some ⟨g, 0, none⟩)] w fun e w' => e = .returned (.int .i64 0) ∧ w = w' := by
  have hn := V.mk (lnone_zero w g h)
  go_enter Tryd.func10, Tryd.ntmps10
  go_wp2_with fail
  refine hn.out.mono ?_
  rintro e w1 ⟨rfl, rfl⟩
  go_wp2
  go_ret
  exact ⟨rfl, rfl⟩
theorem lappend_zero (w : World) (g : Nat) (h : ZLog w g) (A : Option Addr) (n c : Nat) :
    Calls Tryd.prog 7 #[.pointer (some ⟨g, 0, none⟩), .slice A n c] w fun e w' => e = .returned (.tuple #[.int .u32 0, .int .i64 2]) ∧ w = w' := by
  have hn0 := V.mk (lnone_zero w g h)
  go_enter Tryd.func7, Tryd.ntmps7
  go_wp2_with fail
  refine hn0.out.mono ?_
  rintro e w0 ⟨rfl, rfl⟩
  go_wp2
  exact bodyPost_ret (v := .tuple #[.int .u32 0, .int .i64 2]) (by simp [results, Tryd.results7, go_sem]) rfl ⟨rfl, rfl⟩
theorem copy_nil (w : World) :
    Calls Tryd.prog 35 #[.pointer none] w fun e w' => e = .returned (.pointer none) ∧ w = w' := by
  have hn0 := V.mk (none_nil w)
  go_enter Tryd.func35, Tryd.ntmps35
  go_wp2_with fail
  refine hn0.out.mono ?_
  rintro e w0 ⟨rfl, rfl⟩
  go_wp2
  go_ret
  exact ⟨rfl, rfl⟩
set_option maxHeartbeats 1000000 in
theorem recover_nil (w : World) :
    Calls Tryd.prog 8 #[.pointer none] w fun e w' => e = .returned (.tuple #[.pointer none, .int .i64 2]) ∧ w = w' := by
  have hn0 := V.mk (copy_nil w)
  refine calls_of_wp_marks Tryd.func8 rfl ?_
  simp only [Tryd.ntmps8, List.size_toArray, List.length_cons, List.length_nil, Nat.reduceAdd, Nat.reduceSub, Array.replicate_succ, Array.replicate_zero, List.push_toArray, List.append_toArray, List.nil_append, List.cons_append]
  go_wp2_with fail
  refine hn0.out.mono ?_
  rintro e w0 ⟨rfl, rfl⟩
  go_wp2
  refine marks_ret0 (v := .tuple #[.pointer none, .int .i64 2]) (by simp [results, Tryd.results8, go_sem]) ?_
  exact ⟨rfl, rfl⟩

end Go.Proofs.YtkameiopahcacaaDoor
