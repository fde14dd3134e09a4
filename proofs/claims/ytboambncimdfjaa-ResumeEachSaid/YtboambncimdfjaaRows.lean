/-
  No cell of these rows narrows 'for every input' (looked for: loops, veiled, ifaces, maps, wideKeys, modest, calm, conditions, laid).
  DERIVED. THE GIVEN ROWS OF THIS SEAT. 5 by the template 'for every input the law returns true; each argument reads behind the call as it read before'; 0 by the template 'total and deterministic' (their statements: YtboambncimdfjaaTotals.lean).
  GIVEN WITH THE SEED: the statements are not yours to turn. If you find one false, say at which input.
  Laid BY PROGRAM, IN A SANDBOX (cutbox-rows.mjs): the forced cells as the released guide's own fill.sh prints them over the translation fb2ec53847bd8856… (all of the seat's roots in one cut). By AI agents, Wed Nov 11 2026. No macro, syntax, notation, axiom, sorry.
-/
import Derived.Test.YtboambncimdfjaaChecked
import GoSem.Claim
import GoSem.ClaimJoined
import GoSem.ClaimMapViews
import Derived.JoinedTies
import Derived.KernelRfl
namespace Go.Proofs.Ytboambncimdfjaa
/- THE CELL 'sum', in the pinned program and in every row, IS THE sha256 OF THE DUMP (.gsa) THAT YtboambncimdfjaaProg.lean LOADS. Nothing in Lean hashes anything: it is a label: what it is worth is what the hold of that sum in a sandbox is worth. -/
noncomputable def Try.pinned : Pinned := { name := "ytboambncimdfjaa", sum := "fb2ec53847bd88566002970408dfa04df168fbc2e9054daa1b7cdce183b13cbe", checked := Try.checked }
namespace Rows
def none {H : Type} : Left H := { results := [], args := [] }

/-- 'longwirelaw13.ResumeEach': WHATEVER THE INPUT: true; the input reads as it did. -/
def resumeEachSpec : ChangeSpec := { name := "resumeEach", fn := fun _ => fun
  | [d1, d2, d3, d4] => { results := [.lit (.bool true)], args := [d1, d2, d3, d4] }
  | _ => none }
def resumeEachRow : OpenClaim := { program := "ytboambncimdfjaa", sum := "fb2ec53847bd88566002970408dfa04df168fbc2e9054daa1b7cdce183b13cbe", func := "longwire/longwirelaw13.ResumeEach", spec := "resumeEach", unfollowed := true, recurses := true, apart := false }
def ResumeEachSaid : Prop := resumeEachRow.holds Try.pinned (OpenSpec.ofChange resumeEachSpec)

/-- ITS FALSE NEIGHBOUR: 'it returns false'. Refute it at one input. -/
def resumeEachWrong : ChangeSpec := { name := "resumeEach", fn := fun _ => fun
  | [d1, d2, d3, d4] => { results := [.lit (.bool false)], args := [d1, d2, d3, d4] }
  | _ => none }
def ResumeEachWrongFalsely : Prop := resumeEachRow.holds Try.pinned (OpenSpec.ofChange resumeEachWrong)

/-- 'longwirelaw13.ResumeTells': WHATEVER THE INPUT: true; the input reads as it did. -/
def resumeTellsSpec : ChangeSpec := { name := "resumeTells", fn := fun _ => fun
  | [d1, d2] => { results := [.lit (.bool true)], args := [d1, d2] }
  | _ => none }
def resumeTellsRow : OpenClaim := { program := "ytboambncimdfjaa", sum := "fb2ec53847bd88566002970408dfa04df168fbc2e9054daa1b7cdce183b13cbe", func := "longwire/longwirelaw13.ResumeTells", spec := "resumeTells", unfollowed := true, recurses := true, apart := false }
def ResumeTellsSaid : Prop := resumeTellsRow.holds Try.pinned (OpenSpec.ofChange resumeTellsSpec)

/-- ITS FALSE NEIGHBOUR: 'it returns false'. Refute it at one input. -/
def resumeTellsWrong : ChangeSpec := { name := "resumeTells", fn := fun _ => fun
  | [d1, d2] => { results := [.lit (.bool false)], args := [d1, d2] }
  | _ => none }
def ResumeTellsWrongFalsely : Prop := resumeTellsRow.holds Try.pinned (OpenSpec.ofChange resumeTellsWrong)

/-- 'longwirelaw13.ResumeReads': WHATEVER THE INPUT: true; the input reads as it did. -/
def resumeReadsSpec : ChangeSpec := { name := "resumeReads", fn := fun _ => fun
  | [d1, d2] => { results := [.lit (.bool true)], args := [d1, d2] }
  | _ => none }
def resumeReadsRow : OpenClaim := { program := "ytboambncimdfjaa", sum := "fb2ec53847bd88566002970408dfa04df168fbc2e9054daa1b7cdce183b13cbe", func := "longwire/longwirelaw13.ResumeReads", spec := "resumeReads", unfollowed := true, recurses := true, apart := false }
def ResumeReadsSaid : Prop := resumeReadsRow.holds Try.pinned (OpenSpec.ofChange resumeReadsSpec)

/-- ITS FALSE NEIGHBOUR: 'it returns false'. Refute it at one input. -/
def resumeReadsWrong : ChangeSpec := { name := "resumeReads", fn := fun _ => fun
  | [d1, d2] => { results := [.lit (.bool false)], args := [d1, d2] }
  | _ => none }
def ResumeReadsWrongFalsely : Prop := resumeReadsRow.holds Try.pinned (OpenSpec.ofChange resumeReadsWrong)

/-- 'longwirelaw13.ResumeKnown': WHATEVER THE INPUT: true; the input reads as it did. -/
def resumeKnownSpec : ChangeSpec := { name := "resumeKnown", fn := fun _ => fun
  | [] => { results := [.lit (.bool true)], args := [] }
  | _ => none }
def resumeKnownRow : OpenClaim := { program := "ytboambncimdfjaa", sum := "fb2ec53847bd88566002970408dfa04df168fbc2e9054daa1b7cdce183b13cbe", func := "longwire/longwirelaw13.ResumeKnown", spec := "resumeKnown", unfollowed := true, recurses := true, apart := false }
def ResumeKnownSaid : Prop := resumeKnownRow.holds Try.pinned (OpenSpec.ofChange resumeKnownSpec)

/-- ITS FALSE NEIGHBOUR: 'it returns false'. Refute it at one input. -/
def resumeKnownWrong : ChangeSpec := { name := "resumeKnown", fn := fun _ => fun
  | [] => { results := [.lit (.bool false)], args := [] }
  | _ => none }
def ResumeKnownWrongFalsely : Prop := resumeKnownRow.holds Try.pinned (OpenSpec.ofChange resumeKnownWrong)

/-- 'longwirelaw13.ResumeBack': WHATEVER THE INPUT: true; the input reads as it did. -/
def resumeBackSpec : ChangeSpec := { name := "resumeBack", fn := fun _ => fun
  | [d1, d2, d3, d4] => { results := [.lit (.bool true)], args := [d1, d2, d3, d4] }
  | _ => none }
def resumeBackRow : OpenClaim := { program := "ytboambncimdfjaa", sum := "fb2ec53847bd88566002970408dfa04df168fbc2e9054daa1b7cdce183b13cbe", func := "longwire/longwirelaw13.ResumeBack", spec := "resumeBack", unfollowed := true, recurses := true, apart := false }
def ResumeBackSaid : Prop := resumeBackRow.holds Try.pinned (OpenSpec.ofChange resumeBackSpec)

/-- ITS FALSE NEIGHBOUR: 'it returns false'. Refute it at one input. -/
def resumeBackWrong : ChangeSpec := { name := "resumeBack", fn := fun _ => fun
  | [d1, d2, d3, d4] => { results := [.lit (.bool false)], args := [d1, d2, d3, d4] }
  | _ => none }
def ResumeBackWrongFalsely : Prop := resumeBackRow.holds Try.pinned (OpenSpec.ofChange resumeBackWrong)

/- THE SECOND FORM. 'bulk': how many values and letters a reading holds, each counted each time it is reached (what is shared counts as often as it is met; a slice's spare places count too). A statement '..UptoSaid' is the law's where the arguments, and the package variables that the reading takes, are together of bulk at most 1048576: NARROWER than '..Said'. Prove '..Said' where nothing that the law and all that it calls make is longer than what came in: it says more and counts as full. Else prove '..UptoSaid'. A law counts once. -/
mutual
def uptoBulk {H : Type} : DataW H → Nat
  | .lit (.string bytes) => bytes.length + 1
  | .lit _ => 1
  | .nil => 1
  | .ptr d => uptoBulk d + 1
  | .slice elems spare => uptoBulkAll elems + uptoBulkAll spare + 1
  | .agg parts => uptoBulkAll parts + 1
  | .iface _ d => uptoBulk d + 1
  | .map entries => uptoBulkEntries entries + 1
  | .held _ => 1
def uptoBulkAll {H : Type} : List (DataW H) → Nat
  | [] => 0
  | d :: r => uptoBulk d + uptoBulkAll r
def uptoBulkEntries {H : Type} : List (Lit × DataW H) → Nat
  | [] => 0
  | x :: r => uptoBulkEntry x + uptoBulkEntries r
def uptoBulkEntry {H : Type} : Lit × DataW H → Nat
  | (.string bytes, d) => bytes.length + uptoBulk d + 1
  | (_, d) => uptoBulk d + 1
 end
def uptoSmall : (H : Type) → List (DataW H) → Bool := fun _ ds => decide (uptoBulkAll ds ≤ 1048576)
def OpenSpec.upto (s : _root_.Go.ChangeSpec) : _root_.Go.OpenSpec := { _root_.Go.OpenSpec.ofChange s with cond := some uptoSmall }

/-- 'longwirelaw13.ResumeEach', WHERE WHAT IT READS IS OF BULK AT MOST 1048576: true; the input reads as it did. -/
def resumeEachUptoRow : OpenClaim := { program := "ytboambncimdfjaa", sum := "fb2ec53847bd88566002970408dfa04df168fbc2e9054daa1b7cdce183b13cbe", func := "longwire/longwirelaw13.ResumeEach", spec := "resumeEach", unfollowed := true, recurses := true, apart := false, narrowed := true }
def ResumeEachUptoSaid : Prop := resumeEachUptoRow.holds Try.pinned (OpenSpec.upto resumeEachSpec)

/-- 'longwirelaw13.ResumeTells', WHERE WHAT IT READS IS OF BULK AT MOST 1048576: true; the input reads as it did. -/
def resumeTellsUptoRow : OpenClaim := { program := "ytboambncimdfjaa", sum := "fb2ec53847bd88566002970408dfa04df168fbc2e9054daa1b7cdce183b13cbe", func := "longwire/longwirelaw13.ResumeTells", spec := "resumeTells", unfollowed := true, recurses := true, apart := false, narrowed := true }
def ResumeTellsUptoSaid : Prop := resumeTellsUptoRow.holds Try.pinned (OpenSpec.upto resumeTellsSpec)

/-- 'longwirelaw13.ResumeReads', WHERE WHAT IT READS IS OF BULK AT MOST 1048576: true; the input reads as it did. -/
def resumeReadsUptoRow : OpenClaim := { program := "ytboambncimdfjaa", sum := "fb2ec53847bd88566002970408dfa04df168fbc2e9054daa1b7cdce183b13cbe", func := "longwire/longwirelaw13.ResumeReads", spec := "resumeReads", unfollowed := true, recurses := true, apart := false, narrowed := true }
def ResumeReadsUptoSaid : Prop := resumeReadsUptoRow.holds Try.pinned (OpenSpec.upto resumeReadsSpec)

/-- 'longwirelaw13.ResumeKnown', WHERE WHAT IT READS IS OF BULK AT MOST 1048576: true; the input reads as it did. -/
def resumeKnownUptoRow : OpenClaim := { program := "ytboambncimdfjaa", sum := "fb2ec53847bd88566002970408dfa04df168fbc2e9054daa1b7cdce183b13cbe", func := "longwire/longwirelaw13.ResumeKnown", spec := "resumeKnown", unfollowed := true, recurses := true, apart := false, narrowed := true }
def ResumeKnownUptoSaid : Prop := resumeKnownUptoRow.holds Try.pinned (OpenSpec.upto resumeKnownSpec)

/-- 'longwirelaw13.ResumeBack', WHERE WHAT IT READS IS OF BULK AT MOST 1048576: true; the input reads as it did. -/
def resumeBackUptoRow : OpenClaim := { program := "ytboambncimdfjaa", sum := "fb2ec53847bd88566002970408dfa04df168fbc2e9054daa1b7cdce183b13cbe", func := "longwire/longwirelaw13.ResumeBack", spec := "resumeBack", unfollowed := true, recurses := true, apart := false, narrowed := true }
def ResumeBackUptoSaid : Prop := resumeBackUptoRow.holds Try.pinned (OpenSpec.upto resumeBackSpec)

end Rows
end Go.Proofs.Ytboambncimdfjaa
