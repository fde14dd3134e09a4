/-
  DERIVED. GIVEN WITH THE SEED: THE CARDS: each row of YtkameiopahcacaaDoorRows.lean that lists a variable, with what it lists TIED to the program's text (the seventh form; the later family's looks); each row that meets fmt, with fmt's text TOLD by the authors' own Lean function (tested against real Go, not proved from fmt's source: count such statements apart). THE CARD IS WHAT COUNTS. Prove the row's statement (the work); the ties are given (YtkameiopahcacaaDoorTie.lean); close each card by the builder's one call (the guide's Derived/Test/ToyasCard.lean, 'card_holds'). Laid BY PROGRAM, IN A SANDBOX (cutbox-door.mjs). By AI agents, Wed Nov 11 2026. No macro, syntax, notation, axiom, sorry.
-/
import Derived.Test.YtkameiopahcacaaDoorRows
import GoSem.ClaimSeven
namespace Go.Proofs.YtkameiopahcacaaDoor
namespace Rows

/-- THE TIED CARD OF 'longwirelaw15.LogKnown'. -/
def logKnownCard : Claim7 := { stood := { row := logKnownRow, standIns := [], harness := (true, "088363c8ae24e03ef68e5e632b86704b6b95f727a13207c22b674366cb1dce60"), looks := false }, kinds := [], alts := [], laidByText := true, laidKinds := [.data], laidTests := true, laidLooks := .later }
def LogKnownCardSaid : Prop := Claim7.holds Tryd.pinned (.plain (OpenSpec.ofChange logKnownSpec)) logKnownCard

/-- THE TIED CARD OF 'longwirelaw15.LogPlays'. -/
def logPlaysCard : Claim7 := { stood := { row := logPlaysRow, standIns := [], harness := (true, "088363c8ae24e03ef68e5e632b86704b6b95f727a13207c22b674366cb1dce60"), looks := false }, kinds := [], alts := [], laidByText := true, laidKinds := [.data], laidTests := true, laidLooks := .later }
def LogPlaysCardSaid : Prop := Claim7.holds Tryd.pinned (.plain (OpenSpec.ofChange logPlaysSpec)) logPlaysCard

/-- THE TIED CARD OF 'longwirelaw15.LogAgain'. -/
def logAgainCard : Claim7 := { stood := { row := logAgainRow, standIns := [], harness := (true, "088363c8ae24e03ef68e5e632b86704b6b95f727a13207c22b674366cb1dce60"), looks := false }, kinds := [], alts := [], laidByText := true, laidKinds := [.data], laidTests := true, laidLooks := .later }
def LogAgainCardSaid : Prop := Claim7.holds Tryd.pinned (.plain (OpenSpec.ofChange logAgainSpec)) logAgainCard

/-- THE TIED CARD OF 'longwirelaw15.LogGood'. -/
def logGoodCard : Claim7 := { stood := { row := logGoodRow, standIns := [], harness := (true, "088363c8ae24e03ef68e5e632b86704b6b95f727a13207c22b674366cb1dce60"), looks := false }, kinds := [], alts := [], laidByText := true, laidKinds := [.data], laidTests := true, laidLooks := .later }
def LogGoodCardSaid : Prop := Claim7.holds Tryd.pinned (.plain (OpenSpec.ofChange logGoodSpec)) logGoodCard

/-- THE SECOND FORM's CARD OF 'longwirelaw15.LogKnown'. -/
def logKnownUptoCard : Claim7 := { stood := { row := logKnownUptoRow, standIns := [], harness := (true, "088363c8ae24e03ef68e5e632b86704b6b95f727a13207c22b674366cb1dce60"), looks := false }, kinds := [], alts := [], laidByText := true, laidKinds := [.data], laidTests := true, laidLooks := .later }
def LogKnownUptoCardSaid : Prop := Claim7.holds Tryd.pinned (.plain (OpenSpec.upto logKnownSpec)) logKnownUptoCard

/-- THE SECOND FORM's CARD OF 'longwirelaw15.LogPlays'. -/
def logPlaysUptoCard : Claim7 := { stood := { row := logPlaysUptoRow, standIns := [], harness := (true, "088363c8ae24e03ef68e5e632b86704b6b95f727a13207c22b674366cb1dce60"), looks := false }, kinds := [], alts := [], laidByText := true, laidKinds := [.data], laidTests := true, laidLooks := .later }
def LogPlaysUptoCardSaid : Prop := Claim7.holds Tryd.pinned (.plain (OpenSpec.upto logPlaysSpec)) logPlaysUptoCard

/-- THE SECOND FORM's CARD OF 'longwirelaw15.LogAgain'. -/
def logAgainUptoCard : Claim7 := { stood := { row := logAgainUptoRow, standIns := [], harness := (true, "088363c8ae24e03ef68e5e632b86704b6b95f727a13207c22b674366cb1dce60"), looks := false }, kinds := [], alts := [], laidByText := true, laidKinds := [.data], laidTests := true, laidLooks := .later }
def LogAgainUptoCardSaid : Prop := Claim7.holds Tryd.pinned (.plain (OpenSpec.upto logAgainSpec)) logAgainUptoCard

/-- THE SECOND FORM's CARD OF 'longwirelaw15.LogGood'. -/
def logGoodUptoCard : Claim7 := { stood := { row := logGoodUptoRow, standIns := [], harness := (true, "088363c8ae24e03ef68e5e632b86704b6b95f727a13207c22b674366cb1dce60"), looks := false }, kinds := [], alts := [], laidByText := true, laidKinds := [.data], laidTests := true, laidLooks := .later }
def LogGoodUptoCardSaid : Prop := Claim7.holds Tryd.pinned (.plain (OpenSpec.upto logGoodSpec)) logGoodUptoCard
end Rows
end Go.Proofs.YtkameiopahcacaaDoor
