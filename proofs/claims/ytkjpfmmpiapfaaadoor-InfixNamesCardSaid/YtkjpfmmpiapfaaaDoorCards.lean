/-
  DERIVED. GIVEN WITH THE SEED: THE CARDS: each row of YtkjpfmmpiapfaaaDoorRows.lean that lists a variable, with what it lists TIED to the program's text (the seventh form; the later family's looks); each row that meets fmt, with fmt's text TOLD by the authors' own Lean function (tested against real Go, not proved from fmt's source: count such statements apart). THE CARD IS WHAT COUNTS. Prove the row's statement (the work); the ties are given (YtkjpfmmpiapfaaaDoorTie.lean); close each card by the builder's one call (the guide's Derived/Test/ToyasCard.lean, 'card_holds'). Laid BY PROGRAM, IN A SANDBOX (cutbox-door.mjs). By AI agents, Wed Nov 11 2026. No macro, syntax, notation, axiom, sorry.
-/
import Derived.Test.YtkjpfmmpiapfaaaDoorRows
import GoSem.ClaimSeven
namespace Go.Proofs.YtkjpfmmpiapfaaaDoor
namespace Rows

/-- THE TIED CARD OF 'surmiselaw04.InfixShows'. -/
def infixShowsCard : Claim7 := { stood := { row := infixShowsRow, standIns := [], harness := (true, "f88412d887e939ef5b9ce3a33bdea6df59cc792b63bbba43829d946064246ced"), looks := false }, kinds := [], alts := [], laidByText := true, laidKinds := [.data], laidTests := true, laidLooks := .later }
def InfixShowsCardSaid : Prop := Claim7.holds Tryd.pinned (.plain (OpenSpec.ofChange infixShowsSpec)) infixShowsCard

/-- THE TIED CARD OF 'surmiselaw04.InfixNames'. -/
def infixNamesCard : Claim7 := { stood := { row := infixNamesRow, standIns := [], harness := (true, "f88412d887e939ef5b9ce3a33bdea6df59cc792b63bbba43829d946064246ced"), looks := false }, kinds := [], alts := [], laidByText := true, laidKinds := [.data], laidTests := true, laidLooks := .later }
def InfixNamesCardSaid : Prop := Claim7.holds Tryd.pinned (.plain (OpenSpec.ofChange infixNamesSpec)) infixNamesCard

/-- THE TIED CARD OF 'surmiselaw04.InfixBack'. -/
def infixBackCard : Claim7 := { stood := { row := infixBackRow, standIns := [], harness := (true, "f88412d887e939ef5b9ce3a33bdea6df59cc792b63bbba43829d946064246ced"), looks := false }, kinds := [], alts := [], laidByText := true, laidKinds := [.data], laidTests := true, laidLooks := .later }
def InfixBackCardSaid : Prop := Claim7.holds Tryd.pinned (.plain (OpenSpec.ofChange infixBackSpec)) infixBackCard

/-- THE TIED CARD OF 'surmiselaw04.InfixLess'. -/
def infixLessCard : Claim7 := { stood := { row := infixLessRow, standIns := [], harness := (true, "f88412d887e939ef5b9ce3a33bdea6df59cc792b63bbba43829d946064246ced"), looks := false }, kinds := [], alts := [], laidByText := true, laidKinds := [.data], laidTests := true, laidLooks := .later }
def InfixLessCardSaid : Prop := Claim7.holds Tryd.pinned (.plain (OpenSpec.ofChange infixLessSpec)) infixLessCard

/-- THE SECOND FORM's CARD OF 'surmiselaw04.InfixShows'. -/
def infixShowsUptoCard : Claim7 := { stood := { row := infixShowsUptoRow, standIns := [], harness := (true, "f88412d887e939ef5b9ce3a33bdea6df59cc792b63bbba43829d946064246ced"), looks := false }, kinds := [], alts := [], laidByText := true, laidKinds := [.data], laidTests := true, laidLooks := .later }
def InfixShowsUptoCardSaid : Prop := Claim7.holds Tryd.pinned (.plain (OpenSpec.upto infixShowsSpec)) infixShowsUptoCard

/-- THE SECOND FORM's CARD OF 'surmiselaw04.InfixNames'. -/
def infixNamesUptoCard : Claim7 := { stood := { row := infixNamesUptoRow, standIns := [], harness := (true, "f88412d887e939ef5b9ce3a33bdea6df59cc792b63bbba43829d946064246ced"), looks := false }, kinds := [], alts := [], laidByText := true, laidKinds := [.data], laidTests := true, laidLooks := .later }
def InfixNamesUptoCardSaid : Prop := Claim7.holds Tryd.pinned (.plain (OpenSpec.upto infixNamesSpec)) infixNamesUptoCard

/-- THE SECOND FORM's CARD OF 'surmiselaw04.InfixBack'. -/
def infixBackUptoCard : Claim7 := { stood := { row := infixBackUptoRow, standIns := [], harness := (true, "f88412d887e939ef5b9ce3a33bdea6df59cc792b63bbba43829d946064246ced"), looks := false }, kinds := [], alts := [], laidByText := true, laidKinds := [.data], laidTests := true, laidLooks := .later }
def InfixBackUptoCardSaid : Prop := Claim7.holds Tryd.pinned (.plain (OpenSpec.upto infixBackSpec)) infixBackUptoCard

/-- THE SECOND FORM's CARD OF 'surmiselaw04.InfixLess'. -/
def infixLessUptoCard : Claim7 := { stood := { row := infixLessUptoRow, standIns := [], harness := (true, "f88412d887e939ef5b9ce3a33bdea6df59cc792b63bbba43829d946064246ced"), looks := false }, kinds := [], alts := [], laidByText := true, laidKinds := [.data], laidTests := true, laidLooks := .later }
def InfixLessUptoCardSaid : Prop := Claim7.holds Tryd.pinned (.plain (OpenSpec.upto infixLessSpec)) infixLessUptoCard
end Rows
end Go.Proofs.YtkjpfmmpiapfaaaDoor
