/-
  DERIVED. GIVEN WITH THE SEED: THE CARDS: each row of YtojpocfnjigmfaaDoorRows.lean that lists a variable, with what it lists TIED to the program's text (the seventh form; the later family's looks); each row that meets fmt, with fmt's text TOLD by the authors' own Lean function (tested against real Go, not proved from fmt's source: count such statements apart). THE CARD IS WHAT COUNTS. Prove the row's statement (the work); the ties are given (YtojpocfnjigmfaaDoorTie.lean); close each card by the builder's one call (the guide's Derived/Test/ToyasCard.lean, 'card_holds'). Laid BY PROGRAM, IN A SANDBOX (cutbox-door.mjs). By AI agents, Wed Nov 11 2026. No macro, syntax, notation, axiom, sorry.
-/
import Derived.Test.YtojpocfnjigmfaaDoorRows
import GoSem.ClaimSeven
namespace Go.Proofs.YtojpocfnjigmfaaDoor
namespace Rows

/-- THE TIED CARD OF 'surmiselaw04.InfixShows'. -/
def infixShowsCard : Claim7 := { stood := { row := infixShowsRow, standIns := [], harness := (true, "47c34a801ff7547be673f24a10b40110533c4c07bb9d8fd201625a202cc11976"), looks := false }, kinds := [], alts := [], laidByText := true, laidKinds := [.data], laidTests := true, laidLooks := .later }
def InfixShowsCardSaid : Prop := Claim7.holds Tryd.pinned (.plain (OpenSpec.ofChange infixShowsSpec)) infixShowsCard

/-- THE TIED CARD OF 'surmiselaw04.InfixBack'. -/
def infixBackCard : Claim7 := { stood := { row := infixBackRow, standIns := [], harness := (true, "47c34a801ff7547be673f24a10b40110533c4c07bb9d8fd201625a202cc11976"), looks := false }, kinds := [], alts := [], laidByText := true, laidKinds := [.data], laidTests := true, laidLooks := .later }
def InfixBackCardSaid : Prop := Claim7.holds Tryd.pinned (.plain (OpenSpec.ofChange infixBackSpec)) infixBackCard

/-- THE TIED CARD OF 'surmiselaw04.InfixLess'. -/
def infixLessCard : Claim7 := { stood := { row := infixLessRow, standIns := [], harness := (true, "47c34a801ff7547be673f24a10b40110533c4c07bb9d8fd201625a202cc11976"), looks := false }, kinds := [], alts := [], laidByText := true, laidKinds := [.data], laidTests := true, laidLooks := .later }
def InfixLessCardSaid : Prop := Claim7.holds Tryd.pinned (.plain (OpenSpec.ofChange infixLessSpec)) infixLessCard

/-- THE TIED CARD OF 'surmiselaw06.TabularShows'. -/
def tabularShowsCard : Claim7 := { stood := { row := tabularShowsRow, standIns := [], harness := (true, "47c34a801ff7547be673f24a10b40110533c4c07bb9d8fd201625a202cc11976"), looks := false }, kinds := [], alts := [], laidByText := true, laidKinds := [.data], laidTests := true, laidLooks := .later }
def TabularShowsCardSaid : Prop := Claim7.holds Tryd.pinned (.plain (OpenSpec.ofChange tabularShowsSpec)) tabularShowsCard

/-- THE TIED CARD OF 'surmiselaw06.TabularBack'. -/
def tabularBackCard : Claim7 := { stood := { row := tabularBackRow, standIns := [], harness := (true, "47c34a801ff7547be673f24a10b40110533c4c07bb9d8fd201625a202cc11976"), looks := false }, kinds := [], alts := [], laidByText := true, laidKinds := [.data], laidTests := true, laidLooks := .later }
def TabularBackCardSaid : Prop := Claim7.holds Tryd.pinned (.plain (OpenSpec.ofChange tabularBackSpec)) tabularBackCard

/-- THE TIED CARD OF 'surmiselaw06.TabularAgain'. -/
def tabularAgainCard : Claim7 := { stood := { row := tabularAgainRow, standIns := [], harness := (true, "47c34a801ff7547be673f24a10b40110533c4c07bb9d8fd201625a202cc11976"), looks := false }, kinds := [], alts := [], laidByText := true, laidKinds := [.data], laidTests := true, laidLooks := .later }
def TabularAgainCardSaid : Prop := Claim7.holds Tryd.pinned (.plain (OpenSpec.ofChange tabularAgainSpec)) tabularAgainCard

/-- THE SECOND FORM's CARD OF 'surmiselaw04.InfixShows'. -/
def infixShowsUptoCard : Claim7 := { stood := { row := infixShowsUptoRow, standIns := [], harness := (true, "47c34a801ff7547be673f24a10b40110533c4c07bb9d8fd201625a202cc11976"), looks := false }, kinds := [], alts := [], laidByText := true, laidKinds := [.data], laidTests := true, laidLooks := .later }
def InfixShowsUptoCardSaid : Prop := Claim7.holds Tryd.pinned (.plain (OpenSpec.upto infixShowsSpec)) infixShowsUptoCard

/-- THE SECOND FORM's CARD OF 'surmiselaw04.InfixBack'. -/
def infixBackUptoCard : Claim7 := { stood := { row := infixBackUptoRow, standIns := [], harness := (true, "47c34a801ff7547be673f24a10b40110533c4c07bb9d8fd201625a202cc11976"), looks := false }, kinds := [], alts := [], laidByText := true, laidKinds := [.data], laidTests := true, laidLooks := .later }
def InfixBackUptoCardSaid : Prop := Claim7.holds Tryd.pinned (.plain (OpenSpec.upto infixBackSpec)) infixBackUptoCard

/-- THE SECOND FORM's CARD OF 'surmiselaw04.InfixLess'. -/
def infixLessUptoCard : Claim7 := { stood := { row := infixLessUptoRow, standIns := [], harness := (true, "47c34a801ff7547be673f24a10b40110533c4c07bb9d8fd201625a202cc11976"), looks := false }, kinds := [], alts := [], laidByText := true, laidKinds := [.data], laidTests := true, laidLooks := .later }
def InfixLessUptoCardSaid : Prop := Claim7.holds Tryd.pinned (.plain (OpenSpec.upto infixLessSpec)) infixLessUptoCard

/-- THE SECOND FORM's CARD OF 'surmiselaw06.TabularShows'. -/
def tabularShowsUptoCard : Claim7 := { stood := { row := tabularShowsUptoRow, standIns := [], harness := (true, "47c34a801ff7547be673f24a10b40110533c4c07bb9d8fd201625a202cc11976"), looks := false }, kinds := [], alts := [], laidByText := true, laidKinds := [.data], laidTests := true, laidLooks := .later }
def TabularShowsUptoCardSaid : Prop := Claim7.holds Tryd.pinned (.plain (OpenSpec.upto tabularShowsSpec)) tabularShowsUptoCard

/-- THE SECOND FORM's CARD OF 'surmiselaw06.TabularBack'. -/
def tabularBackUptoCard : Claim7 := { stood := { row := tabularBackUptoRow, standIns := [], harness := (true, "47c34a801ff7547be673f24a10b40110533c4c07bb9d8fd201625a202cc11976"), looks := false }, kinds := [], alts := [], laidByText := true, laidKinds := [.data], laidTests := true, laidLooks := .later }
def TabularBackUptoCardSaid : Prop := Claim7.holds Tryd.pinned (.plain (OpenSpec.upto tabularBackSpec)) tabularBackUptoCard

/-- THE SECOND FORM's CARD OF 'surmiselaw06.TabularAgain'. -/
def tabularAgainUptoCard : Claim7 := { stood := { row := tabularAgainUptoRow, standIns := [], harness := (true, "47c34a801ff7547be673f24a10b40110533c4c07bb9d8fd201625a202cc11976"), looks := false }, kinds := [], alts := [], laidByText := true, laidKinds := [.data], laidTests := true, laidLooks := .later }
def TabularAgainUptoCardSaid : Prop := Claim7.holds Tryd.pinned (.plain (OpenSpec.upto tabularAgainSpec)) tabularAgainUptoCard
end Rows
end Go.Proofs.YtojpocfnjigmfaaDoor
