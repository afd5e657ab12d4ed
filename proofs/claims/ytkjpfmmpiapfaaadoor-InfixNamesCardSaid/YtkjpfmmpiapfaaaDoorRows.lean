/-
  NARROWER THAN 'FOR EVERY INPUT', by the rows' own cells (each row's printed sentence says how): InfixShows: laid · InfixNames: laid · InfixBack: laid · InfixLess: laid.
  DERIVED. THE GIVEN ROWS OF THIS SEAT. 4 by the template 'for every input the law returns true; each argument reads behind the call as it read before'; 0 by the template 'total and deterministic' (their statements: YtkjpfmmpiapfaaaDoorTotals.lean).
  GIVEN WITH THE SEED: the statements are not yours to turn. If you find one false, say at which input.
  Laid BY PROGRAM, IN A SANDBOX (cutbox-rows.mjs): the forced cells as the released guide's own fill.sh prints them over the translation 270fea3bb40e6b01… (all of the seat's roots in one cut). By AI agents, Wed Nov 11 2026. No macro, syntax, notation, axiom, sorry.
-/
import Derived.Test.YtkjpfmmpiapfaaaDoorChecked
import GoSem.Claim
import GoSem.ClaimJoined
import GoSem.ClaimMapViews
import Derived.JoinedTies
import Derived.KernelRfl
namespace Go.Proofs.YtkjpfmmpiapfaaaDoor
/- THE CELL 'sum', in the pinned program and in every row, IS THE sha256 OF THE DUMP (.gsa) THAT YtkjpfmmpiapfaaaDoorProg.lean LOADS. Nothing in Lean hashes anything: it is a label: what it is worth is what the hold of that sum in a sandbox is worth. -/
noncomputable def Tryd.pinned : Pinned := { name := "ytkjpfmmpiapfaaadoor", sum := "270fea3bb40e6b015c20a2e6c38371a91143e4bc3cb3613e286e70d0f42a0b70", checked := Tryd.checked }
namespace Rows
def none {H : Type} : Left H := { results := [], args := [] }

/- WHAT THE LISTED PACKAGE-LEVEL VARIABLES READ AS WHEN THE CALL BEGINS. Each datum BY PROGRAM (the guide's laid-datum.mjs) off the statement by which the dump's own 'gosem.cut.vars' lays the variable. In a bare row this is a premise. The card (YtkjpfmmpiapfaaaDoorCards.lean) ties it to the program's text. -/
def laid_surmise_infix_signs {H : Type} : DataW H := .agg [.lit (.string []), .lit (.string []), .lit (.string []), .lit (.string []), .lit (.string []), .lit (.string []), .lit (.string [43, 52]), .lit (.string [45, 52]), .lit (.string [42, 53]), .lit (.string []), .lit (.string []), .lit (.string [60, 51]), .lit (.string [60, 61, 51]), .lit (.string [61, 51]), .lit (.string [38, 50]), .lit (.string [124, 49])]

/-- 'surmiselaw04.InfixShows': WHATEVER THE INPUT: true; the input reads as it did. -/
def infixShowsSpec : ChangeSpec := { name := "infixShows", fn := fun _ => fun
  | [d1, d2, d3] => { results := [.lit (.bool true)], args := [d1, d2, d3] }
  | _ => none }
def infixShowsRow : OpenClaim := { program := "ytkjpfmmpiapfaaadoor", sum := "270fea3bb40e6b015c20a2e6c38371a91143e4bc3cb3613e286e70d0f42a0b70", func := "surmise/surmiselaw04.InfixShows", spec := "infixShows", unfollowed := true, recurses := true, named := ["surmise/infix.signs"], apart := false, laid := [("surmise/infix.signs", laid_surmise_infix_signs)] }
def InfixShowsSaid : Prop := infixShowsRow.holds Tryd.pinned (OpenSpec.ofChange infixShowsSpec)

/-- ITS FALSE NEIGHBOUR: 'it returns false'. Refute it at one input. -/
def infixShowsWrong : ChangeSpec := { name := "infixShows", fn := fun _ => fun
  | [d1, d2, d3] => { results := [.lit (.bool false)], args := [d1, d2, d3] }
  | _ => none }
def InfixShowsWrongFalsely : Prop := infixShowsRow.holds Tryd.pinned (OpenSpec.ofChange infixShowsWrong)

/-- 'surmiselaw04.InfixNames': WHATEVER THE INPUT: true; the input reads as it did. -/
def infixNamesSpec : ChangeSpec := { name := "infixNames", fn := fun _ => fun
  | [d] => { results := [.lit (.bool true)], args := [d] }
  | _ => none }
def infixNamesRow : OpenClaim := { program := "ytkjpfmmpiapfaaadoor", sum := "270fea3bb40e6b015c20a2e6c38371a91143e4bc3cb3613e286e70d0f42a0b70", func := "surmise/surmiselaw04.InfixNames", spec := "infixNames", unfollowed := true, recurses := true, named := ["surmise/infix.signs"], apart := false, laid := [("surmise/infix.signs", laid_surmise_infix_signs)] }
def InfixNamesSaid : Prop := infixNamesRow.holds Tryd.pinned (OpenSpec.ofChange infixNamesSpec)

/-- ITS FALSE NEIGHBOUR: 'it returns false'. Refute it at one input. -/
def infixNamesWrong : ChangeSpec := { name := "infixNames", fn := fun _ => fun
  | [d] => { results := [.lit (.bool false)], args := [d] }
  | _ => none }
def InfixNamesWrongFalsely : Prop := infixNamesRow.holds Tryd.pinned (OpenSpec.ofChange infixNamesWrong)

/-- 'surmiselaw04.InfixBack': WHATEVER THE INPUT: true; the input reads as it did. -/
def infixBackSpec : ChangeSpec := { name := "infixBack", fn := fun _ => fun
  | [d1, d2, d3] => { results := [.lit (.bool true)], args := [d1, d2, d3] }
  | _ => none }
def infixBackRow : OpenClaim := { program := "ytkjpfmmpiapfaaadoor", sum := "270fea3bb40e6b015c20a2e6c38371a91143e4bc3cb3613e286e70d0f42a0b70", func := "surmise/surmiselaw04.InfixBack", spec := "infixBack", unfollowed := true, recurses := true, named := ["surmise/infix.signs"], apart := false, laid := [("surmise/infix.signs", laid_surmise_infix_signs)] }
def InfixBackSaid : Prop := infixBackRow.holds Tryd.pinned (OpenSpec.ofChange infixBackSpec)

/-- ITS FALSE NEIGHBOUR: 'it returns false'. Refute it at one input. -/
def infixBackWrong : ChangeSpec := { name := "infixBack", fn := fun _ => fun
  | [d1, d2, d3] => { results := [.lit (.bool false)], args := [d1, d2, d3] }
  | _ => none }
def InfixBackWrongFalsely : Prop := infixBackRow.holds Tryd.pinned (OpenSpec.ofChange infixBackWrong)

/-- 'surmiselaw04.InfixLess': WHATEVER THE INPUT: true; the input reads as it did. -/
def infixLessSpec : ChangeSpec := { name := "infixLess", fn := fun _ => fun
  | [d1, d2, d3] => { results := [.lit (.bool true)], args := [d1, d2, d3] }
  | _ => none }
def infixLessRow : OpenClaim := { program := "ytkjpfmmpiapfaaadoor", sum := "270fea3bb40e6b015c20a2e6c38371a91143e4bc3cb3613e286e70d0f42a0b70", func := "surmise/surmiselaw04.InfixLess", spec := "infixLess", unfollowed := true, recurses := true, named := ["surmise/infix.signs"], apart := false, laid := [("surmise/infix.signs", laid_surmise_infix_signs)] }
def InfixLessSaid : Prop := infixLessRow.holds Tryd.pinned (OpenSpec.ofChange infixLessSpec)

/-- ITS FALSE NEIGHBOUR: 'it returns false'. Refute it at one input. -/
def infixLessWrong : ChangeSpec := { name := "infixLess", fn := fun _ => fun
  | [d1, d2, d3] => { results := [.lit (.bool false)], args := [d1, d2, d3] }
  | _ => none }
def InfixLessWrongFalsely : Prop := infixLessRow.holds Tryd.pinned (OpenSpec.ofChange infixLessWrong)

/- THE SECOND FORM. 'bulk': how many values and letters a reading holds, each counted each time it is reached (what is shared counts as often as it is met; a slice's spare places count too). A statement '..UptoSaid' is the law's where the arguments, and the package variables that the reading takes, are together of bulk at most 1048576: NARROWER than '..Said'. Prove '..Said' where nothing that the law and all that it calls make is longer than what came in: it says more and counts as full. Else prove '..UptoSaid'. A law counts once. -/
mutual
def uptoBulk {H : Type} : DataW H → Nat
  | .lit (.string bytes) => bytes.length + 1
  | .lit _ => 1
  | .nil => 1
  | .ptr d => uptoBulk d + 1
  | .slice elems spare => uptoBulkAll elems + uptoBulkAll spare + 1
  | .agg parts => uptoBulkAll parts + 1
  | .iface _ d => uptoBulk d + 1
  | .map entries => uptoBulkEntries entries + 1
  | .held _ => 1
def uptoBulkAll {H : Type} : List (DataW H) → Nat
  | [] => 0
  | d :: r => uptoBulk d + uptoBulkAll r
def uptoBulkEntries {H : Type} : List (Lit × DataW H) → Nat
  | [] => 0
  | x :: r => uptoBulkEntry x + uptoBulkEntries r
def uptoBulkEntry {H : Type} : Lit × DataW H → Nat
  | (.string bytes, d) => bytes.length + uptoBulk d + 1
  | (_, d) => uptoBulk d + 1
 end
def uptoSmall : (H : Type) → List (DataW H) → Bool := fun _ ds => decide (uptoBulkAll ds ≤ 1048576)
def OpenSpec.upto (s : _root_.Go.ChangeSpec) : _root_.Go.OpenSpec := { _root_.Go.OpenSpec.ofChange s with cond := some uptoSmall }

/-- 'surmiselaw04.InfixShows', WHERE WHAT IT READS IS OF BULK AT MOST 1048576: true; the input reads as it did. -/
def infixShowsUptoRow : OpenClaim := { program := "ytkjpfmmpiapfaaadoor", sum := "270fea3bb40e6b015c20a2e6c38371a91143e4bc3cb3613e286e70d0f42a0b70", func := "surmise/surmiselaw04.InfixShows", spec := "infixShows", unfollowed := true, recurses := true, named := ["surmise/infix.signs"], apart := false, laid := [("surmise/infix.signs", laid_surmise_infix_signs)], narrowed := true }
def InfixShowsUptoSaid : Prop := infixShowsUptoRow.holds Tryd.pinned (OpenSpec.upto infixShowsSpec)

/-- 'surmiselaw04.InfixNames', WHERE WHAT IT READS IS OF BULK AT MOST 1048576: true; the input reads as it did. -/
def infixNamesUptoRow : OpenClaim := { program := "ytkjpfmmpiapfaaadoor", sum := "270fea3bb40e6b015c20a2e6c38371a91143e4bc3cb3613e286e70d0f42a0b70", func := "surmise/surmiselaw04.InfixNames", spec := "infixNames", unfollowed := true, recurses := true, named := ["surmise/infix.signs"], apart := false, laid := [("surmise/infix.signs", laid_surmise_infix_signs)], narrowed := true }
def InfixNamesUptoSaid : Prop := infixNamesUptoRow.holds Tryd.pinned (OpenSpec.upto infixNamesSpec)

/-- 'surmiselaw04.InfixBack', WHERE WHAT IT READS IS OF BULK AT MOST 1048576: true; the input reads as it did. -/
def infixBackUptoRow : OpenClaim := { program := "ytkjpfmmpiapfaaadoor", sum := "270fea3bb40e6b015c20a2e6c38371a91143e4bc3cb3613e286e70d0f42a0b70", func := "surmise/surmiselaw04.InfixBack", spec := "infixBack", unfollowed := true, recurses := true, named := ["surmise/infix.signs"], apart := false, laid := [("surmise/infix.signs", laid_surmise_infix_signs)], narrowed := true }
def InfixBackUptoSaid : Prop := infixBackUptoRow.holds Tryd.pinned (OpenSpec.upto infixBackSpec)

/-- 'surmiselaw04.InfixLess', WHERE WHAT IT READS IS OF BULK AT MOST 1048576: true; the input reads as it did. -/
def infixLessUptoRow : OpenClaim := { program := "ytkjpfmmpiapfaaadoor", sum := "270fea3bb40e6b015c20a2e6c38371a91143e4bc3cb3613e286e70d0f42a0b70", func := "surmise/surmiselaw04.InfixLess", spec := "infixLess", unfollowed := true, recurses := true, named := ["surmise/infix.signs"], apart := false, laid := [("surmise/infix.signs", laid_surmise_infix_signs)], narrowed := true }
def InfixLessUptoSaid : Prop := infixLessUptoRow.holds Tryd.pinned (OpenSpec.upto infixLessSpec)

end Rows
end Go.Proofs.YtkjpfmmpiapfaaaDoor
