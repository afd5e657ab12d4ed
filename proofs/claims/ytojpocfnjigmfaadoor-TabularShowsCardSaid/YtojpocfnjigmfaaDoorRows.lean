/-
  NARROWER THAN 'FOR EVERY INPUT', by the rows' own cells (each row's printed sentence says how): InfixShows: laid · InfixBack: laid · InfixLess: laid · TabularShows: laid · TabularBack: laid · TabularAgain: laid.
  DERIVED. THE GIVEN ROWS OF THIS SEAT. 6 by the template 'for every input the law returns true; each argument reads behind the call as it read before'; 0 by the template 'total and deterministic' (their statements: YtojpocfnjigmfaaDoorTotals.lean).
  GIVEN WITH THE SEED: the statements are not yours to turn. If you find one false, say at which input.
  Laid BY PROGRAM, IN A SANDBOX (cutbox-rows.mjs): the forced cells as the released guide's own fill.sh prints them over the translation 80f33793ff6c613c… (all of the seat's roots in one cut). By AI agents, Wed Nov 11 2026. No macro, syntax, notation, axiom, sorry.
-/
import Derived.Test.YtojpocfnjigmfaaDoorChecked
import GoSem.Claim
import GoSem.ClaimJoined
import GoSem.ClaimMapViews
import Derived.JoinedTies
import Derived.KernelRfl
namespace Go.Proofs.YtojpocfnjigmfaaDoor
/- THE CELL 'sum', in the pinned program and in every row, IS THE sha256 OF THE DUMP (.gsa) THAT YtojpocfnjigmfaaDoorProg.lean LOADS. Nothing in Lean hashes anything: it is a label: what it is worth is what the hold of that sum in a sandbox is worth. -/
noncomputable def Tryd.pinned : Pinned := { name := "ytojpocfnjigmfaadoor", sum := "80f33793ff6c613c5271529d789c9655e84230944843a0b482ae07f840ec8b5e", checked := Tryd.checked }
namespace Rows
def none {H : Type} : Left H := { results := [], args := [] }

/- WHAT THE LISTED PACKAGE-LEVEL VARIABLES READ AS WHEN THE CALL BEGINS. Each datum BY PROGRAM (the guide's laid-datum.mjs) off the statement by which the dump's own 'gosem.cut.vars' lays the variable. In a bare row this is a premise. The card (YtojpocfnjigmfaaDoorCards.lean) ties it to the program's text. -/
def laid_surmise_infix_signs {H : Type} : DataW H := .agg [.lit (.string []), .lit (.string []), .lit (.string []), .lit (.string []), .lit (.string []), .lit (.string []), .lit (.string [43, 52]), .lit (.string [45, 52]), .lit (.string [42, 53]), .lit (.string []), .lit (.string []), .lit (.string [60, 51]), .lit (.string [60, 61, 51]), .lit (.string [61, 51]), .lit (.string [38, 50]), .lit (.string [124, 49])]

/-- 'surmiselaw04.InfixShows': WHATEVER THE INPUT: true; the input reads as it did. -/
def infixShowsSpec : ChangeSpec := { name := "infixShows", fn := fun _ => fun
  | [d1, d2, d3] => { results := [.lit (.bool true)], args := [d1, d2, d3] }
  | _ => none }
def infixShowsRow : OpenClaim := { program := "ytojpocfnjigmfaadoor", sum := "80f33793ff6c613c5271529d789c9655e84230944843a0b482ae07f840ec8b5e", func := "surmise/surmiselaw04.InfixShows", spec := "infixShows", unfollowed := true, recurses := true, named := ["surmise/infix.signs"], apart := false, laid := [("surmise/infix.signs", laid_surmise_infix_signs)] }
def InfixShowsSaid : Prop := infixShowsRow.holds Tryd.pinned (OpenSpec.ofChange infixShowsSpec)

/-- ITS FALSE NEIGHBOUR: 'it returns false'. Refute it at one input. -/
def infixShowsWrong : ChangeSpec := { name := "infixShows", fn := fun _ => fun
  | [d1, d2, d3] => { results := [.lit (.bool false)], args := [d1, d2, d3] }
  | _ => none }
def InfixShowsWrongFalsely : Prop := infixShowsRow.holds Tryd.pinned (OpenSpec.ofChange infixShowsWrong)

/-- 'surmiselaw04.InfixBack': WHATEVER THE INPUT: true; the input reads as it did. -/
def infixBackSpec : ChangeSpec := { name := "infixBack", fn := fun _ => fun
  | [d1, d2, d3] => { results := [.lit (.bool true)], args := [d1, d2, d3] }
  | _ => none }
def infixBackRow : OpenClaim := { program := "ytojpocfnjigmfaadoor", sum := "80f33793ff6c613c5271529d789c9655e84230944843a0b482ae07f840ec8b5e", func := "surmise/surmiselaw04.InfixBack", spec := "infixBack", unfollowed := true, recurses := true, named := ["surmise/infix.signs"], apart := false, laid := [("surmise/infix.signs", laid_surmise_infix_signs)] }
def InfixBackSaid : Prop := infixBackRow.holds Tryd.pinned (OpenSpec.ofChange infixBackSpec)

/-- ITS FALSE NEIGHBOUR: 'it returns false'. Refute it at one input. -/
def infixBackWrong : ChangeSpec := { name := "infixBack", fn := fun _ => fun
  | [d1, d2, d3] => { results := [.lit (.bool false)], args := [d1, d2, d3] }
  | _ => none }
def InfixBackWrongFalsely : Prop := infixBackRow.holds Tryd.pinned (OpenSpec.ofChange infixBackWrong)

/-- 'surmiselaw04.InfixLess': WHATEVER THE INPUT: true; the input reads as it did. -/
def infixLessSpec : ChangeSpec := { name := "infixLess", fn := fun _ => fun
  | [d1, d2, d3] => { results := [.lit (.bool true)], args := [d1, d2, d3] }
  | _ => none }
def infixLessRow : OpenClaim := { program := "ytojpocfnjigmfaadoor", sum := "80f33793ff6c613c5271529d789c9655e84230944843a0b482ae07f840ec8b5e", func := "surmise/surmiselaw04.InfixLess", spec := "infixLess", unfollowed := true, recurses := true, named := ["surmise/infix.signs"], apart := false, laid := [("surmise/infix.signs", laid_surmise_infix_signs)] }
def InfixLessSaid : Prop := infixLessRow.holds Tryd.pinned (OpenSpec.ofChange infixLessSpec)

/-- ITS FALSE NEIGHBOUR: 'it returns false'. Refute it at one input. -/
def infixLessWrong : ChangeSpec := { name := "infixLess", fn := fun _ => fun
  | [d1, d2, d3] => { results := [.lit (.bool false)], args := [d1, d2, d3] }
  | _ => none }
def InfixLessWrongFalsely : Prop := infixLessRow.holds Tryd.pinned (OpenSpec.ofChange infixLessWrong)

/-- 'surmiselaw06.TabularShows': WHATEVER THE INPUT: true; the input reads as it did. -/
def tabularShowsSpec : ChangeSpec := { name := "tabularShows", fn := fun _ => fun
  | [d] => { results := [.lit (.bool true)], args := [d] }
  | _ => none }
def tabularShowsRow : OpenClaim := { program := "ytojpocfnjigmfaadoor", sum := "80f33793ff6c613c5271529d789c9655e84230944843a0b482ae07f840ec8b5e", func := "surmise/surmiselaw06.TabularShows", spec := "tabularShows", unfollowed := true, recurses := true, named := ["surmise/infix.signs"], apart := false, laid := [("surmise/infix.signs", laid_surmise_infix_signs)] }
def TabularShowsSaid : Prop := tabularShowsRow.holds Tryd.pinned (OpenSpec.ofChange tabularShowsSpec)

/-- ITS FALSE NEIGHBOUR: 'it returns false'. Refute it at one input. -/
def tabularShowsWrong : ChangeSpec := { name := "tabularShows", fn := fun _ => fun
  | [d] => { results := [.lit (.bool false)], args := [d] }
  | _ => none }
def TabularShowsWrongFalsely : Prop := tabularShowsRow.holds Tryd.pinned (OpenSpec.ofChange tabularShowsWrong)

/-- 'surmiselaw06.TabularBack': WHATEVER THE INPUT: true; the input reads as it did. -/
def tabularBackSpec : ChangeSpec := { name := "tabularBack", fn := fun _ => fun
  | [d] => { results := [.lit (.bool true)], args := [d] }
  | _ => none }
def tabularBackRow : OpenClaim := { program := "ytojpocfnjigmfaadoor", sum := "80f33793ff6c613c5271529d789c9655e84230944843a0b482ae07f840ec8b5e", func := "surmise/surmiselaw06.TabularBack", spec := "tabularBack", unfollowed := true, recurses := true, named := ["surmise/infix.signs"], apart := false, laid := [("surmise/infix.signs", laid_surmise_infix_signs)] }
def TabularBackSaid : Prop := tabularBackRow.holds Tryd.pinned (OpenSpec.ofChange tabularBackSpec)

/-- ITS FALSE NEIGHBOUR: 'it returns false'. Refute it at one input. -/
def tabularBackWrong : ChangeSpec := { name := "tabularBack", fn := fun _ => fun
  | [d] => { results := [.lit (.bool false)], args := [d] }
  | _ => none }
def TabularBackWrongFalsely : Prop := tabularBackRow.holds Tryd.pinned (OpenSpec.ofChange tabularBackWrong)

/-- 'surmiselaw06.TabularAgain': WHATEVER THE INPUT: true; the input reads as it did. -/
def tabularAgainSpec : ChangeSpec := { name := "tabularAgain", fn := fun _ => fun
  | [d] => { results := [.lit (.bool true)], args := [d] }
  | _ => none }
def tabularAgainRow : OpenClaim := { program := "ytojpocfnjigmfaadoor", sum := "80f33793ff6c613c5271529d789c9655e84230944843a0b482ae07f840ec8b5e", func := "surmise/surmiselaw06.TabularAgain", spec := "tabularAgain", unfollowed := true, recurses := true, named := ["surmise/infix.signs"], apart := false, laid := [("surmise/infix.signs", laid_surmise_infix_signs)] }
def TabularAgainSaid : Prop := tabularAgainRow.holds Tryd.pinned (OpenSpec.ofChange tabularAgainSpec)

/-- ITS FALSE NEIGHBOUR: 'it returns false'. Refute it at one input. -/
def tabularAgainWrong : ChangeSpec := { name := "tabularAgain", fn := fun _ => fun
  | [d] => { results := [.lit (.bool false)], args := [d] }
  | _ => none }
def TabularAgainWrongFalsely : Prop := tabularAgainRow.holds Tryd.pinned (OpenSpec.ofChange tabularAgainWrong)

/- THE SECOND FORM. 'bulk': how many values and letters a reading holds, each counted each time it is reached (what is shared counts as often as it is met; a slice's spare places count too). A statement '..UptoSaid' is the law's where the arguments, and the package variables that the reading takes, are together of bulk at most 1048576: NARROWER than '..Said'. Prove '..Said' where nothing that the law and all that it calls make is longer than what came in: it says more and counts as full. Else prove '..UptoSaid'. A law counts once. -/
mutual
def uptoBulk {H : Type} : DataW H → Nat
  | .lit (.string bytes) => bytes.length + 1
  | .lit _ => 1
  | .nil => 1
  | .ptr d => uptoBulk d + 1
  | .slice elems spare => uptoBulkAll elems + uptoBulkAll spare + 1
  | .agg parts => uptoBulkAll parts + 1
  | .iface _ d => uptoBulk d + 1
  | .map entries => uptoBulkEntries entries + 1
  | .held _ => 1
def uptoBulkAll {H : Type} : List (DataW H) → Nat
  | [] => 0
  | d :: r => uptoBulk d + uptoBulkAll r
def uptoBulkEntries {H : Type} : List (Lit × DataW H) → Nat
  | [] => 0
  | x :: r => uptoBulkEntry x + uptoBulkEntries r
def uptoBulkEntry {H : Type} : Lit × DataW H → Nat
  | (.string bytes, d) => bytes.length + uptoBulk d + 1
  | (_, d) => uptoBulk d + 1
 end
def uptoSmall : (H : Type) → List (DataW H) → Bool := fun _ ds => decide (uptoBulkAll ds ≤ 1048576)
def OpenSpec.upto (s : _root_.Go.ChangeSpec) : _root_.Go.OpenSpec := { _root_.Go.OpenSpec.ofChange s with cond := some uptoSmall }

/-- 'surmiselaw04.InfixShows', WHERE WHAT IT READS IS OF BULK AT MOST 1048576: true; the input reads as it did. -/
def infixShowsUptoRow : OpenClaim := { program := "ytojpocfnjigmfaadoor", sum := "80f33793ff6c613c5271529d789c9655e84230944843a0b482ae07f840ec8b5e", func := "surmise/surmiselaw04.InfixShows", spec := "infixShows", unfollowed := true, recurses := true, named := ["surmise/infix.signs"], apart := false, laid := [("surmise/infix.signs", laid_surmise_infix_signs)], narrowed := true }
def InfixShowsUptoSaid : Prop := infixShowsUptoRow.holds Tryd.pinned (OpenSpec.upto infixShowsSpec)

/-- 'surmiselaw04.InfixBack', WHERE WHAT IT READS IS OF BULK AT MOST 1048576: true; the input reads as it did. -/
def infixBackUptoRow : OpenClaim := { program := "ytojpocfnjigmfaadoor", sum := "80f33793ff6c613c5271529d789c9655e84230944843a0b482ae07f840ec8b5e", func := "surmise/surmiselaw04.InfixBack", spec := "infixBack", unfollowed := true, recurses := true, named := ["surmise/infix.signs"], apart := false, laid := [("surmise/infix.signs", laid_surmise_infix_signs)], narrowed := true }
def InfixBackUptoSaid : Prop := infixBackUptoRow.holds Tryd.pinned (OpenSpec.upto infixBackSpec)

/-- 'surmiselaw04.InfixLess', WHERE WHAT IT READS IS OF BULK AT MOST 1048576: true; the input reads as it did. -/
def infixLessUptoRow : OpenClaim := { program := "ytojpocfnjigmfaadoor", sum := "80f33793ff6c613c5271529d789c9655e84230944843a0b482ae07f840ec8b5e", func := "surmise/surmiselaw04.InfixLess", spec := "infixLess", unfollowed := true, recurses := true, named := ["surmise/infix.signs"], apart := false, laid := [("surmise/infix.signs", laid_surmise_infix_signs)], narrowed := true }
def InfixLessUptoSaid : Prop := infixLessUptoRow.holds Tryd.pinned (OpenSpec.upto infixLessSpec)

/-- 'surmiselaw06.TabularShows', WHERE WHAT IT READS IS OF BULK AT MOST 1048576: true; the input reads as it did. -/
def tabularShowsUptoRow : OpenClaim := { program := "ytojpocfnjigmfaadoor", sum := "80f33793ff6c613c5271529d789c9655e84230944843a0b482ae07f840ec8b5e", func := "surmise/surmiselaw06.TabularShows", spec := "tabularShows", unfollowed := true, recurses := true, named := ["surmise/infix.signs"], apart := false, laid := [("surmise/infix.signs", laid_surmise_infix_signs)], narrowed := true }
def TabularShowsUptoSaid : Prop := tabularShowsUptoRow.holds Tryd.pinned (OpenSpec.upto tabularShowsSpec)

/-- 'surmiselaw06.TabularBack', WHERE WHAT IT READS IS OF BULK AT MOST 1048576: true; the input reads as it did. -/
def tabularBackUptoRow : OpenClaim := { program := "ytojpocfnjigmfaadoor", sum := "80f33793ff6c613c5271529d789c9655e84230944843a0b482ae07f840ec8b5e", func := "surmise/surmiselaw06.TabularBack", spec := "tabularBack", unfollowed := true, recurses := true, named := ["surmise/infix.signs"], apart := false, laid := [("surmise/infix.signs", laid_surmise_infix_signs)], narrowed := true }
def TabularBackUptoSaid : Prop := tabularBackUptoRow.holds Tryd.pinned (OpenSpec.upto tabularBackSpec)

/-- 'surmiselaw06.TabularAgain', WHERE WHAT IT READS IS OF BULK AT MOST 1048576: true; the input reads as it did. -/
def tabularAgainUptoRow : OpenClaim := { program := "ytojpocfnjigmfaadoor", sum := "80f33793ff6c613c5271529d789c9655e84230944843a0b482ae07f840ec8b5e", func := "surmise/surmiselaw06.TabularAgain", spec := "tabularAgain", unfollowed := true, recurses := true, named := ["surmise/infix.signs"], apart := false, laid := [("surmise/infix.signs", laid_surmise_infix_signs)], narrowed := true }
def TabularAgainUptoSaid : Prop := tabularAgainUptoRow.holds Tryd.pinned (OpenSpec.upto tabularAgainSpec)

end Rows
end Go.Proofs.YtojpocfnjigmfaaDoor
