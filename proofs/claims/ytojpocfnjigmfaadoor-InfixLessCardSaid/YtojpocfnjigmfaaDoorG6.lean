import Derived.Test.YtojpocfnjigmfaaDoorG4
import Derived.Test.YtojpocfnjigmfaaDoorF8
set_option maxRecDepth 10000
set_option linter.unusedSimpArgs false
set_option linter.unusedVariables false
namespace Go.Proofs.YtojpocfnjigmfaaDoor
open Go Go.AX
theorem less_true (code : List Ins) (x : Pv) (hx : IsL 2 x) (hl : elemsP x = code.map Ins.pv) (y : Pv) (hy : IsL 1 y) (vs : List (List UInt8)) (hvl : elemsP y = vs.map .str) (hv : ∀ v ∈ vs, v.length ≤ 140737488355328) (more : Nat) (hm : more < 256) :
    PV cx 5 [.p x, .p y, .p (.int .u8 more)] (.bool true) :=
  less_of code x hx hl y hy vs hvl hv more hm (fun z vars hz hzl h20 hn hs h19 => parse_less z vars hz hzl h20 hn hs h19)
end Go.Proofs.YtojpocfnjigmfaaDoor
