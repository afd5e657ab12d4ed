import Derived.Test.YtojpocfnjigmfaaDoorG4
import Derived.Test.YtojpocfnjigmfaaDoorF7
set_option maxRecDepth 10000
set_option linter.unusedSimpArgs false
set_option linter.unusedVariables false
namespace Go.Proofs.YtojpocfnjigmfaaDoor
open Go Go.AX
theorem back_true (code : List Ins) (x : Pv) (hx : IsL 2 x) (hl : elemsP x = code.map Ins.pv) (y : Pv) (hy : IsL 1 y) (vs : List (List UInt8)) (hvl : elemsP y = vs.map .str) (hv : ∀ v ∈ vs, v.length ≤ 140737488355328) (args : Int) (ha : args < 9223372036854775808) :
    PV cx 4 [.p x, .p y, .p (.int .i64 args)] (.bool true) :=
  back_of code x hx hl y hy vs hvl hv args ha (fun z vars hz hzl h20 hn ha hs => parse_back z vars hz hzl h20 hn ha hs)
end Go.Proofs.YtojpocfnjigmfaaDoor
