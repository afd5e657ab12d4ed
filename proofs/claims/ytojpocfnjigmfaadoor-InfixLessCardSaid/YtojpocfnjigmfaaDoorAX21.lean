/-
  MORE STEP RULES: the lesser, the greater, products.
-/
import Derived.Test.YtojpocfnjigmfaaDoorAX19
namespace Go.AX
open Go
variable {cx : Cx} {hs : List (Nat × Nat)} {ops rest : List Oper} {i d t : Nat} {e : Env} {H : Hp} {K : Kt} {x y : Operand}
theorem F.min2 {k : IntKind} {a b : Int} {ats : Array TypeId} (hk : hintOf hs i = 0) (hx : evE cx e x = some (.p (.int k a))) (hy : evE cx e y = some (.p (.int k b))) (h : M cx hs ops (i + 1) rest ((d, .p (.int k (if b < a then b else a))) :: e) H K) : Mg cx hs ops i (some d) (.call { callee := .builtin .min, args := [x, y].toArray, argTypes := ats }) rest e H K :=
  Mg.op 0 _ H hk rfl (by simp only [opV, List.map_cons, List.map_nil, ev_of hx, ev_of hy, builtinV, minmax, foldInt, if_true, Option.map_some]) h
theorem F.max2 {k : IntKind} {a b : Int} {ats : Array TypeId} (hk : hintOf hs i = 0) (hx : evE cx e x = some (.p (.int k a))) (hy : evE cx e y = some (.p (.int k b))) (h : M cx hs ops (i + 1) rest ((d, .p (.int k (if b > a then b else a))) :: e) H K) : Mg cx hs ops i (some d) (.call { callee := .builtin .max, args := [x, y].toArray, argTypes := ats }) rest e H K :=
  Mg.op 0 _ H hk rfl (by simp only [opV, List.map_cons, List.map_nil, ev_of hx, ev_of hy, builtinV, minmax, foldInt, if_true, Option.map_some]) h
theorem F.mul {g : TypeId} {a b : Int} (hk : hintOf hs i = 0) (hx : evE cx e x = some (.p (.int .i64 a))) (hy : evE cx e y = some (.p (.int .i64 b))) (hr : -9223372036854775808 ≤ a * b ∧ a * b ≤ 9223372036854775807) (h : M cx hs ops (i + 1) rest ((d, .p (.int .i64 (a * b))) :: e) H K) : Mg cx hs ops i (some d) (.binOp .mul t x y g) rest e H K :=
  Mg.op 0 _ H hk rfl (by simp only [opV, ev_of hx, ev_of hy, binI, arith, Option.map_some, wrap64 hr.1 hr.2]) h
theorem F.sub8 {g : TypeId} {a b : Int} (hk : hintOf hs i = 0) (hx : evE cx e x = some (.p (.int .u8 a))) (hy : evE cx e y = some (.p (.int .u8 b))) (hr : 0 ≤ a - b ∧ a - b ≤ 255) (h : M cx hs ops (i + 1) rest ((d, .p (.int .u8 (a - b))) :: e) H K) : Mg cx hs ops i (some d) (.binOp .sub t x y g) rest e H K :=
  Mg.op 0 _ H hk rfl (by simp only [opV, ev_of hx, ev_of hy, binI, arith, Option.map_some, wrap8 hr.1 hr.2]) h
end Go.AX
