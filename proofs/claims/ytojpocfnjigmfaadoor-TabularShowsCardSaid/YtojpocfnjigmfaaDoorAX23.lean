/-
  THE STEP RULES OF MAPS; ends that are frozen from within.
-/
import Derived.Test.YtojpocfnjigmfaaDoorAX18
set_option linter.unusedVariables false
namespace Go.AX
open Go
variable {cx : Cx} {fi : FnI} {hs : List (Nat × Nat)} {ops rest : List Oper} {i d : Nat} {e : Env} {H : Hp} {K : Env → Hp → Prop} {t : TypeId} {x y z : Operand} {u v w : V}
def isMapT (o : Option TI) : Bool := match o with
  | some { kd := .map .., .. } => true
  | _ => false
theorem F.makeMap (n : Nat) (H' : Hp) (hk : hintOf hs i = 0) (hT : isMapT (cx.T t) = true) (hl : H.length = n) (hn : H ++ [.map []] = H') (h : M cx hs ops (i + 1) rest ((d, .map n) :: e) H' K) : Mg cx hs ops i (some d) (.makeMap t none) rest e H K := by
  subst hl hn
  refine Mg.op 0 _ _ hk rfl ?_ h
  unfold isMapT at hT
  split at hT
  · rename_i heq
    simp only [opV, heq]
  · cases hT
theorem F.lookup {te : TI} {b : Bool} (r : V) (hk : hintOf hs i = 0) (hT : mapTI cx t = some te) (hx : evE cx e x = some v) (hy : evE cx e y = some w) (hn : lookupV te H v w b = some r) (h : M cx hs ops (i + 1) rest ((d, r) :: e) H K) : Mg cx hs ops i (some d) (.lookup t x y b) rest e H K :=
  Mg.op 0 _ H hk rfl (by simp only [opV, hT, ev_of hx, ev_of hy, hn, Option.map_some]) h
theorem F.mapUpdate {te : TI} (H' : Hp) (hk : hintOf hs i = 0) (hT : mapTI cx t = some te) (hx : evE cx e x = some v) (hy : evE cx e y = some w) (hz : evE cx e z = some u) (hn : mapUpdateV H v w u = some H') (h : M cx hs ops (i + 1) rest e H' K) : Mg cx hs ops i none (.mapUpdate t x y z) rest e H K :=
  Mg.opN 0 .undef H' hk rfl (by simp only [opV, hT, ev_of hx, ev_of hy, ev_of hz, hn, Option.map_some]) h
theorem F.boxE {ti : TI} (hk : hintOf hs i = 2) (hx : evE cx e x = some v) (cs : List V) (hT : cx.T t = some ti) (hv : v.cells = cs) (hz : (Nat.beq cs.length ti.size && Nat.blt 0 ti.size) = true) (r : V) (hr : evOf cs = r) (h : M cx hs ops (i + 1) rest ((d, r) :: e) H K) : Mg cx hs ops i (some d) (.box t x) rest e H K := by
  subst hv hr
  exact Mg.op 2 _ _ hk rfl (by simp only [opV, hT, ev_of hx, hz]) h
theorem F.load3 {ti : TI} (hk : hintOf hs i = 3) (hx : evE cx e x = some v) (w : V) (hT : cx.T t = some ti) (hn : loadV ti (boxes H) v = some w) (h : M cx hs ops (i + 1) rest ((d, w) :: e) H K) : Mg cx hs ops i (some d) (.load t x) rest e H K :=
  Mg.op 3 _ H hk rfl (by simp only [opV, hT, ev_of hx]; rw [show ldH 3 H = boxes H from rfl, hn]; rfl) h
theorem F.moveF (r : V) (H' : Hp) (hk : hintOf hs i = 4) (hx : evE cx e x = some v) (hf : frzCells H v = r) (hm : markCells H v = H') (h : M cx hs ops (i + 1) rest ((d, r) :: e) H' K) : Mg cx hs ops i (some d) (.move x) rest e H K := by
  refine Mg.frz 4 r H' hk rfl ?_ h
  show opV cx noCall 0 ([x].foldl (fun H x => markCells H (ev cx e x)) H) _ _ = _
  simp only [opV, ev_of hx, hf, List.foldl, hm]
theorem F.convertF {t' : TypeId} {s u : TI} (a r : Pv) (H' : Hp) (hk : hintOf hs i = 4) (hx : evE cx e x = some v) (hS : cx.T t = some s) (hD : cx.T t' = some u) (hf : frzCells H v = .p a) (hm : markCells H v = H') (hc : convP s u a = some r) (h : M cx hs ops (i + 1) rest ((d, .p r) :: e) H' K) : Mg cx hs ops i (some d) (.convert t t' x) rest e H K := by
  refine Mg.frz 4 (.p r) H' hk rfl ?_ h
  show opV cx noCall 0 ([x].foldl (fun H x => markCells H (ev cx e x)) H) _ _ = _
  simp only [opV, ev_of hx, hf, List.foldl, hm, hS, hD, hc, Option.map_some]
theorem R.scope {base : Nat} {a : Code} {Q : Qt} (h : R cx fi base a e H Q) : R cx fi base (.scope a) e H Q := by
  obtain ⟨n, x, s, h1, h2⟩ := h.out
  exact ⟨⟨n + 1, x, s, by simp only [exec, step]; exact h1, h2⟩⟩
theorem E.rD1 {y : X} (t : Nat) {x : Pv} (v : V) (hr : fi.results = [.tmp t]) (hy : ok y = true) (h : look e t = v) (hx : frzD H v = .p x) : E (RetF cx fi x) y e H := ⟨ok_or hy, v, results_one hr h, hx⟩
theorem E.rD2 {y : X} (t u : Nat) {x : Pv} (v w : V) (hr : fi.results = [.tmp t, .tmp u]) (hy : ok y = true) (h : look e t = v) (h' : look e u = w) (hx : frzD H (mkTup [v, w]) = .p x) : E (RetF cx fi x) y e H := ⟨ok_or hy, _, results_two hr h h', hx⟩
theorem E.rD3 {y : X} (t u q : Nat) {x : Pv} (v w z : V) (hr : fi.results = [.tmp t, .tmp u, .tmp q]) (hy : ok y = true) (h : look e t = v) (h' : look e u = w) (h'' : look e q = z) (hx : frzD H (mkTup [v, w, z]) = .p x) : E (RetF cx fi x) y e H := ⟨ok_or hy, _, results_three hr h h' h'', hx⟩
theorem FV.of {f : FuncId} {args : List V} {x : Pv} {r : V} {H' : Hp} (h : CV cx f args [] r H') (hx : frzD H' r = .p x) : FV cx f args x := ⟨r, H', h, hx⟩
end Go.AX
