/-
  RUNS, STEP BY STEP, over code told by its place: small goals, branches split by themselves.
-/
import Derived.Test.YtojpocfnjigmfaaDoorAX14
namespace Go.AX
open Go

def nth {α : Type} : List α → Nat → Option α
  | [], _ => none
  | x :: _, 0 => some x
  | _ :: l, i + 1 => nth l i
theorem nth_getElem? {α : Type} : ∀ (l : List α) (i : Nat), l[i]? = nth l i
  | [], i => by simp [nth]
  | x :: l, 0 => rfl
  | x :: l, i + 1 => by simpa [nth] using nth_getElem? l i

variable {cx : Cx} {fi : FnI} {base : Nat}

abbrev Qt := X → Env → Hp → Prop
abbrev Kt := Env → Hp → Prop
def seqQ (k : Kt) (Q : Qt) : Qt
  | .norm, e, H => k e H
  | .exit id, e, H => Q (.exit id) e H
  | .ret, e, H => Q .ret e H
def blkQ (id : Nat) (Q : Qt) : Qt
  | .norm, e, H => Q .norm e H
  | .exit j, e, H => match Nat.beq j id with
    | true => Q .norm e H
    | false => Q (.exit j) e H
  | .ret, e, H => Q .ret e H
structure R (cx : Cx) (fi : FnI) (base : Nat) (c : Code) (e : Env) (H : Hp) (Q : Qt) : Prop where of ::
  out : W cx fi base c ⟨e, H⟩ fun x s => Q x s.env s.H
structure E (Q : Qt) (x : X) (e : Env) (H : Hp) : Prop where of ::
  out : Q x e H
structure M (cx : Cx) (hs : List (Nat × Nat)) (ops : List Oper) (i : Nat) (rest : List Oper) (e : Env) (H : Hp) (K : Kt) : Prop where of ::
  out : O cx hs ops i rest ⟨e, H⟩ fun s => K s.env s.H
structure Mg (cx : Cx) (hs : List (Nat × Nat)) (ops : List Oper) (i : Nat) (d : Option Nat) (op : Op) (rest : List Oper) (e : Env) (H : Hp) (K : Kt) : Prop where of' ::
  out : ∀ o : Oper, o.op = op → o.dst = d → ∃ n v H' st', opRun cx (call cx n) (hintOf hs i) H (ev cx e) o = some (v, H') ∧
    runOps cx (call cx n) hs ops (i + 1) rest ⟨putV e d v, H'⟩ = some st' ∧ K st'.env st'.H

variable {c a b : Code} {hs : List (Nat × Nat)} {ops rest : List Oper} {i id : Nat} {e : Env} {H : Hp} {Q : Qt} {K : Kt}

theorem R.skip (h : E Q .norm e H) : R cx fi base .skip e H Q := ⟨W.skip h.out⟩
theorem R.label {l : Nat} (h : E Q .norm e H) : R cx fi base (.label l) e H Q := ⟨W.label h.out⟩
theorem R.ret (h : E Q .ret e H) : R cx fi base .ret e H Q := ⟨W.ret h.out⟩
theorem R.exit (h : E Q (.exit id) e H) : R cx fi base (.exit id) e H Q := ⟨W.exit h.out⟩
theorem R.seq (h : R cx fi base a e H (seqQ (fun e H => R cx fi base b e H Q) Q)) : R cx fi base (.seq a b) e H Q := by
  refine ⟨W.seq ?_⟩
  refine W.mono h.out ?_
  intro x s hx
  cases x with
  | norm => exact R.out hx
  | _ => exact hx
theorem R.block (h : R cx fi base a e H (blkQ id Q)) : R cx fi base (.block id a) e H Q := by
  refine ⟨W.block ?_⟩
  refine W.mono h.out ?_
  intro x s hx
  cases x with
  | exit j =>
    simp only [blkQ] at hx ⊢
    split at hx
    · rename_i hb
      rw [if_pos (Nat.eq_of_beq_eq_true hb)]; exact hx
    · rename_i hb
      rw [if_neg (fun e => by subst e; rw [Nat.beq_refl] at hb; cases hb)]; exact hx
  | _ => exact hx
theorem R.cond {t : Nat} (v : Bool) (hv : look e t = .p (.bool v)) (ht : v = true → R cx fi base a e H Q) (hf : v = false → R cx fi base b e H Q) : R cx fi base (.cond (.tmp t) a b) e H Q := by
  refine ⟨W.cond v hv ?_⟩
  cases v with
  | true => exact (ht rfl).out
  | false => exact (hf rfl).out
theorem R.region {l : List Oper} {d : Bool} (hr : rhOf fi.hints id = { ops := hs }) (h : M cx hs l 0 l e H (fun e H => E Q .norm e H)) : R cx fi base (.region id l.toArray d) e H Q := by
  refine ⟨W.region ⟨by rw [hr], by rw [hr]⟩ ?_⟩
  obtain ⟨n, s, h1, h2⟩ := h.out
  exact ⟨n, s, by rw [hr]; exact h1, h2.out⟩
theorem R.regs {l : List Oper} {d : Bool} (hr : rhOf fi.hints id = { ops := hs }) (h : M cx hs l 0 l e H (fun e H => R cx fi base b e H Q)) : R cx fi base (.seq (.region id l.toArray d) b) e H Q := by
  refine ⟨W.seq (W.region ⟨by rw [hr], by rw [hr]⟩ ?_)⟩
  obtain ⟨n, s, h1, h2⟩ := h.out
  exact ⟨n, s, by rw [hr]; exact h1, h2.out⟩

theorem E.seqN {k : Kt} (h : k e H) : E (seqQ k Q) .norm e H := ⟨h⟩
theorem E.seqX {k : Kt} (h : E Q (.exit id) e H) : E (seqQ k Q) (.exit id) e H := ⟨h.out⟩
theorem E.seqR {k : Kt} (h : E Q .ret e H) : E (seqQ k Q) .ret e H := ⟨h.out⟩
theorem E.blkN (h : E Q .norm e H) : E (blkQ id Q) .norm e H := ⟨h.out⟩
theorem E.blkR (h : E Q .ret e H) : E (blkQ id Q) .ret e H := ⟨h.out⟩
theorem E.blkX {j : Nat} (hj : Nat.beq j id = true) (h : E Q .norm e H) : E (blkQ id Q) (.exit j) e H := by
  refine ⟨?_⟩
  simp only [blkQ, hj]; exact h.out
theorem E.blkO {j : Nat} (hj : Nat.beq j id = false) (h : E Q (.exit j) e H) : E (blkQ id Q) (.exit j) e H := by
  refine ⟨?_⟩
  simp only [blkQ, hj]; exact h.out

theorem M.done (h : K e H) : M cx hs ops i [] e H K := ⟨O.nil h⟩
theorem M.free {d : Option Nat} {op : Op} {ty : TypeId} {pos : String} {af : Array Edge} (h : Mg cx hs ops i d op rest e H K) : M cx hs ops i ({ dst := d, op := op, type := ty, pos := pos, after := af, guard := none } :: rest) e H K := by
  obtain ⟨n, v, H', st', h1, h2, h3⟩ := h.out { dst := d, op := op, type := ty, pos := pos, after := af, guard := none } rfl rfl
  refine ⟨n, st', ?_, h3⟩
  simp only [runOps, wantedV, h1]
  exact h2
theorem M.guard' {d : Option Nat} {op : Op} {ty : TypeId} {pos : String} {af : Array Edge} {j : Nat} {want : Bool} (t : Nat) (v : Bool) (ht : ((nth ops j).bind (·.dst)) = some t) (hb : look e t = .p (.bool v))
    (h : v = want → Mg cx hs ops i d op rest e H K) (hn : v = (!want) → M cx hs ops (i + 1) rest (putV e d .undef) H K) : M cx hs ops i ({ dst := d, op := op, type := ty, pos := pos, after := af, guard := some (j, want) } :: rest) e H K := by
  have hw : wantedV ops e { dst := d, op := op, type := ty, pos := pos, after := af, guard := some (j, want) } = some (v == want) := by
    simp only [wantedV]
    simp only [Option.bind_eq_some_iff] at ht
    obtain ⟨oj, hoj, hd⟩ := ht
    rw [nth_getElem?, hoj]
    obtain ⟨d', op', ty', pos', af', g'⟩ := oj
    simp only at hd
    subst hd
    simp only [hb]
  by_cases hbw : v = want
  · obtain ⟨n, r, H', st', h1, h2, h3⟩ := (h hbw).out { dst := d, op := op, type := ty, pos := pos, after := af, guard := some (j, want) } rfl rfl
    refine ⟨n, st', ?_, h3⟩
    have : (v == want) = true := by simp [hbw]
    rw [this] at hw
    simp only [runOps, hw, h1]
    exact h2
  · obtain ⟨n, st', h2, h3⟩ := (hn (by cases v <;> cases want <;> simp_all)).out
    refine ⟨n, st', ?_, h3⟩
    have : (v == want) = false := by simp [hbw]
    rw [this] at hw
    simp only [runOps, hw]
    exact h2
theorem M.guard {d : Nat} {op : Op} {ty : TypeId} {pos : String} {af : Array Edge} {j : Nat} {want : Bool} (t : Nat) (v : Bool) (ht : ((nth ops j).bind (·.dst)) = some t) (hb : look e t = .p (.bool v))
    (h : v = want → Mg cx hs ops i (some d) op rest e H K) (hn : v = (!want) → M cx hs ops (i + 1) rest ((d, .undef) :: e) H K) : M cx hs ops i ({ dst := some d, op := op, type := ty, pos := pos, after := af, guard := some (j, want) } :: rest) e H K :=
  M.guard' t v ht hb h hn
theorem M.guardN {op : Op} {ty : TypeId} {pos : String} {af : Array Edge} {j : Nat} {want : Bool} (t : Nat) (v : Bool) (ht : ((nth ops j).bind (·.dst)) = some t) (hb : look e t = .p (.bool v))
    (h : v = want → Mg cx hs ops i none op rest e H K) (hn : v = (!want) → M cx hs ops (i + 1) rest e H K) : M cx hs ops i ({ dst := none, op := op, type := ty, pos := pos, after := af, guard := some (j, want) } :: rest) e H K :=
  M.guard' t v ht hb h hn

def noCall : CallF := fun _ _ _ => none
theorem Mg.of {d : Option Nat} {op : Op} {v : V} {H' : Hp} (he : ∃ n, ∀ o : Oper, o.op = op → opRun cx (call cx n) (hintOf hs i) H (ev cx e) o = some (v, H'))
    (h : M cx hs ops (i + 1) rest (putV e d v) H' K) : Mg cx hs ops i d op rest e H K := by
  refine ⟨fun o ho hd => ?_⟩
  obtain ⟨n, st', h1, h2⟩ := h.out
  obtain ⟨m, hm⟩ := he
  refine ⟨max m n, v, H', st', ?_, ?_, h2⟩
  · exact opRun_mono (call_mono (Nat.le_max_left m n)) (hm o ho)
  · exact runOps_mono (call_mono (Nat.le_max_right m n)) _ _ _ _ h1
theorem Mg.op' (hh : Nat) {d : Option Nat} {op : Op} (v : V) (H' : Hp) (hk : hintOf hs i = hh) (h4 : Nat.ble 4 hh = false)
    (he : opV cx noCall hh H (ev cx e) op = some (v, H')) (h : M cx hs ops (i + 1) rest (putV e d v) H' K) : Mg cx hs ops i d op rest e H K := by
  refine Mg.of ⟨0, fun o hop => ?_⟩ h
  rw [hk]
  unfold opRun
  rw [h4, hop]
  exact opV_mono (fun f a H r h => by cases h) he
theorem Mg.op (hh : Nat) {d : Nat} {op : Op} (v : V) (H' : Hp) (hk : hintOf hs i = hh) (h4 : Nat.ble 4 hh = false)
    (he : opV cx noCall hh H (ev cx e) op = some (v, H')) (h : M cx hs ops (i + 1) rest ((d, v) :: e) H' K) : Mg cx hs ops i (some d) op rest e H K := Mg.op' hh v H' hk h4 he h
theorem Mg.opN (hh : Nat) {op : Op} (v : V) (H' : Hp) (hk : hintOf hs i = hh) (h4 : Nat.ble 4 hh = false)
    (he : opV cx noCall hh H (ev cx e) op = some (v, H')) (h : M cx hs ops (i + 1) rest e H' K) : Mg cx hs ops i none op rest e H K := Mg.op' hh v H' hk h4 he h
theorem Mg.frz (hh : Nat) {d : Nat} {op : Op} (v : V) (H' : Hp) (hk : hintOf hs i = hh) (h4 : Nat.ble 4 hh = true)
    (he : opV cx noCall (hh - 4) (op.operands.toList.foldl (fun H x => markCells H (ev cx e x)) H) (fun x => frzCells H (ev cx e x)) op = some (v, H')) (h : M cx hs ops (i + 1) rest ((d, v) :: e) H' K) : Mg cx hs ops i (some d) op rest e H K := by
  refine Mg.of ⟨0, fun o hop => ?_⟩ h
  rw [hk]
  unfold opRun
  rw [h4, hop]
  exact opV_mono (fun f a H r h => by cases h) he
theorem Mg.call {d : Option Nat} {as : List Operand} {f : Operand} (g : FuncId) (a b l : List V) (r : V) (H' : Hp) {ats : Array TypeId} (hk : hintOf hs i = 1)
    (hf : callee (ev cx e f) = some (g, a, b)) (hl : a ++ as.map (ev cx e) ++ b = l) (hv : CV cx g l H r H') (h : M cx hs ops (i + 1) rest (putV e d r) H' K) : Mg cx hs ops i d (.call { callee := .value f, args := as.toArray, argTypes := ats }) rest e H K := by
  obtain ⟨m, hm⟩ := hv
  refine Mg.of ⟨m, fun o hop => ?_⟩ h
  rw [hk]
  unfold opRun
  rw [hop]
  show opV cx _ 1 H (ev cx e) (.call _) = _
  simp only [opV, callV, hf, hl]
  exact hm
theorem Mg.pureF {d : Nat} {as : List Operand} {f : Operand} (g : FuncId) (a b l : List V) (pl : List Pv) (x : Pv) (r : V) (H' : Hp) {ats : Array TypeId} (hk : hintOf hs i = 0)
    (hf : callee (ev cx e f) = some (g, a, b)) (hl : a ++ as.map (ev cx e) ++ b = l) (hp : allP l = some pl) (hv : CV cx g l [] r H') (hr : frzD H' r = .p x) (h : M cx hs ops (i + 1) rest ((d, .p x) :: e) H K) : Mg cx hs ops i (some d) (.call { callee := .value f, args := as.toArray, argTypes := ats }) rest e H K := by
  obtain ⟨m, hm⟩ := hv
  refine Mg.of ⟨m, fun o hop => ?_⟩ h
  rw [hk]
  unfold opRun
  rw [hop]
  show opV cx _ 0 H (ev cx e) (.call _) = _
  simp only [opV, callV, hf, hl, pureCall, hp, hm, hr, Option.map_some]
def Ret (cx : Cx) (fi : FnI) (r : V) (H' : Hp) : Qt := fun x e H => (x = .norm ∨ x = .ret) ∧ results cx fi ⟨e, H⟩ = some r ∧ H = H'
theorem CV.run {f : FuncId} {args : List V} {H H' : Hp} {r : V} {fi : FnI} (hf : cx.F f = some fi) (hn : Nat.ble args.length fi.ntmps = true)
    (h : R cx fi H.length fi.body (args0 0 args) H (Ret cx fi r H')) : CV cx f args H r H' := CV.of hf hn h.out
def FV (cx : Cx) (f : FuncId) (args : List V) (x : Pv) : Prop := ∃ r H', CV cx f args [] r H' ∧ frzD H' r = .p x
def RetP (cx : Cx) (fi : FnI) (v : Pv) : Qt := fun x e H => (x = .norm ∨ x = .ret) ∧ results cx fi ⟨e, H⟩ = some (.p v)
def RetF (cx : Cx) (fi : FnI) (v : Pv) : Qt := fun x e H => (x = .norm ∨ x = .ret) ∧ ∃ r, results cx fi ⟨e, H⟩ = some r ∧ frzD H r = .p v
theorem PV.run {f : FuncId} {args : List V} {x : Pv} {fi : FnI} (hf : cx.F f = some fi) (hn : Nat.ble args.length fi.ntmps = true) (h : R cx fi 0 fi.body (args0 0 args) [] (RetP cx fi x)) : PV cx f args x := PV.of hf hn h.out
theorem FV.run {f : FuncId} {args : List V} {x : Pv} {fi : FnI} (hf : cx.F f = some fi) (hn : Nat.ble args.length fi.ntmps = true) (h : R cx fi 0 fi.body (args0 0 args) [] (RetF cx fi x)) : FV cx f args x := by
  obtain ⟨n, y, s, h1, h2, r, h3, h4⟩ := h.out
  exact ⟨r, s.H, CV.of hf hn ⟨n, y, s, h1, h2, h3, rfl⟩, h4⟩
theorem PV.fv {f : FuncId} {args : List V} {x : Pv} (h : PV cx f args x) : FV cx f args x := by
  obtain ⟨H', h⟩ := h
  exact ⟨_, H', h, rfl⟩
theorem Mg.fv {d : Nat} {as : List Operand} {f : Operand} (g : FuncId) (a b l : List V) (pl : List Pv) (x : Pv) {ats : Array TypeId} (hk : hintOf hs i = 0)
    (hf : callee (ev cx e f) = some (g, a, b)) (hl : a ++ as.map (ev cx e) ++ b = l) (hp : allP l = some pl) (hv : FV cx g l x) (h : M cx hs ops (i + 1) rest ((d, .p x) :: e) H K) : Mg cx hs ops i (some d) (.call { callee := .value f, args := as.toArray, argTypes := ats }) rest e H K := by
  obtain ⟨r, H', h1, h2⟩ := hv
  exact Mg.pureF g a b l pl x r H' hk hf hl hp h1 h2 h
theorem results_two {t u : Nat} {v w : V} (hr : fi.results = [.tmp t, .tmp u]) (h : look e t = v) (h' : look e u = w) : results cx fi ⟨e, H⟩ = some (mkTup [v, w]) := by
  unfold results
  rw [hr]
  simp only [resV, Option.map_some, h, h']
theorem results_three {t u q : Nat} {v w x : V} (hr : fi.results = [.tmp t, .tmp u, .tmp q]) (h : look e t = v) (h' : look e u = w) (h'' : look e q = x) : results cx fi ⟨e, H⟩ = some (mkTup [v, w, x]) := by
  unfold results
  rw [hr]
  simp only [resV, Option.map_some, h, h', h'']
theorem results_none (hr : fi.results = []) : results cx fi ⟨e, H⟩ = some (mkTup []) := by
  unfold results
  rw [hr]
  rfl
def ok : X → Bool
  | .norm | .ret => true
  | _ => false
theorem ok_or {y : X} (h : ok y = true) : y = .norm ∨ y = .ret := by
  cases y <;> first | exact .inl rfl | exact .inr rfl | cases h
theorem E.ret0 {y : X} (hr : fi.results = []) (hy : ok y = true) : E (Ret cx fi (.p (.tup [])) H) y e H := ⟨⟨ok_or hy, results_none hr, rfl⟩⟩
theorem E.ret1 {y : X} (t : Nat) {v : V} (hr : fi.results = [.tmp t]) (hy : ok y = true) (h : look e t = v) : E (Ret cx fi v H) y e H := ⟨⟨ok_or hy, results_one hr h, rfl⟩⟩
theorem E.ret2 {y : X} (t u : Nat) {v w r : V} (hr : fi.results = [.tmp t, .tmp u]) (hy : ok y = true) (h : look e t = v) (h' : look e u = w) (hm : mkTup [v, w] = r) : E (Ret cx fi r H) y e H := ⟨⟨ok_or hy, hm ▸ results_two hr h h', rfl⟩⟩
theorem E.ret3 {y : X} (t u q : Nat) {v w x r : V} (hr : fi.results = [.tmp t, .tmp u, .tmp q]) (hy : ok y = true) (h : look e t = v) (h' : look e u = w) (h'' : look e q = x) (hm : mkTup [v, w, x] = r) : E (Ret cx fi r H) y e H := ⟨⟨ok_or hy, hm ▸ results_three hr h h' h'', rfl⟩⟩
theorem E.retP1 {y : X} (t : Nat) {x : Pv} (hr : fi.results = [.tmp t]) (hy : ok y = true) (h : look e t = .p x) : E (RetP cx fi x) y e H := ⟨⟨ok_or hy, results_one hr h⟩⟩
theorem E.retP2 {y : X} (t u : Nat) {x x' : Pv} (hr : fi.results = [.tmp t, .tmp u]) (hy : ok y = true) (h : look e t = .p x) (h' : look e u = .p x') : E (RetP cx fi (.tup [x, x'])) y e H := ⟨⟨ok_or hy, results_two hr h h'⟩⟩
theorem E.retP3 {y : X} (t u q : Nat) {x x' x'' : Pv} (hr : fi.results = [.tmp t, .tmp u, .tmp q]) (hy : ok y = true) (h : look e t = .p x) (h' : look e u = .p x') (h'' : look e q = .p x'') : E (RetP cx fi (.tup [x, x', x''])) y e H := ⟨⟨ok_or hy, results_three hr h h' h''⟩⟩
theorem E.retF1 {y : X} (t : Nat) {x : Pv} (v : V) (hr : fi.results = [.tmp t]) (hy : ok y = true) (h : look e t = v) (hx : frzCells H v = .p x) : E (RetF cx fi x) y e H := ⟨⟨ok_or hy, v, results_one hr h, frzD_of hx⟩⟩
theorem E.retF2 {y : X} (t u : Nat) {x : Pv} (v w : V) (hr : fi.results = [.tmp t, .tmp u]) (hy : ok y = true) (h : look e t = v) (h' : look e u = w) (hx : frzCells H (mkTup [v, w]) = .p x) : E (RetF cx fi x) y e H := ⟨⟨ok_or hy, _, results_two hr h h', frzD_of hx⟩⟩
theorem E.retF3 {y : X} (t u q : Nat) {x : Pv} (v w z : V) (hr : fi.results = [.tmp t, .tmp u, .tmp q]) (hy : ok y = true) (h : look e t = v) (h' : look e u = w) (h'' : look e q = z) (hx : frzCells H (mkTup [v, w, z]) = .p x) : E (RetF cx fi x) y e H := ⟨⟨ok_or hy, _, results_three hr h h' h'', frzD_of hx⟩⟩
theorem R.loop (I : Nat → Env → Hp → Prop) (m : Nat) (hi : I m e H)
    (hr : ∀ m e H, I m e H → R cx fi base a e H (seqQ (fun e H => ∃ k, k < m ∧ I k e H) Q)) : R cx fi base (.loop a) e H Q := by
  refine ⟨W.loop (fun m s => I m s.env s.H) ?_ m _ hi⟩
  intro m s hs
  refine W.mono (hr m s.env s.H hs).out ?_
  intro x s hx
  cases x <;> exact hx
theorem binI (ti : Option TI) (k : IntKind) (op : BinOp) (a b : Int) : binV ti op (.p (.int k a)) (.p (.int k b)) = (arith k op a b).map .p := by
  simp [binV, binP]
theorem binS (ti : Option TI) (op : BinOp) (a b : List UInt8) : binV ti op (.p (.str a)) (.p (.str b)) = (strOp op a b).map .p := rfl
end Go.AX
namespace Go.AX
theorem AXO : (∀ {α β : Type} (f : α → β) (a : α), Option.map f (some a) = some (f a)) ∧ (∀ {α β : Type} (f : α → Option β) (a : α), Option.bind (some a) f = f a) ∧
    (∀ {α : Type} (a : α) (l : List α), (a :: l)[0]? = some a) ∧ (∀ {α : Type} (a : α) (l : List α) (n : Nat), (a :: l)[n + 1]? = l[n]?) ∧
    (∀ {α : Type} (l : List α) (n : Nat), (l.toArray)[n]? = l[n]?) ∧ (∀ {α : Type} (l : List α), (l.toArray).toList = l) ∧
    (∀ {α : Type} (a : α) (l : List α) (n : Nat), List.take (n + 1) (a :: l) = a :: List.take n l) ∧ (∀ {α : Type} (l : List α), List.take 0 l = []) ∧
    (∀ {α : Type} (a : α) (l : List α) (n : Nat), List.drop (n + 1) (a :: l) = List.drop n l) ∧ (∀ {α : Type} (l : List α), List.drop 0 l = l) ∧
    (∀ {α : Type} (a : α) (l m : List α), a :: l ++ m = a :: (l ++ m)) ∧ (∀ {α : Type} (l : List α), [] ++ l = l) ∧
    (∀ {α β : Type} (f : α → β) (a : α) (l : List α), List.map f (a :: l) = f a :: List.map f l) ∧ (∀ {α β : Type} (f : α → β), List.map f [] = []) ∧
    (∀ {α : Type} (a b : α) (l : List α), (a :: l).set 0 b = b :: l) ∧ (∀ {α : Type} (a b : α) (l : List α) (n : Nat), (a :: l).set (n + 1) b = a :: l.set n b) ∧
    (∀ {α : Type} (a : α) (l : List α), (a :: l).length = l.length + 1) ∧ (∀ {α : Type}, ([] : List α).length = 0) ∧
    (∀ n : Nat, (n : Int).toNat = n) ∧ (∀ n : Nat, 0 + n = n) ∧
    (decide True = true) ∧ (decide False = false) ∧ ((!true) = false) ∧ ((!false) = true) ∧ ((false = true) = False) ∧ ((true = false) = False) ∧ ((true = true) = True) ∧ ((false = false) = True) ∧
    (∀ {α : Type} (a b : α), (if True then a else b) = a) ∧ (∀ {α : Type} (a b : α), (if False then a else b) = b) := by
  refine ⟨fun _ _ => rfl, fun _ _ => rfl, fun _ _ => rfl, fun _ _ _ => by simp, fun _ _ => by simp, fun _ => rfl, fun _ _ _ => rfl, fun _ => rfl, fun _ _ _ => rfl, fun _ => rfl, fun _ _ _ => rfl, fun _ => rfl, fun _ _ _ => rfl, fun _ => rfl, fun _ _ _ => rfl, fun _ _ _ _ => rfl, fun _ _ => rfl, rfl, fun _ => rfl, fun n => Nat.zero_add n, rfl, rfl, rfl, rfl, ?_, ?_, ?_, ?_, fun _ _ => rfl, fun _ _ => rfl⟩ <;> simp
end Go.AX
namespace Go.AX
theorem imp_yes {a b : Bool} {P : Prop} (_ : (a == b) = true) (p : P) : a = b → P := fun _ => p
theorem imp_no {a b : Bool} {P : Prop} (h : (a == b) = false) : a = b → P := fun e => by subst e; simp at h
variable {cx : Cx} {fi : FnI} {e : Env} {H : Hp}
theorem E.rP1 {y : X} (t : Nat) {x : Pv} (v : Pv) (hr : fi.results = [.tmp t]) (hy : ok y = true) (h : look e t = .p v) (hx : v = x) : E (RetP cx fi x) y e H := E.retP1 t hr hy (hx ▸ h)
theorem E.rP2 {y : X} (t u : Nat) {x : Pv} (v w : Pv) (hr : fi.results = [.tmp t, .tmp u]) (hy : ok y = true) (h : look e t = .p v) (h' : look e u = .p w) (hx : .tup [v, w] = x) : E (RetP cx fi x) y e H := hx ▸ E.retP2 t u hr hy h h'
theorem E.rP3 {y : X} (t u q : Nat) {x : Pv} (v w z : Pv) (hr : fi.results = [.tmp t, .tmp u, .tmp q]) (hy : ok y = true) (h : look e t = .p v) (h' : look e u = .p w) (h'' : look e q = .p z) (hx : .tup [v, w, z] = x) : E (RetP cx fi x) y e H := hx ▸ E.retP3 t u q hr hy h h' h''
end Go.AX
