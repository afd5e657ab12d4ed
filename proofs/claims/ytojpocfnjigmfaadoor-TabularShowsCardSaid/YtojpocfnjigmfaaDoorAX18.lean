/-
  RUNS, STEP BY STEP: quick rules for the common operations: what can be told by reckoning alone is told so.
-/
import Derived.Test.YtojpocfnjigmfaaDoorAX17
namespace Go.AX
open Go
def lookE : Env → Nat → Option V
  | [], _ => none
  | (k, v) :: l, t => match Nat.beq k t with
    | true => some v
    | false => lookE l t
theorem look_of : ∀ {e : Env} {t : Nat} {v : V}, lookE e t = some v → look e t = v
  | [], t, v, h => by cases h
  | (k, w) :: l, t, v, h => by
    simp only [lookE] at h
    simp only [look]
    cases hb : Nat.beq k t with
    | true => rw [hb] at h; cases h; rfl
    | false => rw [hb] at h; exact look_of h
def evE (cx : Cx) (e : Env) : Operand → Option V
  | .tmp t => lookE e t
  | .const v => match ofValue v with
    | some x => some (.p x)
    | none => none
  | .func f => some (.p (.fn f [] []))
  | .global g => match cx.gl g with
    | some cs => some (.p (.ep cs))
    | none => none
theorem ev_of {cx : Cx} {e : Env} {x : Operand} {v : V} (h : evE cx e x = some v) : ev cx e x = v := by
  cases x with
  | tmp t => exact look_of h
  | const c =>
    simp only [evE] at h
    simp only [ev]
    split at h
    · rename_i y hy; rw [hy]; cases h; rfl
    · cases h
  | func f => cases h; rfl
  | global g =>
    simp only [evE] at h
    simp only [ev]
    split at h
    · rename_i y hy; rw [hy]; cases h; rfl
    · cases h
variable {cx : Cx} {fi : FnI} {base : Nat} {hs : List (Nat × Nat)} {ops rest : List Oper} {i d id t : Nat} {e : Env} {H : Hp} {Q : Qt} {K : Kt} {x y z : Operand} {v w : V}

theorem F.move (hk : hintOf hs i = 0) (hx : evE cx e x = some v) (h : M cx hs ops (i + 1) rest ((d, v) :: e) H K) : Mg cx hs ops i (some d) (.move x) rest e H K :=
  Mg.op 0 v H hk rfl (by simp only [opV, ev_of hx]) h
theorem F.assign (hk : hintOf hs i = 0) (hx : evE cx e x = some v) (h : M cx hs ops (i + 1) rest ((d, v) :: e) H K) : Mg cx hs ops i (some d) (.assign x) rest e H K :=
  Mg.op 0 v H hk rfl (by simp only [opV, ev_of hx]) h
def cmpI (op : BinOp) (a b : Int) : Option Bool := match op with
  | .eql => some (decide (a = b))
  | .neq => some (!decide (a = b))
  | .lss => some (decide (a < b))
  | .leq => some (decide (a ≤ b))
  | .gtr => some (decide (a > b))
  | .geq => some (decide (a ≥ b))
  | _ => none
theorem cmpI_of {k : IntKind} {op : BinOp} {a b : Int} {r : Bool} (h : cmpI op a b = some r) : arith k op a b = some (.bool r) := by
  cases op <;> simp only [cmpI, Option.some.injEq, reduceCtorEq] at h <;> subst h <;> simp only [arith, Option.some.injEq, Pv.bool.injEq]
  · exact Bool.beq_eq_decide_eq a b
  · exact congrArg not (Bool.beq_eq_decide_eq a b)
theorem F.cmp {op : BinOp} {g : TypeId} {k : IntKind} {a b : Int} {r : Bool} (hk : hintOf hs i = 0) (hx : evE cx e x = some (.p (.int k a))) (hy : evE cx e y = some (.p (.int k b))) (hr : cmpI op a b = some r) (h : M cx hs ops (i + 1) rest ((d, .p (.bool r)) :: e) H K) : Mg cx hs ops i (some d) (.binOp op t x y g) rest e H K :=
  Mg.op 0 _ H hk rfl (by simp only [opV, ev_of hx, ev_of hy, binI, cmpI_of hr, Option.map_some]) h
def cmpS (op : BinOp) (a b : List UInt8) : Option Bool := match op with
  | .eql => some (a == b)
  | .neq => some (!(a == b))
  | _ => none
theorem F.cmpS {op : BinOp} {g : TypeId} {a b : List UInt8} {r : Bool} (hk : hintOf hs i = 0) (hx : evE cx e x = some (.p (.str a))) (hy : evE cx e y = some (.p (.str b))) (hr : Go.AX.cmpS op a b = some r) (h : M cx hs ops (i + 1) rest ((d, .p (.bool r)) :: e) H K) : Mg cx hs ops i (some d) (.binOp op t x y g) rest e H K := by
  refine Mg.op 0 _ H hk rfl ?_ h
  cases op <;> simp only [Go.AX.cmpS, Option.some.injEq, reduceCtorEq] at hr
  · subst hr; simp only [opV, ev_of hx, ev_of hy, binS, strOp, Option.map_some]
  · subst hr; simp only [opV, ev_of hx, ev_of hy, binS, strOp, Option.map_some]
theorem F.add {g : TypeId} {a b : Int} (hk : hintOf hs i = 0) (hx : evE cx e x = some (.p (.int .i64 a))) (hy : evE cx e y = some (.p (.int .i64 b))) (hr : -9223372036854775808 ≤ a + b ∧ a + b ≤ 9223372036854775807) (h : M cx hs ops (i + 1) rest ((d, .p (.int .i64 (a + b))) :: e) H K) : Mg cx hs ops i (some d) (.binOp .add t x y g) rest e H K :=
  Mg.op 0 _ H hk rfl (by simp only [opV, ev_of hx, ev_of hy, binI, arith, Option.map_some, wrap64 hr.1 hr.2]) h
theorem F.sub {g : TypeId} {a b : Int} (hk : hintOf hs i = 0) (hx : evE cx e x = some (.p (.int .i64 a))) (hy : evE cx e y = some (.p (.int .i64 b))) (hr : -9223372036854775808 ≤ a - b ∧ a - b ≤ 9223372036854775807) (h : M cx hs ops (i + 1) rest ((d, .p (.int .i64 (a - b))) :: e) H K) : Mg cx hs ops i (some d) (.binOp .sub t x y g) rest e H K :=
  Mg.op 0 _ H hk rfl (by simp only [opV, ev_of hx, ev_of hy, binI, arith, Option.map_some, wrap64 hr.1 hr.2]) h
theorem F.adds {g : TypeId} {a b : List UInt8} (hk : hintOf hs i = 0) (hx : evE cx e x = some (.p (.str a))) (hy : evE cx e y = some (.p (.str b))) (hr : a.length + b.length ≤ 9223372036854775807) (h : M cx hs ops (i + 1) rest ((d, .p (.str (a ++ b))) :: e) H K) : Mg cx hs ops i (some d) (.binOp .add t x y g) rest e H K :=
  Mg.op 0 _ H hk rfl (by simp only [opV, ev_of hx, ev_of hy, binS, strOp_add hr, Option.map_some]) h
theorem F.bin {op : BinOp} {g : TypeId} {ti : Option TI} (hk : hintOf hs i = 0) (hx : evE cx e x = some v) (hy : evE cx e y = some w) (r : V) (hT : cx.T t = ti) (hr : binV ti op v w = some r) (h : M cx hs ops (i + 1) rest ((d, r) :: e) H K) : Mg cx hs ops i (some d) (.binOp op t x y g) rest e H K :=
  Mg.op 0 _ H hk rfl (by simp only [opV, ev_of hx, ev_of hy, hT, hr, Option.map_some]) h
theorem F.not {b : Bool} (hk : hintOf hs i = 0) (hx : evE cx e x = some (.p (.bool b))) (r : Bool) (hr : (!b) = r) (h : M cx hs ops (i + 1) rest ((d, .p (.bool r)) :: e) H K) : Mg cx hs ops i (some d) (.unOp .not t x) rest e H K :=
  Mg.op 0 _ H hk rfl (by subst hr; simp only [opV, ev_of hx, unP, Option.map_some]) h
theorem F.neg {a : Int} (hk : hintOf hs i = 0) (hx : evE cx e x = some (.p (.int .i64 a))) (hr : -9223372036854775807 ≤ a ∧ a ≤ 9223372036854775807) (h : M cx hs ops (i + 1) rest ((d, .p (.int .i64 (0 - a))) :: e) H K) : Mg cx hs ops i (some d) (.unOp .neg t x) rest e H K :=
  Mg.op 0 _ H hk rfl (by simp only [opV, ev_of hx, unP, Option.map_some]; rw [wrap64 (by omega) (by omega)]) h
theorem F.pickT (hk : hintOf hs i = 0) (hz : evE cx e z = some (.p (.bool true))) (hx : evE cx e x = some v) (h : M cx hs ops (i + 1) rest ((d, v) :: e) H K) : Mg cx hs ops i (some d) (.pick z x y) rest e H K :=
  Mg.op 0 _ H hk rfl (by simp only [opV, ev_of hx, ev_of hz]) h
theorem F.pickF (hk : hintOf hs i = 0) (hz : evE cx e z = some (.p (.bool false))) (hx : evE cx e y = some v) (h : M cx hs ops (i + 1) rest ((d, v) :: e) H K) : Mg cx hs ops i (some d) (.pick z x y) rest e H K :=
  Mg.op 0 _ H hk rfl (by simp only [opV, ev_of hx, ev_of hz]) h
theorem F.nilCheck (hk : hintOf hs i = 0) (hx : evE cx e x = some v) (hn : nilCheckV v = some w) (h : M cx hs ops (i + 1) rest ((d, w) :: e) H K) : Mg cx hs ops i (some d) (.nilCheck x) rest e H K :=
  Mg.op 0 _ H hk rfl (by simp only [opV, ev_of hx, hn, Option.map_some]) h
theorem F.extract {n : Nat} (hk : hintOf hs i = 0) (hx : evE cx e x = some v) (hn : extractV n v = some w) (h : M cx hs ops (i + 1) rest ((d, w) :: e) H K) : Mg cx hs ops i (some d) (.extract x n) rest e H K :=
  Mg.op 0 _ H hk rfl (by simp only [opV, ev_of hx, hn, Option.map_some]) h
def fOff (ti : Option TI) (f : Nat) : Option Nat := match ti with
  | some ti => match ti.kd with
    | .struct fs => match fs[f]? with
      | some fi => match Nat.beq fi.size 0 with
        | true => none
        | false => some fi.off
      | none => none
    | _ => none
  | none => none
theorem F.fieldAddr {f id ver off o : Nat} (hk : hintOf hs i = 0) (hx : evE cx e x = some (.ptr id ver off)) (hn : fOff (cx.T t) f = some o) (h : M cx hs ops (i + 1) rest ((d, .ptr id ver (off + o)) :: e) H K) : Mg cx hs ops i (some d) (.fieldAddr t x f) rest e H K := by
  refine Mg.op 0 _ H hk rfl ?_ h
  unfold fOff at hn
  split at hn
  · rename_i ti hT
    split at hn
    · rename_i fs hkd
      split at hn
      · rename_i fi hf
        split at hn
        · cases hn
        · rename_i hb
          cases hn
          simp only [opV, hT, ev_of hx, fieldAddrV, hkd, hf, hb, Option.map_some]
      · cases hn
    · cases hn
  · cases hn
def ldE (ti : Option TI) (H : Hp) (a : V) : Option V := match ti with
  | some ti => match ti.agg with
    | false => loadV ti H a
    | true => none
  | none => none
theorem F.load (hk : hintOf hs i = 0) (hx : evE cx e x = some v) (hn : ldE (cx.T t) H v = some w) (h : M cx hs ops (i + 1) rest ((d, w) :: e) H K) : Mg cx hs ops i (some d) (.load t x) rest e H K := by
  refine Mg.op 0 _ H hk rfl ?_ h
  unfold ldE at hn
  split at hn
  · rename_i ti hT
    split at hn
    · simp only [opV, hT, ev_of hx]
      rw [ldH_ne (by decide) (by decide), hn]
      rfl
    · cases hn
  · cases hn
theorem F.loadS {ti : TI} (hk : hintOf hs i = 0) (hx : evE cx e x = some v) (w : V) (hT : cx.T t = some ti) (hn : loadV ti H v = some w) (h : M cx hs ops (i + 1) rest ((d, w) :: e) H K) : Mg cx hs ops i (some d) (.load t x) rest e H K := by
  refine Mg.op 0 _ H hk rfl ?_ h
  simp only [opV, hT, ev_of hx]
  rw [ldH_ne (by decide) (by decide), hn]
  rfl
theorem F.load2 {ti : TI} (hk : hintOf hs i = 2) (hx : evE cx e x = some v) (w : V) (hT : cx.T t = some ti) (hn : loadV ti [] v = some w) (h : M cx hs ops (i + 1) rest ((d, w) :: e) H K) : Mg cx hs ops i (some d) (.load t x) rest e H K := by
  refine Mg.op 2 _ H hk rfl ?_ h
  simp only [opV, hT, ev_of hx]
  show (loadV ti [] v).map (·, H) = _
  rw [hn]
  rfl
theorem F.store {ti : TI} (hk : hintOf hs i = 0) (hx : evE cx e x = some v) (hy : evE cx e y = some w) (H' : Hp) (hT : cx.T t = some ti) (hn : storeV ti H v w = some H') (h : M cx hs ops (i + 1) rest e H' K) : Mg cx hs ops i none (.store t x y) rest e H K :=
  Mg.opN 0 .undef H' hk rfl (by simp only [opV, hT, ev_of hx, ev_of hy, hn, Option.map_some]) h
theorem F.alloc {ti : TI} (hk : hintOf hs i = 0) (n : Nat) (H' : Hp) (hT : cx.T t = some ti) (hl : H.length = n) (hn : H ++ [.box 0 (ti.zero.map .p)] = H') (h : M cx hs ops (i + 1) rest ((d, .ptr n 0 0) :: e) H' K) : Mg cx hs ops i (some d) (.alloc t) rest e H K := by
  subst hl hn
  exact Mg.op 0 _ _ hk rfl (by simp only [opV, hT, newBox, Option.map_some]) h
theorem F.box {ti : TI} (hk : hintOf hs i = 0) (hx : evE cx e x = some v) (cs : List V) (n : Nat) (H' : Hp) (hT : cx.T t = some ti) (hv : v.cells = cs) (hz : (Nat.beq cs.length ti.size && Nat.blt 0 ti.size) = true) (hl : H.length = n) (hn : H ++ [.box 0 cs] = H') (h : M cx hs ops (i + 1) rest ((d, .ptr n 0 0) :: e) H' K) : Mg cx hs ops i (some d) (.box t x) rest e H K := by
  subst hl hn hv
  exact Mg.op 0 _ _ hk rfl (by simp only [opV, hT, ev_of hx, hz, newBox]) h
theorem F.indexAddr {ti : TI} (hk : hintOf hs i = 0) (hx : evE cx e x = some v) (hy : evE cx e y = some w) (r : V) (hT : cx.T t = some ti) (hn : indexAddrV ti v w = some r) (h : M cx hs ops (i + 1) rest ((d, r) :: e) H K) : Mg cx hs ops i (some d) (.indexAddr t x y) rest e H K :=
  Mg.op 0 _ H hk rfl (by simp only [opV, hT, ev_of hx, ev_of hy, hn, Option.map_some]) h
theorem F.index {ti : TI} (hk : hintOf hs i = 0) (hx : evE cx e x = some v) (hy : evE cx e y = some w) (r : V) (hT : cx.T t = some ti) (hn : indexV ti v w = some r) (h : M cx hs ops (i + 1) rest ((d, r) :: e) H K) : Mg cx hs ops i (some d) (.index t x y) rest e H K :=
  Mg.op 0 _ H hk rfl (by simp only [opV, hT, ev_of hx, ev_of hy, hn, Option.map_some]) h
theorem F.field {f : Nat} {ti : TI} (hk : hintOf hs i = 0) (hx : evE cx e x = some v) (r : V) (hT : cx.T t = some ti) (hn : fieldV ti v f = some r) (h : M cx hs ops (i + 1) rest ((d, r) :: e) H K) : Mg cx hs ops i (some d) (.field t x f) rest e H K :=
  Mg.op 0 _ H hk rfl (by simp only [opV, hT, ev_of hx, hn, Option.map_some]) h
theorem F.fieldAddrS {f : Nat} {ti : TI} (hk : hintOf hs i = 0) (hx : evE cx e x = some v) (r : V) (hT : cx.T t = some ti) (hn : fieldAddrV ti v f = some r) (h : M cx hs ops (i + 1) rest ((d, r) :: e) H K) : Mg cx hs ops i (some d) (.fieldAddr t x f) rest e H K :=
  Mg.op 0 _ H hk rfl (by simp only [opV, hT, ev_of hx, hn, Option.map_some]) h
theorem F.len {ti : TI} {ats : Array TypeId} {n : Nat} (hk : hintOf hs i = 0) (hx : evE cx e x = some v) (hT : (ats[0]?).bind cx.T = some ti) (hn : lenV ti v = some n) (h : M cx hs ops (i + 1) rest ((d, .p (.int .i64 n)) :: e) H K) : Mg cx hs ops i (some d) (.call { callee := .builtin .len, args := [x].toArray, argTypes := ats }) rest e H K :=
  Mg.op 0 _ H hk rfl (by simp only [opV, List.map_cons, List.map_nil, ev_of hx, builtinV, hT, hn]) h
def evs (cx : Cx) (e : Env) : List Operand → Option (List V)
  | [] => some []
  | x :: l => match evE cx e x, evs cx e l with
    | some v, some r => some (v :: r)
    | _, _ => none
theorem evs_of {cx : Cx} {e : Env} : ∀ {as : List Operand} {l : List V}, evs cx e as = some l → as.map (ev cx e) = l
  | [], l, h => by cases h; rfl
  | x :: as, l, h => by
    simp only [evs] at h
    split at h
    · rename_i v r h1 h2
      cases h
      rw [List.map_cons, ev_of h1, evs_of h2]
    · cases h
inductive Evs (cx : Cx) (e : Env) : List Operand → List V → Prop where
  | nil : Evs cx e [] []
  | cons {x : Operand} {as : List Operand} {v : V} {l : List V} (h : evE cx e x = some v) (t : Evs cx e as l) : Evs cx e (x :: as) (v :: l)
theorem Evs.eq {as : List Operand} {l : List V} (h : Evs cx e as l) : as.map (ev cx e) = l := by
  induction h with
  | nil => rfl
  | cons h _ ih => rw [List.map_cons, ev_of h, ih]
theorem F.call0 {as : List Operand} {f : Operand} {ats : Array TypeId} {g : FuncId} {a b : List Pv} (l : List V) (pl : List Pv) (r : Pv) (hk : hintOf hs i = 0) (hf : evE cx e f = some (.p (.fn g a b))) (hl : Evs cx e as l) (hp : allP (a.map .p ++ l ++ b.map .p) = some pl) (hv : FV cx g (a.map .p ++ l ++ b.map .p) r)
    (h : M cx hs ops (i + 1) rest ((d, .p r) :: e) H K) : Mg cx hs ops i (some d) (.call { callee := .value f, args := as.toArray, argTypes := ats }) rest e H K :=
  Mg.fv g (a.map .p) (b.map .p) _ pl r hk (by rw [ev_of hf]; rfl) (by rw [hl.eq]) hp hv h
theorem F.call1 {as : List Operand} {f : Operand} {ats : Array TypeId} {g : FuncId} {a b : List Pv} (l : List V) (r : V) (H' : Hp) (hk : hintOf hs i = 1) (hf : evE cx e f = some (.p (.fn g a b))) (hl : Evs cx e as l) (hv : CV cx g (a.map .p ++ l ++ b.map .p) H r H')
    (h : M cx hs ops (i + 1) rest ((d, r) :: e) H' K) : Mg cx hs ops i (some d) (.call { callee := .value f, args := as.toArray, argTypes := ats }) rest e H K :=
  Mg.call g (a.map .p) (b.map .p) _ r H' hk (by rw [ev_of hf]; rfl) (by rw [hl.eq]) hv h
theorem F.call1N {as : List Operand} {f : Operand} {ats : Array TypeId} {g : FuncId} {a b : List Pv} (l : List V) (r : V) (H' : Hp) (hk : hintOf hs i = 1) (hf : evE cx e f = some (.p (.fn g a b))) (hl : Evs cx e as l) (hv : CV cx g (a.map .p ++ l ++ b.map .p) H r H')
    (h : M cx hs ops (i + 1) rest e H' K) : Mg cx hs ops i none (.call { callee := .value f, args := as.toArray, argTypes := ats }) rest e H K :=
  Mg.call g (a.map .p) (b.map .p) _ r H' hk (by rw [ev_of hf]; rfl) (by rw [hl.eq]) hv h
theorem F.callC {as : List Operand} {f : Operand} {ats : Array TypeId} {g : FuncId} {a b : List V} (l : List V) (r : V) (H' : Hp) (hk : hintOf hs i = 1) (hf : evE cx e f = some (.fn g a b)) (hl : Evs cx e as l) (hv : CV cx g (a ++ l ++ b) H r H')
    (h : M cx hs ops (i + 1) rest ((d, r) :: e) H' K) : Mg cx hs ops i (some d) (.call { callee := .value f, args := as.toArray, argTypes := ats }) rest e H K :=
  Mg.call g a b _ r H' hk (by rw [ev_of hf]; rfl) (by rw [hl.eq]) hv h
theorem F.callCN {as : List Operand} {f : Operand} {ats : Array TypeId} {g : FuncId} {a b : List V} (l : List V) (r : V) (H' : Hp) (hk : hintOf hs i = 1) (hf : evE cx e f = some (.fn g a b)) (hl : Evs cx e as l) (hv : CV cx g (a ++ l ++ b) H r H')
    (h : M cx hs ops (i + 1) rest e H' K) : Mg cx hs ops i none (.call { callee := .value f, args := as.toArray, argTypes := ats }) rest e H K :=
  Mg.call g a b _ r H' hk (by rw [ev_of hf]; rfl) (by rw [hl.eq]) hv h
inductive Prs (cx : Cx) (e : Env) : List (Nat × Operand) → List (Nat × V) → Prop where
  | nil : Prs cx e [] []
  | cons {j : Nat} {x : Operand} {as : List (Nat × Operand)} {v : V} {l : List (Nat × V)} (h : evE cx e x = some v) (t : Prs cx e as l) : Prs cx e ((j, x) :: as) ((j, v) :: l)
theorem Prs.eq {as : List (Nat × Operand)} {l : List (Nat × V)} (h : Prs cx e as l) : as.map (fun p => (p.1, ev cx e p.2)) = l := by
  induction h with
  | nil => rfl
  | cons h _ ih => simp only [List.map_cons, ev_of h, ih]
theorem F.build {as : List (Nat × Operand)} {ti : TI} (l : List (Nat × V)) (r : V) (hk : hintOf hs i = 0) (hT : cx.T t = some ti) (hl : Prs cx e as l) (hn : buildV ti l = some r) (h : M cx hs ops (i + 1) rest ((d, r) :: e) H K) : Mg cx hs ops i (some d) (.build t as.toArray) rest e H K :=
  Mg.op 0 _ H hk rfl (by
    simp only [opV, hT]
    have := hl.eq
    simp only [this, hn, Option.map_some]) h
theorem F.buildSlice {as : List (Nat × Operand)} {n : Nat} {ti : TI} (l : List (Nat × V)) (r : V) (hk : hintOf hs i = 0) (hT : cx.T t = some ti) (hl : Prs cx e as l) (hn : buildSliceV ti n l = some r) (h : M cx hs ops (i + 1) rest ((d, r) :: e) H K) : Mg cx hs ops i (some d) (.buildSlice t n as.toArray) rest e H K :=
  Mg.op 0 _ H hk rfl (by
    simp only [opV, hT]
    have := hl.eq
    simp only [this, hn, Option.map_some]) h
theorem F.append {ats : Array TypeId} {tj : Nat} {ti tu : TI} (r : V) (H' : Hp) (hk : hintOf hs i = 0) (ht : ats[0]? = some t) (hj : ats[1]? = some tj) (hT : cx.T t = some ti) (hU : cx.T tj = some tu) (hkd : (match tu.kd with | .slice .. => true | .str => true | _ => false) = true) (hx : evE cx e x = some v) (hy : evE cx e y = some w) (hn : appendV ti H v w = some (r, H'))
    (h : M cx hs ops (i + 1) rest ((d, r) :: e) H' K) : Mg cx hs ops i (some d) (.call { callee := .builtin .append, args := [x, y].toArray, argTypes := ats }) rest e H K := by
  refine Mg.op 0 r H' hk rfl ?_ h
  simp only [opV, List.map_cons, List.map_nil, ev_of hx, ev_of hy, builtinV, ht, hj, hT, hU]
  obtain ⟨kd, sz, ag, z, q⟩ := tu
  cases kd <;> first | exact hn | cases hkd
inductive Kp (e : Env) : List Nat → Env → Prop where
  | nil : Kp e [] []
  | cons {t : Nat} {l : List Nat} {e' : Env} {v : V} (h : lookE e t = some v) (k : Kp e l e') : Kp e (t :: l) ((t, v) :: e')
theorem Kp.eq {e e' : Env} {l : List Nat} (h : Kp e l e') : keep l e = e' := by
  induction h with
  | nil => rfl
  | cons h _ ih => 
    unfold keep at ih ⊢
    rw [List.map_cons, look_of h, ih]
def Lv (lv : List Nat) (e : Env) (H : Hp) (P : Env → Hp → Prop) : Prop := ∃ e', Kp e lv e' ∧ P e' H
theorem Lv.of {lv : List Nat} {e : Env} {H : Hp} {P : Env → Hp → Prop} {e' : Env} (h : Kp e lv e') (hp : P e' H) : Lv lv e H P := ⟨e', h, hp⟩
theorem region_live {fi : FnI} {base id : Nat} {call : CallF} {ops : List Oper} {st s : St} {l : List Nat} (hr : rhOf fi.hints id = { ops := hs, live := some l }) (h : runOps cx call hs ops 0 ops st = some s) : region cx call fi base id ops st = some ⟨keep l s.env, s.H⟩ := by
  unfold region
  rw [hr]
  simp only [h]
theorem R.regionL {l : List Oper} {dr : Bool} {lv : List Nat} (hr : rhOf fi.hints id = { ops := hs, live := some lv }) (h : M cx hs l 0 l e H (fun e H => Lv lv e H (E Q .norm))) : R cx fi base (.region id l.toArray dr) e H Q := by
  refine ⟨?_⟩
  obtain ⟨n, s, h1, e', h2, h3⟩ := h.out
  refine ⟨n + 1, .norm, ⟨e', s.H⟩, ?_, h3.out⟩
  simp only [exec, step]
  have h1' : runOps cx (callWith cx (exec cx n)) hs l 0 l ⟨e, H⟩ = some s := h1
  rw [region_live hr h1', h2.eq]
  rfl
theorem R.regsL {l : List Oper} {dr : Bool} {b : Code} {lv : List Nat} (hr : rhOf fi.hints id = { ops := hs, live := some lv }) (h : M cx hs l 0 l e H (fun e H => Lv lv e H (fun e H => R cx fi base b e H Q))) : R cx fi base (.seq (.region id l.toArray dr) b) e H Q := by
  refine R.seq (R.regionL hr ?_)
  obtain ⟨n, s, h1, e', h2, h3⟩ := h.out
  exact ⟨n, s, h1, e', h2, E.seqN h3⟩
end Go.AX
namespace Go.AX
open Go
variable {cx : Cx} {fi : FnI} {base : Nat} {hs : List (Nat × Nat)} {id : Nat} {e : Env} {H : Hp} {Q : Qt}
def cutOk (n : Nat) (e : Env) (H : Hp) : Bool := e.all (fun x => lowV n x.2) && H.all (lowOb n)
def Cut (base k : Nat) (lv : List Nat) (e : Env) (H : Hp) (P : Env → Hp → Prop) : Prop := ∃ e' H', Kp e lv e' ∧ H.take (base + k) = H' ∧ cutOk (base + k) e' H' = true ∧ P e' H'
theorem region_cut {call : CallF} {ops : List Oper} {st s : St} {l : List Nat} {k : Nat} (hr : rhOf fi.hints id = { ops := hs, live := some l, trunc := some k }) (h : runOps cx call hs ops 0 ops st = some s) (hc : cutOk (base + k) (keep l s.env) (s.H.take (base + k)) = true) : region cx call fi base id ops st = some ⟨keep l s.env, s.H.take (base + k)⟩ := by
  unfold region
  rw [hr]
  unfold cutOk at hc
  simp only [h, hc]
theorem R.regionT {l : List Oper} {dr : Bool} {lv : List Nat} {k : Nat} (hr : rhOf fi.hints id = { ops := hs, live := some lv, trunc := some k }) (h : M cx hs l 0 l e H (fun e H => Cut base k lv e H (E Q .norm))) : R cx fi base (.region id l.toArray dr) e H Q := by
  refine ⟨?_⟩
  obtain ⟨n, s, h1, e', H', h2, h3, h4, h5⟩ := h.out
  subst h3
  refine ⟨n + 1, .norm, ⟨e', s.H.take (base + k)⟩, ?_, h5.out⟩
  simp only [exec, step]
  have h1' : runOps cx (callWith cx (exec cx n)) hs l 0 l ⟨e, H⟩ = some s := h1
  rw [region_cut hr h1' (by rw [h2.eq]; exact h4), h2.eq]
  rfl
theorem R.regsT {l : List Oper} {dr : Bool} {b : Code} {lv : List Nat} {k : Nat} (hr : rhOf fi.hints id = { ops := hs, live := some lv, trunc := some k }) (h : M cx hs l 0 l e H (fun e H => Cut base k lv e H (fun e H => R cx fi base b e H Q))) : R cx fi base (.seq (.region id l.toArray dr) b) e H Q := by
  refine R.seq (R.regionT hr ?_)
  obtain ⟨n, s, h1, e', H', h2, h3, h4, h5⟩ := h.out
  exact ⟨n, s, h1, e', H', h2, h3, h4, E.seqN h5⟩
theorem Cut.of {base k : Nat} {lv : List Nat} {P : Env → Hp → Prop} {e' : Env} {H' : Hp} (h : Kp e lv e') (ht : H.take (base + k) = H') (hc : cutOk (base + k) e' H' = true) (hp : P e' H') : Cut base k lv e H P := ⟨e', H', h, ht, hc, hp⟩
end Go.AX
namespace Go.AX
open Go
variable {cx : Cx} {fi : FnI} {base : Nat} {hs : List (Nat × Nat)} {ops rest : List Oper} {i d id t : Nat} {e : Env} {H : Hp} {Q : Qt} {K : Kt} {x y z : Operand} {v w : V}
theorem F.assignF (r : V) (H' : Hp) (hk : hintOf hs i = 4) (hx : evE cx e x = some v) (hf : frzCells H v = r) (hm : markCells H v = H') (h : M cx hs ops (i + 1) rest ((d, r) :: e) H' K) : Mg cx hs ops i (some d) (.assign x) rest e H K := by
  refine Mg.frz 4 r H' hk rfl ?_ h
  show opV cx noCall 0 ([x].foldl (fun H x => markCells H (ev cx e x)) H) _ _ = _
  simp only [opV, ev_of hx, hf, List.foldl, hm]
theorem F.append2 {ats : Array TypeId} {tj : Nat} {ti tu : TI} (a b : Pv) (q : Pv) (r : V) (H' : Hp) (hk : hintOf hs i = 2) (ht : ats[0]? = some t) (hj : ats[1]? = some tj) (hT : cx.T t = some ti) (hU : cx.T tj = some tu) (hkd : (match tu.kd with | .slice .. => true | .str => true | _ => false) = true) (hx : evE cx e x = some (.p a)) (hy : evE cx e y = some (.p b)) (hn : appendV ti [] (.p a) (.p b) = some (r, H')) (hf : frzCells H' r = .p q)
    (h : M cx hs ops (i + 1) rest ((d, .p q) :: e) H K) : Mg cx hs ops i (some d) (.call { callee := .builtin .append, args := [x, y].toArray, argTypes := ats }) rest e H K := by
  refine Mg.op 2 (.p q) H hk rfl ?_ h
  simp only [opV, List.map_cons, List.map_nil, ev_of hx, ev_of hy, pureB, allP, asP]
  have : builtinV cx [] .append [.p a, .p b] ats = some (r, H') := by
    simp only [builtinV, ht, hj, hT, hU]
    obtain ⟨kd, sz, ag, z, q'⟩ := tu
    cases kd <;> first | exact hn | cases hkd
  simp only [this, hf]
theorem F.append3 {ats : Array TypeId} {tj : Nat} {ti tu : TI} (a : Pv) (r : V) (H' : Hp) (hk : hintOf hs i = 3) (ht : ats[0]? = some t) (hj : ats[1]? = some tj) (hT : cx.T t = some ti) (hU : cx.T tj = some tu) (hkd : (match tu.kd with | .slice .. => true | .str => true | _ => false) = true) (hx : evE cx e x = some (.p a)) (hy : evE cx e y = some w) (hn : appendV ti H (.p a) w = some (r, H'))
    (h : M cx hs ops (i + 1) rest ((d, r) :: e) H' K) : Mg cx hs ops i (some d) (.call { callee := .builtin .append, args := [x, y].toArray, argTypes := ats }) rest e H K := by
  refine Mg.op 3 r H' hk rfl ?_ h
  simp only [opV, List.map_cons, List.map_nil, ev_of hx, ev_of hy, firstP, builtinV, ht, hj, hT, hU]
  obtain ⟨kd, sz, ag, z, q⟩ := tu
  cases kd <;> first | exact hn | cases hkd
theorem F.convert {s u : Nat} {ts tu : TI} {a : Pv} (r : Pv) (hk : hintOf hs i = 0) (hx : evE cx e x = some (.p a)) (hS : cx.T s = some ts) (hU : cx.T u = some tu) (hn : convP ts tu a = some r) (h : M cx hs ops (i + 1) rest ((d, .p r) :: e) H K) : Mg cx hs ops i (some d) (.convert s u x) rest e H K :=
  Mg.op 0 _ H hk rfl (by simp only [opV, ev_of hx, hS, hU, hn, Option.map_some]) h
def evO (cx : Cx) (e : Env) : Option Operand → Option (Option V)
  | none => some none
  | some x => match evE cx e x with
    | some v => some (some v)
    | none => none
theorem evO_of {o : Option Operand} {r : Option V} (h : evO cx e o = some r) : o.map (ev cx e) = r := by
  cases o with
  | none => cases h; rfl
  | some x =>
    simp only [evO] at h
    split at h
    · rename_i v hv; cases h; simp only [Option.map_some, ev_of hv]
    · cases h
theorem F.slice {lo hi mx : Option Operand} {lv hv mv : Option V} {ti : TI} (r : V) (hk : hintOf hs i = 0) (hx : evE cx e x = some v) (h1 : evO cx e lo = some lv) (h2 : evO cx e hi = some hv) (h3 : evO cx e mx = some mv) (hT : cx.T t = some ti) (hn : sliceV ti v lv hv mv = some r) (h : M cx hs ops (i + 1) rest ((d, r) :: e) H K) : Mg cx hs ops i (some d) (.slice t x lo hi mx) rest e H K :=
  Mg.op 0 _ H hk rfl (by simp only [opV, hT, ev_of hx, evO_of h1, evO_of h2, evO_of h3, hn, Option.map_some]) h
theorem F.makeFunc {fn : Fn} {first cap : List Operand} (l m : List V) (r : V) (hk : hintOf hs i = 0) (hl : Evs cx e first l) (hm : Evs cx e cap m) (hn : makeFuncV fn l m = some r) (h : M cx hs ops (i + 1) rest ((d, r) :: e) H K) : Mg cx hs ops i (some d) (.makeFunc fn first.toArray cap.toArray) rest e H K :=
  Mg.op 0 _ H hk rfl (by simp only [opV, hl.eq, hm.eq, hn, Option.map_some]) h
theorem results_cell {a u : Nat} {ti : TI} {p r : V} (hr : fi.results = [.cell a u]) (h : look e a = p) (hT : cx.T u = some ti) (hl : loadV ti H p = some r) : results cx fi ⟨e, H⟩ = some r := by
  unfold results
  rw [hr]
  simp only [resV, hT, h, hl]
theorem E.rPc {y : X} (a u : Nat) {ti : TI} {x : Pv} (p : V) (v : Pv) (hr : fi.results = [.cell a u]) (hy : ok y = true) (h : look e a = p) (hT : cx.T u = some ti) (hl : loadV ti H p = some (.p v)) (hx : v = x) : E (RetP cx fi x) y e H := ⟨ok_or hy, by subst hx; exact results_cell hr h hT hl⟩
theorem E.rc {y : X} (a u : Nat) {ti : TI} {r : V} (p v : V) (hr : fi.results = [.cell a u]) (hy : ok y = true) (h : look e a = p) (hT : cx.T u = some ti) (hl : loadV ti H p = some v) (hx : v = r) {H' : Hp} (hH : H = H') : E (Ret cx fi r H') y e H := ⟨ok_or hy, by subst hx; exact results_cell hr h hT hl, hH⟩
def AV (cx : Cx) (f : FuncId) (args : List V) (H : Hp) (r : V) : Prop := ∃ H', CV cx f args H r H'
end Go.AX
namespace Go.AX
open Go
variable {cx : Cx} {fi : FnI} {e : Env} {H H' : Hp}
theorem E.r0 {y : X} {r : V} (hr : fi.results = []) (hy : ok y = true) (hx : .p (.tup []) = r) (hH : H = H') : E (Ret cx fi r H') y e H := ⟨ok_or hy, hx ▸ results_none hr, hH⟩
theorem E.r1 {y : X} (t : Nat) {r : V} (v : V) (hr : fi.results = [.tmp t]) (hy : ok y = true) (h : look e t = v) (hx : v = r) (hH : H = H') : E (Ret cx fi r H') y e H := ⟨ok_or hy, hx ▸ results_one hr h, hH⟩
theorem E.r2 {y : X} (t u : Nat) {r : V} (v w : V) (hr : fi.results = [.tmp t, .tmp u]) (hy : ok y = true) (h : look e t = v) (h' : look e u = w) (hx : mkTup [v, w] = r) (hH : H = H') : E (Ret cx fi r H') y e H := ⟨ok_or hy, hx ▸ results_two hr h h', hH⟩
theorem E.r3 {y : X} (t u q : Nat) {r : V} (v w z : V) (hr : fi.results = [.tmp t, .tmp u, .tmp q]) (hy : ok y = true) (h : look e t = v) (h' : look e u = w) (h'' : look e q = z) (hx : mkTup [v, w, z] = r) (hH : H = H') : E (Ret cx fi r H') y e H := ⟨ok_or hy, hx ▸ results_three hr h h' h'', hH⟩
theorem E.rF1 {y : X} (t : Nat) {x : Pv} (v : V) (hr : fi.results = [.tmp t]) (hy : ok y = true) (h : look e t = v) (hx : frzCells H v = .p x) : E (RetF cx fi x) y e H := ⟨ok_or hy, v, results_one hr h, frzD_of hx⟩
theorem E.rF2 {y : X} (t u : Nat) {x : Pv} (v w : V) (hr : fi.results = [.tmp t, .tmp u]) (hy : ok y = true) (h : look e t = v) (h' : look e u = w) (hx : frzCells H (mkTup [v, w]) = .p x) : E (RetF cx fi x) y e H := ⟨ok_or hy, _, results_two hr h h', frzD_of hx⟩
theorem E.rF3 {y : X} (t u q : Nat) {x : Pv} (v w z : V) (hr : fi.results = [.tmp t, .tmp u, .tmp q]) (hy : ok y = true) (h : look e t = v) (h' : look e u = w) (h'' : look e q = z) (hx : frzCells H (mkTup [v, w, z]) = .p x) : E (RetF cx fi x) y e H := ⟨ok_or hy, _, results_three hr h h' h'', frzD_of hx⟩
end Go.AX
namespace Go.AX
theorem elDiv {k n r : Nat} (h : r < n) : (k * n + r) / n = k := by
  rw [Nat.mul_comm, Nat.mul_add_div (by omega), Nat.div_eq_of_lt h, Nat.add_zero]
theorem elMod {k n r : Nat} (h : r < n) : (k * n + r) % n = r := by
  rw [Nat.mul_comm, Nat.mul_add_mod, Nat.mod_eq_of_lt h]
theorem elDiv0 {k n : Nat} (h : 0 < n) : (k * n) / n = k := Nat.mul_div_cancel k h
end Go.AX
