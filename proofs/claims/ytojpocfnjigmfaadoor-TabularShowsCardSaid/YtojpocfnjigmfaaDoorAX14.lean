/-
  RUNS BY REWRITING: what a region's operations do, told by equations that 'simp' goes by.
-/
import Derived.Test.YtojpocfnjigmfaaDoorAX13
namespace Go.AX
open Go
variable {cx : Cx}

theorem look_eq (k : Nat) (v : V) (l : Env) : look ((k, v) :: l) k = v := by simp [look, Nat.beq_refl]
theorem look_ne {k t : Nat} (h : k ≠ t) (v : V) (l : Env) : look ((k, v) :: l) t = look l t := by
  have : Nat.beq k t = false := by
    cases hb : Nat.beq k t with
    | false => rfl
    | true => exact absurd (Nat.eq_of_beq_eq_true hb) h
  simp [look, this]
theorem ev_tmp (e : Env) (t : Nat) : ev cx e (.tmp t) = look e t := rfl
theorem ev_func (e : Env) (f : FuncId) : ev cx e (.func f) = .p (.fn f [] []) := rfl
theorem ev_const (e : Env) (v : Value) : ev cx e (.const v) = match ofValue v with | some x => .p x | none => .undef := rfl
theorem putV_some (e : Env) (t : Nat) (v : V) : putV e (some t) v = (t, v) :: e := rfl
theorem putV_none (e : Env) (v : V) : putV e none v = e := rfl

def N (cx : Cx) (hs : List (Nat × Nat)) (ops : List Oper) (i : Nat) (rest : List Oper) (e : Env) (H : Hp) (K : Env → Hp → Prop) : Prop := O cx hs ops i rest ⟨e, H⟩ fun s => K s.env s.H
theorem N.nil {hs : List (Nat × Nat)} {ops : List Oper} {i : Nat} {e : Env} {H : Hp} {K : Env → Hp → Prop} (h : K e H) : N cx hs ops i [] e H K := O.nil h
def gslot (ops : List Oper) : Option (Nat × Bool) → Option (Nat × Bool)
  | none => none
  | some (j, want) => match ops[j]? with
    | some { dst := some d, .. } => some (d, want)
    | _ => none
theorem N.free {hs : List (Nat × Nat)} {ops : List Oper} {i : Nat} {d : Option Nat} {op : Op} {ty : TypeId} {pos : String} {af : Array Edge} {rest : List Oper} {e : Env} {H : Hp} {K : Env → Hp → Prop} (h4 : Nat.ble 4 (hintOf hs i) = false)
    (h : Op1 cx (hintOf hs i) H (ev cx e) op (fun v H' => N cx hs ops (i + 1) rest (putV e d v) H' K)) : N cx hs ops i ({ dst := d, op := op, type := ty, pos := pos, after := af, guard := none } :: rest) e H K :=
  O.cons true rfl h4 (fun _ => h) (fun h => by cases h)
theorem N.guarded {hs : List (Nat × Nat)} {ops : List Oper} {i : Nat} {d : Option Nat} {op : Op} {ty : TypeId} {pos : String} {af : Array Edge} {j : Nat} {want : Bool} {rest : List Oper} {e : Env} {H : Hp} {K : Env → Hp → Prop} (t : Nat) (b : Bool) (ht : ((ops[j]?).bind (·.dst)) = some t) (hb : look e t = .p (.bool b)) (h4 : Nat.ble 4 (hintOf hs i) = false)
    (h : if b = want then Op1 cx (hintOf hs i) H (ev cx e) op (fun v H' => N cx hs ops (i + 1) rest (putV e d v) H' K) else N cx hs ops (i + 1) rest (putV e d .undef) H K) :
    N cx hs ops i ({ dst := d, op := op, type := ty, pos := pos, after := af, guard := some (j, want) } :: rest) e H K := by
  refine O.cons (b == want) ?_ h4 (fun hbw => ?_) (fun hbw => ?_)
  · unfold G1
    simp only [Option.bind_eq_some_iff] at ht
    obtain ⟨o, ho, hd⟩ := ht
    obtain ⟨d', op', ty', pos', af', g'⟩ := o
    simp only at hd
    subst hd
    simp only [ho, hb]
  · rw [if_pos (by simpa using hbw)] at h
    exact h
  · rw [if_neg (by simpa using hbw)] at h
    exact h
theorem Op1.some {h : Nat} {H : Hp} {ρ : Operand → V} {op : Op} {K : V → Hp → Prop} (hk : match opV cx (fun _ _ _ => none) h H ρ op with | some (v, H') => K v H' | none => False) : Op1 cx h H ρ op K := by
  split at hk
  · rename_i v H' he
    refine ⟨0, v, H', ?_, hk⟩
    exact opV_mono (fun f a H r h => by cases h) he
  · exact hk.elim
theorem W.reg {fi : FnI} {base id : Nat} {ops : Array Oper} {d : Bool} {e : Env} {H : Hp} {Q : X → St → Prop} (hrh : (rhOf fi.hints id).live = none ∧ (rhOf fi.hints id).trunc = none)
    (h : N cx (rhOf fi.hints id).ops ops.toList 0 ops.toList e H (fun e H => Q .norm ⟨e, H⟩)) : W cx fi base (.region id ops d) ⟨e, H⟩ Q := W.region hrh h
theorem W.regs {fi : FnI} {base id : Nat} {ops : Array Oper} {d : Bool} {c : Code} {e : Env} {H : Hp} {Q : X → St → Prop} (hrh : (rhOf fi.hints id).live = none ∧ (rhOf fi.hints id).trunc = none)
    (h : N cx (rhOf fi.hints id).ops ops.toList 0 ops.toList e H (fun e H => W cx fi base c ⟨e, H⟩ Q)) : W cx fi base (.seq (.region id ops d) c) ⟨e, H⟩ Q := W.seq (W.region hrh h)

theorem below_at {k : IntKind} {z : Int} {n : Nat} (h0 : 0 ≤ z) (h : z < n) : below (.p (.int k z)) n = some z.toNat := by
  obtain ⟨m, rfl⟩ := Int.eq_ofNat_of_zero_le h0
  have : Nat.blt m n = true := by simpa using (by omega : m < n)
  show (match Nat.blt m n with | true => some m | false => none) = _
  rw [this]
  simp
theorem upTo_at {k : IntKind} {z : Int} {n : Nat} (h0 : 0 ≤ z) (h : z ≤ n) : upTo (.p (.int k z)) n = some z.toNat := by
  obtain ⟨m, rfl⟩ := Int.eq_ofNat_of_zero_le h0
  have : Nat.ble m n = true := Nat.ble_eq_true_of_le (by omega)
  show (match Nat.ble m n with | true => some m | false => none) = _
  rw [this]
  simp
theorem wrap64 {z : Int} (h0 : -9223372036854775808 ≤ z) (h : z ≤ 9223372036854775807) : wrapK .i64 z = z := by
  have : inK .i64 z = true := by
    cases z with
    | ofNat m => exact Nat.ble_eq_true_of_le (by have e : Int.ofNat m = (m : Int) := rfl; omega)
    | negSucc m => exact Nat.ble_eq_true_of_le (by omega)
  simp [wrapK, this]
theorem wrap8 {z : Int} (h0 : 0 ≤ z) (h : z ≤ 255) : wrapK .u8 z = z := by
  have : inK .u8 z = true := by
    cases z with
    | ofNat m => exact Nat.ble_eq_true_of_le (by have e : Int.ofNat m = (m : Int) := rfl; omega)
    | negSucc m => omega
  simp [wrapK, this]

def loops : Code → List Code
  | .seq a b => loops a ++ loops b
  | .cond _ a b => loops a ++ loops b
  | .block _ c | .scope c => loops c
  | .loop c => .loop c :: loops c
  | _ => []
def loopK (c : Code) (k : Nat) : Code := (loops c).getD k .skip
def inner : Code → Code
  | .loop c => c
  | _ => .skip
theorem W.loopK {cx : Cx} {fi : FnI} {base : Nat} {c0 : Code} {k : Nat} {Q : X → St → Prop} (hl : Go.AX.loopK c0 k = .loop (inner (Go.AX.loopK c0 k))) (I : Nat → St → Prop) (hr : ∀ m s, I m s → W cx fi base (inner (Go.AX.loopK c0 k)) s (fun x s' => match x with | .norm => ∃ k, k < m ∧ I k s' | x => Q x s')) (m : Nat) (st : St) (hi : I m st) : W cx fi base (Go.AX.loopK c0 k) st Q := by
  rw [hl]
  exact W.loop I hr m st hi

theorem results_one {cx : Cx} {fi : FnI} {t : Nat} {e : Env} {H : Hp} {v : V} (hr : fi.results = [.tmp t]) (h : look e t = v) : results cx fi ⟨e, H⟩ = some v := by
  unfold results
  rw [hr]
  simp only [resV, Option.map_some, h]

theorem strOp_add {a b : List UInt8} (h : a.length + b.length ≤ 9223372036854775807) : strOp .add a b = some (.str (a ++ b)) := by
  simp only [strOp, Nat.ble_eq_true_of_le h]
theorem strOp_eql {a b : List UInt8} : strOp .eql a b = some (.bool (a == b)) := rfl
theorem strOp_neq {a b : List UInt8} : strOp .neq a b = some (.bool (!(a == b))) := rfl
theorem tdiv_nat (n m : Nat) : (n : Int).tdiv (m : Int) = ((n / m : Nat) : Int) := rfl
theorem tmod_nat (n m : Nat) : (n : Int).tmod (m : Int) = ((n % m : Nat) : Int) := rfl

def PV (cx : Cx) (f : FuncId) (args : List V) (x : Pv) : Prop := ∃ H', CV cx f args [] (.p x) H'
def FinP (cx : Cx) (fi : FnI) (x : Pv) (y : X) (s : St) : Prop := (y = .norm ∨ y = .ret) ∧ results cx fi s = some (.p x)
theorem PV.of {f : FuncId} {args : List V} {x : Pv} {fi : FnI} (hf : cx.F f = some fi) (hn : Nat.ble args.length fi.ntmps = true) (h : W cx fi 0 fi.body ⟨args0 0 args, []⟩ (FinP cx fi x)) : PV cx f args x := by
  obtain ⟨n, y, s, h1, h2, h3⟩ := h
  exact ⟨s.H, CV.of hf hn ⟨n, y, s, h1, h2, h3, rfl⟩⟩
theorem PV.to {f : FuncId} {args : List V} {x : Pv} {H' : Hp} (h : CV cx f args [] (.p x) H') : PV cx f args x := ⟨H', h⟩
theorem Op1.pv {h : Nat} {H : Hp} {ρ : Operand → V} {c : Call} {f : Operand} {K : V → Hp → Prop} {g : FuncId} {a b : List V} {x : Pv} {l : List Pv} (hh : h ≠ 1) (hc : c.callee = .value f) (hf : callee (ρ f) = Option.some (g, a, b)) (hl : allP (a ++ c.args.toList.map ρ ++ b) = Option.some l)
    (hv : PV cx g (a ++ c.args.toList.map ρ ++ b) x) (hk : K (.p x) H) : Op1 cx h H ρ (.call c) K := by
  obtain ⟨H', hv⟩ := hv
  exact Op1.pure hh hc hf hl hv rfl hk
end Go.AX
