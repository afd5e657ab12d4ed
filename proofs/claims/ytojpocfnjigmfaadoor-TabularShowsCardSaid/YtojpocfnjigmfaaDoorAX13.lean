/-
  RUNS, RULE BY RULE: more rounds answer the same; 'W': code run to its end from a state; the rules by which a run is put together.
-/
import Derived.Test.YtojpocfnjigmfaaDoorAX1
namespace Go.AX
open Go

def Sub (c c' : CallF) : Prop := ∀ f a H r, c f a H = some r → c' f a H = some r

theorem opV_mono {cx : Cx} {c c' : CallF} (hs : Sub c c') {h : Nat} {H : Hp} {ρ : Operand → V} {op : Op} {r : V × Hp} (he : opV cx c h H ρ op = some r) : opV cx c' h H ρ op = some r := by
  cases op with
  | call k =>
    simp only [opV] at he ⊢
    cases hk : k.callee with
    | builtin b => rw [hk] at he; exact he
    | invoke x m => rw [hk] at he; exact he
    | value f =>
      rw [hk] at he
      simp only [callV] at he ⊢
      split at he
      · cases he
      · rename_i f a b hcal
        split at he
        · exact hs _ _ _ _ he
        · rename_i hn
          simp only [Option.map_eq_some_iff] at he ⊢
          obtain ⟨x, hx, rfl⟩ := he
          refine ⟨x, ?_, rfl⟩
          unfold pureCall at hx ⊢
          split at hx
          · cases hx
          · rename_i pl hpl
            split at hx
            · rename_i r1 H1 hc
              rw [hs _ _ _ _ hc]
              exact hx
            · cases hx
  | makeMap t r => cases r <;> exact he
  | _ => exact he

theorem opRun_mono {cx : Cx} {c c' : CallF} (hs : Sub c c') {h : Nat} {H : Hp} {ρ : Operand → V} {o : Oper} {r : V × Hp} (he : opRun cx c h H ρ o = some r) : opRun cx c' h H ρ o = some r := by
  unfold opRun at he ⊢
  split at he
  · exact opV_mono hs he
  · exact opV_mono hs he

theorem runOps_mono {cx : Cx} {c c' : CallF} (hs : Sub c c') {hn : List (Nat × Nat)} {ops : List Oper} : ∀ (rest : List Oper) (i : Nat) (st r : St), runOps cx c hn ops i rest st = some r → runOps cx c' hn ops i rest st = some r
  | [], i, st, r, h => h
  | o :: rest, i, st, r, h => by
    simp only [runOps] at h ⊢
    split at h
    · rename_i hw
      split at h
      · rename_i v H' ho
        rw [opRun_mono hs ho]
        exact runOps_mono hs rest _ _ _ h
      · cases h
    · exact runOps_mono hs rest _ _ _ h
    · cases h

theorem region_mono {cx : Cx} {c c' : CallF} (hs : Sub c c') {fi : FnI} {base id : Nat} {ops : List Oper} {st r : St} (h : region cx c fi base id ops st = some r) : region cx c' fi base id ops st = some r := by
  unfold region at h ⊢
  split at h
  · cases h
  · rename_i s hr
    rw [runOps_mono hs _ _ _ _ hr]
    exact h

def SubE (e e' : Ex) : Prop := ∀ fi b c st r, e fi b c st = some r → e' fi b c st = some r
theorem callWith_mono {cx : Cx} {e e' : Ex} (hs : SubE e e') : Sub (callWith cx e) (callWith cx e') := by
  intro f a H r h
  unfold callWith at h ⊢
  split at h
  · cases h
  · split at h
    · cases h
    · split at h
      · rename_i st he
        rw [hs _ _ _ _ _ he]
        exact h
      · rename_i st he
        rw [hs _ _ _ _ _ he]
        exact h
      · cases h

theorem step_mono {cx : Cx} {e e' : Ex} (hs : SubE e e') : SubE (step cx e) (step cx e') := by
  intro fi b c st r h
  cases c with
  | skip => exact h
  | label l => exact h
  | region id ops d =>
    simp only [step, Option.map_eq_some_iff] at h ⊢
    obtain ⟨s, h1, h2⟩ := h
    exact ⟨s, region_mono (callWith_mono hs) h1, h2⟩
  | seq x y =>
    simp only [step] at h ⊢
    split at h
    · rename_i st' hx
      rw [hs _ _ _ _ _ hx]
      exact hs _ _ _ _ _ h
    · rename_i hno
      rw [hs _ _ _ _ _ h]
      split
      · rename_i st' e; cases e; exact absurd h (hno _)
      · rfl
  | cond x y z =>
    simp only [step] at h ⊢
    split at h
    · rename_i hx; exact hs _ _ _ _ _ h
    · rename_i hx; exact hs _ _ _ _ _ h
    · cases h
  | block id x =>
    simp only [step] at h ⊢
    split at h
    · rename_i id' st' hx
      rw [hs _ _ _ _ _ hx]
      exact h
    · rename_i hno
      rw [hs _ _ _ _ _ h]
      split
      · rename_i id' st' e; cases e; exact absurd h (hno _ _)
      · rfl
  | loop x =>
    simp only [step] at h ⊢
    split at h
    · rename_i st' hx
      rw [hs _ _ _ _ _ hx]
      exact hs _ _ _ _ _ h
    · rename_i hno
      rw [hs _ _ _ _ _ h]
      split
      · rename_i st' e; cases e; exact absurd h (hno _)
      · rfl
  | exit id => exact h
  | ret => exact h
  | scope c => exact hs _ _ _ _ _ h
  | _ => cases h

theorem exec_succ {cx : Cx} : ∀ (n : Nat), SubE (exec cx n) (exec cx (n + 1))
  | 0 => fun fi b c st r h => by cases h
  | n + 1 => fun fi b c st r h => step_mono (exec_succ n) fi b c st r h
theorem exec_mono {cx : Cx} {n m : Nat} (h : n ≤ m) : SubE (exec cx n) (exec cx m) := by
  induction m with
  | zero => have : n = 0 := by omega
            subst this; exact fun _ _ _ _ _ h => h
  | succ m ih =>
    rcases Nat.lt_or_ge n (m + 1) with h' | h'
    · exact fun fi b c st r hr => exec_succ m _ _ _ _ _ (ih (by omega) fi b c st r hr)
    · have : n = m + 1 := by omega
      subst this; exact fun _ _ _ _ _ h => h
theorem call_mono {cx : Cx} {n m : Nat} (h : n ≤ m) : Sub (call cx n) (call cx m) := callWith_mono (exec_mono h)

variable {cx : Cx} {fi : FnI} {base : Nat}

def CV (cx : Cx) (f : FuncId) (args : List V) (H : Hp) (r : V) (H' : Hp) : Prop := ∃ n, call cx n f args H = some (r, H')
def W (cx : Cx) (fi : FnI) (base : Nat) (c : Code) (st : St) (Q : X → St → Prop) : Prop := ∃ n x st', exec cx n fi base c st = some (x, st') ∧ Q x st'
def O (cx : Cx) (hs : List (Nat × Nat)) (ops : List Oper) (i : Nat) (rest : List Oper) (st : St) (K : St → Prop) : Prop := ∃ n st', runOps cx (call cx n) hs ops i rest st = some st' ∧ K st'
def Op1 (cx : Cx) (h : Nat) (H : Hp) (ρ : Operand → V) (op : Op) (K : V → Hp → Prop) : Prop := ∃ n v H', opV cx (call cx n) h H ρ op = some (v, H') ∧ K v H'

theorem W.mono {c : Code} {st : St} {Q R : X → St → Prop} (h : W cx fi base c st Q) (hq : ∀ x s, Q x s → R x s) : W cx fi base c st R := by
  obtain ⟨n, x, s, h1, h2⟩ := h
  exact ⟨n, x, s, h1, hq _ _ h2⟩
theorem W.skip {st : St} {Q : X → St → Prop} (h : Q .norm st) : W cx fi base .skip st Q := ⟨1, _, _, rfl, h⟩
theorem W.label {l : Nat} {st : St} {Q : X → St → Prop} (h : Q .norm st) : W cx fi base (.label l) st Q := ⟨1, _, _, rfl, h⟩
theorem W.ret {st : St} {Q : X → St → Prop} (h : Q .ret st) : W cx fi base .ret st Q := ⟨1, _, _, rfl, h⟩
theorem W.exit {id : Nat} {st : St} {Q : X → St → Prop} (h : Q (.exit id) st) : W cx fi base (.exit id) st Q := ⟨1, _, _, rfl, h⟩
theorem W.seq {a b : Code} {st : St} {Q : X → St → Prop} (h : W cx fi base a st (fun x s => match x with | .norm => W cx fi base b s Q | x => Q x s)) : W cx fi base (.seq a b) st Q := by
  obtain ⟨n, x, s, h1, h2⟩ := h
  cases x with
  | norm =>
    obtain ⟨m, y, s', h3, h4⟩ := h2
    refine ⟨max n m + 1, y, s', ?_, h4⟩
    simp only [exec, step, exec_mono (Nat.le_max_left n m) _ _ _ _ _ h1]
    exact exec_mono (Nat.le_max_right n m) _ _ _ _ _ h3
  | exit id => exact ⟨n + 1, _, s, by simp only [exec, step, h1], h2⟩
  | ret => exact ⟨n + 1, _, s, by simp only [exec, step, h1], h2⟩
theorem W.cond {c : Operand} {a b : Code} {st : St} {Q : X → St → Prop} (v : Bool) (hv : ev cx st.env c = .p (.bool v)) (h : W cx fi base (match v with | true => a | false => b) st Q) : W cx fi base (.cond c a b) st Q := by
  obtain ⟨n, x, s, h1, h2⟩ := h
  refine ⟨n + 1, x, s, ?_, h2⟩
  simp only [exec, step, hv]
  cases v <;> exact h1
theorem W.block {id : Nat} {c : Code} {st : St} {Q : X → St → Prop} (h : W cx fi base c st (fun x s => match x with | .exit j => (if j = id then Q .norm s else Q (.exit j) s) | x => Q x s)) : W cx fi base (.block id c) st Q := by
  obtain ⟨n, x, s, h1, h2⟩ := h
  cases x with
  | norm => exact ⟨n + 1, _, s, by simp only [exec, step, h1], h2⟩
  | ret => exact ⟨n + 1, _, s, by simp only [exec, step, h1], h2⟩
  | exit j =>
    simp only at h2
    by_cases hj : j = id
    · rw [if_pos hj] at h2
      subst hj
      exact ⟨n + 1, .norm, s, by simp only [exec, step, h1, Nat.beq_refl], h2⟩
    · rw [if_neg hj] at h2
      have : Nat.beq j id = false := by
        cases hb : Nat.beq j id with
        | false => rfl
        | true => exact absurd (Nat.eq_of_beq_eq_true hb) hj
      exact ⟨n + 1, .exit j, s, by simp only [exec, step, h1, this], h2⟩
theorem W.loop {c : Code} {Q : X → St → Prop} (I : Nat → St → Prop) (hr : ∀ m s, I m s → W cx fi base c s (fun x s' => match x with | .norm => ∃ k, k < m ∧ I k s' | x => Q x s')) : ∀ (m : Nat) (st : St), I m st → W cx fi base (.loop c) st Q := by
  intro m
  induction m using Nat.strongRecOn with
  | _ m ih =>
    intro st hi
    obtain ⟨n, x, s, h1, h2⟩ := hr m st hi
    cases x with
    | norm =>
      obtain ⟨k, hk, hi'⟩ := h2
      obtain ⟨n', y, s', h3, h4⟩ := ih k hk s hi'
      refine ⟨max n n' + 1, y, s', ?_, h4⟩
      simp only [exec, step, exec_mono (Nat.le_max_left n n') _ _ _ _ _ h1]
      exact exec_mono (Nat.le_max_right n n') _ _ _ _ _ h3
    | exit id => exact ⟨n + 1, _, s, by simp only [exec, step, h1], h2⟩
    | ret => exact ⟨n + 1, _, s, by simp only [exec, step, h1], h2⟩
theorem W.region {id : Nat} {ops : Array Oper} {d : Bool} {st : St} {Q : X → St → Prop} (hrh : (rhOf fi.hints id).live = none ∧ (rhOf fi.hints id).trunc = none) (h : O cx (rhOf fi.hints id).ops ops.toList 0 ops.toList st (fun s => Q .norm s)) : W cx fi base (.region id ops d) st Q := by
  obtain ⟨n, s, h1, h2⟩ := h
  refine ⟨n + 1, .norm, s, ?_, h2⟩
  simp only [exec, step, Go.AX.region]
  have h1' : runOps cx (callWith cx (exec cx n)) (rhOf fi.hints id).ops ops.toList 0 ops.toList st = some s := h1
  rw [h1']
  simp [hrh.1, hrh.2]

theorem O.nil {hs : List (Nat × Nat)} {ops : List Oper} {i : Nat} {st : St} {K : St → Prop} (h : K st) : O cx hs ops i [] st K := ⟨0, st, rfl, h⟩
def G1 (ops : List Oper) (e : Env) : Option (Nat × Bool) → Option Bool
  | none => some true
  | some (j, want) => match ops[j]? with
    | some { dst := some d, .. } => match look e d with
      | .p (.bool b) => some (b == want)
      | _ => none
    | _ => none
theorem O.cons {hs : List (Nat × Nat)} {ops : List Oper} {i : Nat} {o : Oper} {rest : List Oper} {st : St} {K : St → Prop} (b : Bool) (hw : G1 ops st.env o.guard = some b) (h4 : Nat.ble 4 (hintOf hs i) = false)
    (ht : b = true → Op1 cx (hintOf hs i) st.H (ev cx st.env) o.op (fun v H' => O cx hs ops (i + 1) rest ⟨putV st.env o.dst v, H'⟩ K))
    (hf : b = false → O cx hs ops (i + 1) rest ⟨putV st.env o.dst .undef, st.H⟩ K) : O cx hs ops i (o :: rest) st K := by
  have hw' : wantedV ops st.env o = some b := by
    rw [← hw]
    unfold wantedV G1
    rfl
  cases b with
  | true =>
    obtain ⟨n, v, H', h1, m, s, h2, h3⟩ := ht rfl
    refine ⟨max n m, s, ?_, h3⟩
    simp only [runOps, hw', opRun, h4]
    rw [opV_mono (call_mono (Nat.le_max_left n m)) h1]
    exact runOps_mono (call_mono (Nat.le_max_right n m)) _ _ _ _ h2
  | false =>
    obtain ⟨m, s, h2, h3⟩ := hf rfl
    refine ⟨m, s, ?_, h3⟩
    simp only [runOps, hw']
    exact h2
theorem O.freeze {hs : List (Nat × Nat)} {ops : List Oper} {i : Nat} {o : Oper} {rest : List Oper} {st : St} {K : St → Prop} (hw : G1 ops st.env o.guard = some true) (h4 : Nat.ble 4 (hintOf hs i) = true)
    (h : Op1 cx (hintOf hs i - 4) (o.op.operands.toList.foldl (fun H x => markCells H (ev cx st.env x)) st.H) (fun x => frzCells st.H (ev cx st.env x)) o.op (fun v H' => O cx hs ops (i + 1) rest ⟨putV st.env o.dst v, H'⟩ K)) : O cx hs ops i (o :: rest) st K := by
  have hw' : wantedV ops st.env o = some true := by
    rw [← hw]
    unfold wantedV G1
    rfl
  obtain ⟨n, v, H', h1, m, s, h2, h3⟩ := h
  refine ⟨max n m, s, ?_, h3⟩
  simp only [runOps, hw', opRun, h4]
  rw [opV_mono (call_mono (Nat.le_max_left n m)) h1]
  exact runOps_mono (call_mono (Nat.le_max_right n m)) _ _ _ _ h2

theorem Op1.run {h : Nat} {H : Hp} {ρ : Operand → V} {op : Op} {K : V → Hp → Prop} (v : V) (H' : Hp) (he : opV cx (call cx 0) h H ρ op = some (v, H')) (hk : K v H') : Op1 cx h H ρ op K := ⟨0, v, H', he, hk⟩
theorem Op1.call {H : Hp} {ρ : Operand → V} {c : Call} {f : Operand} {K : V → Hp → Prop} {g : FuncId} {a b : List V} {r : V} {H' : Hp} (hc : c.callee = .value f) (hf : callee (ρ f) = some (g, a, b)) (hv : CV cx g (a ++ c.args.toList.map ρ ++ b) H r H') (hk : K r H') : Op1 cx 1 H ρ (.call c) K := by
  obtain ⟨n, hn⟩ := hv
  exact ⟨n, r, H', by simp only [opV, hc, callV, hf]; exact hn, hk⟩
theorem Op1.pure {h : Nat} {H : Hp} {ρ : Operand → V} {c : Call} {f : Operand} {K : V → Hp → Prop} {g : FuncId} {a b : List V} {r : V} {x : Pv} {H' : Hp} {l : List Pv} (hh : h ≠ 1) (hc : c.callee = .value f) (hf : callee (ρ f) = some (g, a, b)) (hl : allP (a ++ c.args.toList.map ρ ++ b) = some l)
    (hv : CV cx g (a ++ c.args.toList.map ρ ++ b) [] r H') (hr : frzCells H' r = .p x) (hk : K (.p x) H) : Op1 cx h H ρ (.call c) K := by
  obtain ⟨n, hn⟩ := hv
  refine ⟨n, .p x, H, ?_, hk⟩
  simp only [opV, hc, callV, hf]
  simp only [pureCall, hl, hn, frzD_of hr, Option.map_some]

def Fin (cx : Cx) (fi : FnI) (r : V) (H' : Hp) (x : X) (s : St) : Prop := (x = .norm ∨ x = .ret) ∧ results cx fi s = some r ∧ s.H = H'
theorem CV.of {f : FuncId} {args : List V} {H H' : Hp} {r : V} {fi : FnI} (hf : cx.F f = some fi) (hn : Nat.ble args.length fi.ntmps = true)
    (h : W cx fi H.length fi.body ⟨args0 0 args, H⟩ (Fin cx fi r H')) : CV cx f args H r H' := by
  obtain ⟨n, x, s, h1, h2, h3, h4⟩ := h
  refine ⟨n, ?_⟩
  unfold call callWith
  simp only [hf, hn]
  rw [h1]
  rcases h2 with rfl | rfl
  · simp [h3, h4]
  · simp [h3, h4]
end Go.AX
