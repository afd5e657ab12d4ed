/-
  'AX' AND THE MODEL: THE THEOREM: what the abstract interpreter answers, the model's machine answers.
-/
import Derived.Test.YtojpocfnjigmfaaDoorAX9
import Derived.Scope
set_option linter.unusedVariables false
set_option linter.unusedSimpArgs false
namespace Go.AX
open Go
variable {P : Program}

structure CxOK (P : Program) (cx : Cx) : Prop where
  T : TOK P cx.T
  F : ∀ f fi, cx.F f = some fi → ∃ fn, P.funcs[f]? = some fn ∧ fn.name ≠ "runtime.NumGoroutine" ∧ fn.body = some fi.body ∧ fn.ntmps = fi.ntmps ∧ fn.results.toList = fi.results ∧ codeOk fi fi.body = true

theorem look_keep (e : Env) : ∀ (l : List Nat) (t : Nat), look (keep l e) t = look e t ∨ look (keep l e) t = .undef
  | [], t => .inr rfl
  | x :: l, t => by
    unfold keep
    simp only [List.map_cons, look]
    split
    · rename_i h
      have := beq_eq h
      subst this
      exact .inl rfl
    · exact look_keep e l t
theorem ER.keep {G : Gh} {e : Env} {a : Act} (h : ER G e a) (l : List Nat) : ER G (keep l e) a := by
  intro t
  rcases look_keep e l t with h' | h'
  · rw [h']; exact h t
  · rw [h']; exact .undef _

theorem look_low {n : Nat} {e : Env} (h : e.all (fun x => lowV n x.2) = true) (t : Nat) : lowV n (look e t) = true := by
  induction e with
  | nil => rfl
  | cons x e ih =>
    simp only [List.all_cons, Bool.and_eq_true] at h
    obtain ⟨k, v⟩ := x
    simp only [look]
    split
    · exact h.1
    · exact ih h.2

theorem region_sound {cx : Cx} (hcx : CxOK P cx) {call : CallF} (hcall : CallOK P cx call) {fi : FnI} {base id : Nat} {ops : Array Oper} {draw : Bool} (hok : regionOk fi.ntmps (rhOf fi.hints id).ops ops.toList draw = true)
    {st st' : St} (h : region cx call fi base id ops.toList st = some st') {G : Gh} {w : World} {a : Act} (er : ER G st.env a) (ok : GOK G w st.H) (gl : GlOK cx G) (hb : base ≤ st.H.length) (hn : a.tmps.size = fi.ntmps)
    {Q : Exit → Act → World → Prop} (hQ : ∀ G' w' a', Post cx base G st.H w a st'.env st'.H G' w' a' → Q .normal a' w') : (Code.region id ops draw).wp P Q a w := by
  unfold region at h
  split at h
  · cases h
  · rename_i s hrun
    -- behind the operations: forget, truncate
    have fin : ∀ w0, Ext base G st.H w G st.H w0 → ∀ G' w' a', Post cx base G st.H w0 a s.env s.H G' w' a' → Q .normal a' w' := by
      intro w0 hw0 G' w' a' hp
      simp only at h
      have he : ∀ (e : Env), (e = match (rhOf fi.hints id).live with | some l => keep l s.env | none => s.env) → ER G' e a' := by
        intro e he
        subst he
        split
        · exact hp.er.keep _
        · exact hp.er
      split at h
      · cases h
        exact hQ G' w' a' ⟨he _ rfl, hp.ok, hp.gl, hw0.trans hp.ext, hp.low, hp.size, hp.defers⟩
      · rename_i k _
        split at h
        · rename_i hlow
          cases h
          simp only [Bool.and_eq_true] at hlow
          obtain ⟨G2, k1, k2, k3⟩ := trunc_sound hp.ok hlow.2
          have hl := hp.low
          refine hQ G2 w' a' ⟨fun t => k3 _ _ (look_low hlow.1 t) (he _ rfl t), k1, hp.gl.mono k2.mono, (hw0.trans hp.ext).trans (k2.weaken (by omega)), ?_, hp.size, hp.defers⟩
          simp only [List.length_take]
          omega
        · cases h
    have hdst : ∀ (i : Nat) o d, ops[i]? = some o → o.dst = some d → d < fi.ntmps := fun i o d ho hd => dst_lt hok (by simpa using ho) hd
    cases draw with
    | false =>
      refine wp_region ?_
      rw [List.range_eq_range']
      have := ops_text hcx.T hcall (base := base) hdst (Q := Q) ops.toList 0 st s rfl hrun G w a er ok gl hb hn (fin w (Ext.refl _ _ _ _))
      simpa using this
    | true =>
      refine wp_region_draw (fun t => ?_)
      have hord : orderOk (rhOf fi.hints id).ops ops.toList = true := by
        unfold regionOk at hok
        simp only [Bool.and_eq_true, Bool.not_true, Bool.false_or] at hok
        exact hok.2
      have os := order_says hord
      obtain ⟨E, Hs, tr⟩ := trace_of hrun
      obtain ⟨h1, h2⟩ := schedule_topo (ops := ops) (fun i o ho => os.edge i o (by simpa using ho)) (by simpa using os.gc) (P.follows .mixedOrders) t
      obtain ⟨ok1, ext1⟩ := drewOK ok
      refine ops_any hcx.T hcall hdst os tr (G0 := G) (w0 := w.drew) hn (fin w.drew (ext1.weaken hb)) _ [] 0 G w.drew a h1 (fun i hi => .inr (h2 i hi)) ?_
      rw [← tr.h0] at hb
      refine ⟨by rw [tr.h0]; exact ok1, gl, by rw [tr.h0]; exact Ext.refl _ _ _ _, hb, Nat.zero_le _, rfl, rfl, by simp, by simp, fun j o _ _ => by simp, by simp, fun t _ => ?_⟩
      exact er t

def X.exit' : X → Exit
  | .norm => .normal
  | .exit id => .exit id
  | .ret => .ret

def ExOK (P : Program) (cx : Cx) (ex : Ex) : Prop := ∀ (fi : FnI) (base : Nat) (c : Code) (st : St) (x : X) (st' : St), ex fi base c st = some (x, st') → codeOk fi c = true →
  ∀ (G : Gh) (w : World) (a : Act), ER G st.env a → GOK G w st.H → GlOK cx G → base ≤ st.H.length → a.tmps.size = fi.ntmps →
  ∀ (Q : Exit → Act → World → Prop), (∀ G' w' a', Post cx base G st.H w a st'.env st'.H G' w' a' → Q x.exit' a' w') → c.wp P Q a w

theorem args0_look : ∀ (l : List V) (i t : Nat), look (args0 i l) t = if i ≤ t then (l[t - i]?).getD .undef else .undef
  | [], i, t => by simp [args0, look]
  | v :: l, i, t => by
    simp only [args0, look]
    split
    · rename_i h
      have := beq_eq h
      subst this
      simp
    · rename_i h
      have hne : i ≠ t := fun e => by rw [e, Nat.beq_refl] at h; cases h
      rw [args0_look l (i + 1) t]
      by_cases hit : i ≤ t
      · rw [if_pos (by omega), if_pos hit]
        have : t - i = (t - (i + 1)) + 1 := by omega
        rw [this]
        simp
      · rw [if_neg (by omega), if_neg hit]

def resOne (tmps : Array Value) : ResultVar → Sem Value
  | .tmp t => pure (tmps.getD t undef)
  | .cell a t => do loadVar t (← asAddr (tmps.getD a undef))
theorem results_eq (fn : Func) (tmps : Array Value) : Go.results fn tmps = (do let vs ← fn.results.mapM (resOne tmps); pure (if h : vs.size = 1 then vs[0] else .tuple vs)) := by
  unfold Go.results
  congr 1

theorem resV_sound {cx : Cx} (hT : TOK P cx.T) {e : Env} {H : Hp} {G : Gh} {w : World} {tmps : Array Value} (er : ∀ t, VR G (look e t) (tmps.getD t undef)) (ok : GOK G w H) :
    ∀ (l : List ResultVar) (vs : List V), resV cx e H l = some vs →
    ∃ us : List Value, (l.mapM (resOne tmps)).run P w = .ok us w ∧ us.length = vs.length ∧ ∀ (j : Nat) x u, vs[j]? = some x → us[j]? = some u → VR G x u
  | [], vs, h => by simp [resV] at h; subst h; exact ⟨[], rfl, rfl, by simp⟩
  | .tmp t :: l, vs, h => by
    simp only [resV, Option.map_eq_some_iff] at h
    obtain ⟨r, hr, rfl⟩ := h
    obtain ⟨us, h1, h2, h3⟩ := resV_sound hT er ok l r hr
    refine ⟨tmps.getD t undef :: us, ?_, by simp [h2], fun j x u hx hu => ?_⟩
    · rw [List.mapM_cons]
      simp only [resOne, pure_bind, Sem.run_bind, Sem.run_pure, Result.andThen_ok, h1]
    · cases j with
      | zero => simp at hx hu; subst hx; subst hu; simpa using er t
      | succ j => simp at hx hu; exact h3 j x u hx hu
  | .cell b t :: l, vs, h => by
    simp only [resV] at h
    split at h
    · rename_i ti hti
      split at h
      · rename_i v r hv hr
        cases h
        obtain ⟨us, h1, h2, h3⟩ := resV_sound hT er ok l r hr
        have hb := er b
        obtain ⟨c, hc1, hc2⟩ := loadV_sound (hT _ _ hti) ok hv hb
        have hptr : ∃ ad, tmps.getD b undef = .pointer (some ad) := by
          unfold loadV at hv
          split at hv
          · rename_i hlk
            rw [hlk] at hb
            have hb' := hb.p_inv
            generalize tmps.getD b undef = q at hb'
            cases hb'
            exact ⟨_, rfl⟩
          · rename_i hlk
            rw [hlk] at hb
            generalize tmps.getD b undef = q at hb
            cases hb
            exact ⟨_, rfl⟩
          · rename_i hlk
            rw [hlk] at hb
            generalize tmps.getD b undef = q at hb
            cases hb
            exact ⟨_, rfl⟩
          · cases hv
        obtain ⟨ad, had⟩ := hptr
        have hload : (loadVar t ad).run P w = .ok c w := by
          rw [had] at hc1
          unfold Instr.loadAt at hc1
          simpa [Instr.sureAddr] using hc1
        refine ⟨c :: us, ?_, by simp [h2], fun j x u hx hu => ?_⟩
        · rw [List.mapM_cons]
          simp only [resOne, had]
          simp only [asAddr, pure_bind, Sem.run_bind, hload, Result.andThen_ok]
          rw [h1]
          simp
        · cases j with
          | zero => simp at hx hu; subst hx; subst hu; exact hc2
          | succ j => simp at hx hu; exact h3 j x u hx hu
      · cases h
    · cases h

theorem callWith_sound {cx : Cx} (hcx : CxOK P cx) {ex : Ex} (hex : ExOK P cx ex) : CallOK P cx (callWith cx ex) := by
  intro f args H r H' h
  unfold callWith at h
  split at h
  · cases h
  · rename_i fi hfi
    obtain ⟨fn, f1, f2, f3, f4, f5, f6⟩ := hcx.F f fi hfi
    refine ⟨⟨fn, f1, f2, by rw [f3]; rfl⟩, fun G w c ok gl hargs => ?_⟩
    split at h
    · cases h
    · rename_i hlen
      have hlen := Nat.le_of_ble_eq_true hlen
      refine calls_of_wp f1 f3 ?_
      have hsz : (c ++ Array.replicate (fn.ntmps - c.size) undef).size = fi.ntmps := by
        have := hargs.1
        simp [f4]; omega
      have er : ER G (args0 0 args) { tmps := c ++ Array.replicate (fn.ntmps - c.size) undef, defers := [] } := by
        intro t
        rw [args0_look, if_pos (Nat.zero_le _), Nat.sub_zero]
        cases hx : args[t]? with
        | none => exact .undef _
        | some v =>
          have hlt : t < c.size := by rw [← hargs.1]; exact (List.getElem?_eq_some_iff.1 hx).1
          have hget : (c ++ Array.replicate (fn.ntmps - c.size) undef).getD t undef = c[t] := by
            have h1 : (c ++ Array.replicate (fn.ntmps - c.size) undef)[t]? = some c[t] := by
              rw [Array.getElem?_append, if_pos hlt]; simp [hlt]
            have h2 := (Array.getElem?_eq_some_iff.1 h1)
            obtain ⟨h3, h4⟩ := h2
            simp only [Array.getD, h3, dite_true]
            exact h4
          show VR G v _
          rw [hget]
          exact hargs.2 t v _ hx (by simp [hlt])
      have close : ∀ x st, ex fi H.length fi.body ⟨args0 0 args, H⟩ = some (x, st) → (x = .norm ∨ x = .ret) → results cx fi st = some r → H' = st.H →
          fi.body.wp P (bodyPost P fn (fun e w' => ∃ v G', e = .returned v ∧ VR G' r v ∧ GOK G' w' H' ∧ Ext H.length G H w G' H' w' ∧ H.length ≤ H'.length)) { tmps := c ++ Array.replicate (fn.ntmps - c.size) undef, defers := [] } w := by
        rintro x st he hx hres rfl
        refine hex fi H.length fi.body _ x st he f6 G w _ er ok gl (Nat.le_refl _) hsz _ (fun G' w' a' hp => ?_)
        have hb : a'.defers = [] ∧ ∃ v, (Go.results fn a'.tmps).run P w' = .ok v w' ∧ ∃ v' G'', Ending.returned v = .returned v' ∧ VR G'' r v' ∧ GOK G'' w' st.H ∧ Ext H.length G H w G'' st.H w' ∧ H.length ≤ st.H.length := by
          refine ⟨hp.defers, ?_⟩
          unfold results at hres
          have mk : ∀ vs, resV cx st.env st.H fi.results = some vs → ∃ us : List Value, (fn.results.mapM (resOne a'.tmps)).run P w' = .ok us.toArray w' ∧
              us.length = vs.length ∧ ∀ (j : Nat) x u, vs[j]? = some x → us[j]? = some u → VR G' x u := by
            intro vs hvs
            obtain ⟨us, h1, h2, h3⟩ := resV_sound hcx.T (fun t => hp.er t) hp.ok fi.results vs hvs
            refine ⟨us, ?_, h2, h3⟩
            rw [Array.mapM_eq_mapM_toList, f5]
            simp only [Sem.run_map, h1, Result.andThen_ok]
          split at hres
          · rename_i v hvs
            cases hres
            obtain ⟨us, h1, h2, h3⟩ := mk _ hvs
            obtain ⟨u, rfl⟩ : ∃ u, us = [u] := List.length_eq_one_iff.1 (by simpa using h2)
            refine ⟨u, ?_, u, G', rfl, h3 0 r u rfl rfl, hp.ok, hp.ext, hp.low⟩
            rw [results_eq]
            simp only [Sem.run_bind, h1, Result.andThen_ok]
            rfl
          · rename_i vs hne hvs
            cases hres
            obtain ⟨us, h1, h2, h3⟩ := mk _ hvs
            have hn1 : ¬ us.length = 1 := by
              intro h
              rw [h2] at h
              obtain ⟨v, rfl⟩ := List.length_eq_one_iff.1 h
              exact hne v rfl
            refine ⟨.tuple us.toArray, ?_, _, G', rfl, VRs.tup ⟨by simp [h2], fun j x u hx hu => h3 j x u hx (by simpa using hu)⟩, hp.ok, hp.ext, hp.low⟩
            rw [results_eq]
            simp only [Sem.run_bind, h1, Result.andThen_ok]
            simp [hn1]
          · cases hres
        rcases hx with rfl | rfl <;> exact hb
      split at h
      · rename_i st he
        simp only [Option.map_eq_some_iff] at h
        obtain ⟨q, hq, hh⟩ := h
        cases hh
        exact close _ st he (.inl rfl) hq rfl
      · rename_i st he
        simp only [Option.map_eq_some_iff] at h
        obtain ⟨q, hq, hh⟩ := h
        cases hh
        exact close _ st he (.inr rfl) hq rfl
      · cases h

theorem exit_then {next : Act → World → Prop} {Q : Exit → Act → World → Prop} {x : X} {a : Act} {w : World} (hx : x ≠ .norm) (h : Q x.exit' a w) : Exit.then next Q x.exit' a w := by
  cases x with
  | norm => exact absurd rfl hx
  | exit id => exact h
  | ret => exact h

theorem least (p : Nat → Prop) : ∀ n, p n → ∃ m, p m ∧ (∀ k, p k → m ≤ k) ∧ m ≤ n := by
  intro n
  induction n using Nat.strongRecOn with
  | _ n ih =>
    intro hp
    by_cases h : ∃ k, k < n ∧ p k
    · obtain ⟨k, hk, hpk⟩ := h
      obtain ⟨m, h1, h2, h3⟩ := ih k hk hpk
      exact ⟨m, h1, h2, by omega⟩
    · refine ⟨n, hp, fun k hk => ?_, Nat.le_refl _⟩
      rcases Nat.lt_or_ge k n with h' | h'
      · exact absurd ⟨k, h', hk⟩ h
      · exact h'

theorem exec_upto {cx : Cx} (hcx : CxOK P cx) : ∀ n m, m ≤ n → ExOK P cx (exec cx m)
  | _, 0, _ => by intro fi base c st x st' h; cases h
  | 0, m + 1, hm => absurd hm (by omega)
  | n + 1, m + 1, hmn => by
    have ihs := exec_upto hcx n
    have ih := ihs m (by omega)
    have hcall := callWith_sound hcx ih
    intro fi base c st x st' h hok G w a er ok gl hb hn Q hQ
    simp only [exec, step] at h
    have here : Post cx base G st.H w a st.env st.H G w a := ⟨er, ok, gl, Ext.refl _ _ _ _, hb, rfl, rfl⟩
    split at h
    · cases h; exact wp_skip (hQ G w a here)
    · cases h; exact wp_label (hQ G w a here)
    · rename_i id ops draw
      simp only [Option.map_eq_some_iff] at h
      obtain ⟨s, hs, he⟩ := h
      cases he
      exact region_sound hcx hcall hok hs er ok gl hb hn hQ
    · rename_i c1 c2
      simp only [codeOk, Bool.and_eq_true] at hok
      split at h
      · rename_i s1 h1
        refine wp_seq (ih fi base c1 st .norm s1 h1 hok.1 G w a er ok gl hb hn _ (fun G1 w1 a1 p1 => ?_))
        exact ih fi base c2 s1 x st' h hok.2 G1 w1 a1 p1.er p1.ok p1.gl p1.low (by rw [p1.size]; exact hn) Q (fun G2 w2 a2 p2 => hQ G2 w2 a2 (p1.trans p2))
      · rename_i hno
        refine wp_seq (ih fi base c1 st x st' h hok.1 G w a er ok gl hb hn _ (fun G1 w1 a1 p1 => ?_))
        exact exit_then (fun e => hno st' (by rw [h, e])) (hQ G1 w1 a1 p1)
    · rename_i cnd c1 c2
      simp only [codeOk, Bool.and_eq_true] at hok
      have hev := ev_sound (x := cnd) gl (e := st.env) (a := a) (fun t _ => er t)
      split at h
      · rename_i hc
        rw [hc] at hev
        exact wp_cond_true hev.p_inv.bool_inv (ih fi base c1 st x st' h hok.1 G w a er ok gl hb hn Q hQ)
      · rename_i hc
        rw [hc] at hev
        exact wp_cond_false hev.p_inv.bool_inv (ih fi base c2 st x st' h hok.2 G w a er ok gl hb hn Q hQ)
      · cases h
    · rename_i id c1
      simp only [codeOk] at hok
      split at h
      · rename_i id' s1 h1
        split at h
        · rename_i hid
          have := beq_eq hid
          subst this
          cases h
          refine wp_block (ih fi base c1 st (.exit id') st' h1 hok G w a er ok gl hb hn _ (fun G1 w1 a1 p1 => ?_))
          show (if id' = id' then Q .normal a1 w1 else Q (.exit id') a1 w1)
          rw [if_pos rfl]
          exact hQ G1 w1 a1 p1
        · rename_i hid
          cases h
          refine wp_block (ih fi base c1 st (.exit id') st' h1 hok G w a er ok gl hb hn _ (fun G1 w1 a1 p1 => ?_))
          show (if id' = id then Q .normal a1 w1 else Q (.exit id') a1 w1)
          rw [if_neg (fun e => by rw [e, Nat.beq_refl] at hid; cases hid)]
          exact hQ G1 w1 a1 p1
      · rename_i hno
        refine wp_block (ih fi base c1 st x st' h hok G w a er ok gl hb hn _ (fun G1 w1 a1 p1 => ?_))
        cases x with
        | norm => exact hQ G1 w1 a1 p1
        | ret => exact hQ G1 w1 a1 p1
        | exit id' => exact absurd h (hno id' st')
    · rename_i c1
      simp only [codeOk] at hok
      -- the loop: the rounds that are left are the measure
      let L : Nat → Act → World → Prop := fun m a1 w1 => ∃ s1 G1, exec cx m fi base (.loop c1) s1 = some (x, st') ∧ Post cx base G st.H w a s1.env s1.H G1 w1 a1
      have h0 : L (m + 1) a w := ⟨st, G, by simp only [exec, step]; exact h, here⟩
      have hmin : ∀ a1 w1, (∃ k, L k a1 w1) → ∃ k, L k a1 w1 ∧ ∀ j, L j a1 w1 → k ≤ j := fun a1 w1 ⟨k, hk⟩ =>
        let ⟨q, h1, h2, _⟩ := least (fun k => L k a1 w1) k hk
        ⟨q, h1, h2⟩
      let μ : Act → World → Nat := fun a1 w1 => (Classical.epsilon fun k => L k a1 w1 ∧ ∀ j, L j a1 w1 → k ≤ j)
      have hμ : ∀ a1 w1, (∃ k, L k a1 w1) → L (μ a1 w1) a1 w1 ∧ ∀ j, L j a1 w1 → μ a1 w1 ≤ j := fun a1 w1 hk => Classical.epsilon_spec (hmin a1 w1 hk)
      refine wp_loop (fun a1 w1 => ∃ k, L k a1 w1 ∧ k ≤ m + 1) μ ⟨m + 1, h0, Nat.le_refl _⟩ (fun a1 w1 hI => ?_)
      obtain ⟨m0, hm0, hmn0⟩ := hI
      obtain ⟨hspec, hle⟩ := hμ a1 w1 ⟨m0, hm0⟩
      have hle0 := hle m0 hm0
      obtain ⟨s1, G1, hrun, p1⟩ := hspec
      generalize hk : μ a1 w1 = k at hrun hle0
      cases k with
      | zero => cases hrun
      | succ k =>
        simp only [exec, step] at hrun
        have hsm : ExOK P cx (exec cx k) := ihs k (by omega)
        split at hrun
        · rename_i s2 h2
          refine hsm fi base c1 s1 .norm s2 h2 hok G1 w1 a1 p1.er p1.ok p1.gl p1.low (by rw [p1.size]; exact hn) _ (fun G2 w2 a2 p2 => ?_)
          have hL : L k a2 w2 := ⟨s2, G2, hrun, p1.trans p2⟩
          refine ⟨⟨k, hL, by omega⟩, ?_⟩
          have := (hμ a2 w2 ⟨k, hL⟩).2 k hL
          show μ a2 w2 < k + 1
          omega
        · rename_i hno
          refine hsm fi base c1 s1 x st' hrun hok G1 w1 a1 p1.er p1.ok p1.gl p1.low (by rw [p1.size]; exact hn) _ (fun G2 w2 a2 p2 => ?_)
          exact exit_then (fun e => hno st' (by rw [hrun, e])) (hQ G2 w2 a2 (p1.trans p2))
    · cases h; exact wp_exit (hQ G w a here)
    · cases h; exact wp_ret (hQ G w a here)
    · rename_i c1
      simp only [codeOk] at hok
      refine wp_scope_straight (ih fi base c1 st x st' h hok G w a er ok gl hb hn _ (fun G1 w1 a1 p1 => ?_))
      have := hQ G1 w1 a1 p1
      cases x <;> exact this
    · cases h

theorem exec_sound {cx : Cx} (hcx : CxOK P cx) (n : Nat) : ExOK P cx (exec cx n) := exec_upto hcx n n (Nat.le_refl _)
theorem call_sound {cx : Cx} (hcx : CxOK P cx) (n : Nat) : CallOK P cx (call cx n) := callWith_sound hcx (exec_sound hcx n)
#print axioms call_sound
end Go.AX
