import Derived.Test.YtkjpfmmpiapfaaaDoorName
set_option maxRecDepth 10000
set_option linter.unusedSimpArgs false
namespace Go.Proofs.YtkjpfmmpiapfaaaDoor
open Go Go.AX
theorem run12_loop (s : List UInt8) (hs : s.length ≤ 24) (e : Env) (H : Hp) (base : Nat) (Q : X → St → Prop) (g0 : AX.look e 0 = .p (.str s)) (g3 : AX.look e 3 = .p (.int .i64 0))
    (hok : s.all nm = true → ∀ e, Q (.exit 0) ⟨e, H⟩) (hno : s.all nm = false → ∀ e, AX.look e 2 = .p (.bool false) → Q .ret ⟨e, H⟩) : W cx fi12 base (loopK fi12.body 0) ⟨e, H⟩ Q := by
  refine W.loopK rfl (fun m st => ∃ (e : Env) (i : Nat), st = ⟨e, H⟩ ∧ AX.look e 0 = .p (.str s) ∧ AX.look e 3 = .p (.int .i64 i) ∧ i ≤ s.length ∧ m = s.length - i ∧ (s.take i).all nm = true)
    ?_ s.length _ ⟨_, 0, rfl, g0, g3, Nat.zero_le _, rfl, rfl⟩
  clear g0 g3 e
  rintro m st ⟨e, i, rfl, g0, g3, hi, rfl, hall⟩
  by_cases hlt : (i : Int) < s.length
  · obtain ⟨b, hb⟩ : ∃ b, s[i]? = some b := ⟨s[i]'(by omega), by simp⟩
    have hnext : nm b = true → ∀ e', AX.look e' 0 = .p (.str s) → AX.look e' 3 = .p (.int .i64 (i + 1)) →
        ∃ k, k < s.length - i ∧ ∃ (e : Env) (i : Nat), (⟨e', H⟩ : St) = ⟨e, H⟩ ∧ AX.look e 0 = .p (.str s) ∧ AX.look e 3 = .p (.int .i64 i) ∧ i ≤ s.length ∧ k = s.length - i ∧ (s.take i).all nm = true :=
      fun hn e' q0 q3 => ⟨s.length - (i + 1), by omega, e', i + 1, rfl, q0, q3, by omega, rfl, all_take hb hall hn⟩
    clear hall
    cases k1 : lt b.toNat
    · cases k2 : dg b.toNat
      · cases k3 : ((b.toNat : Int) != 95)
        · have hn := hnext (by simp [nm, k1, k2, k3])
          clear hnext hok hno
          repeat' first
            | refine W.regs ⟨rfl, rfl⟩ ?_
            | refine W.reg ⟨rfl, rfl⟩ ?_
            | refine N.nil ?_
            | refine N.free rfl ?_
            | (refine N.guarded _ _ rfl (by simp only [look_eq, look_ne, putV_some, putV_none, ne_eq, Nat.reduceEqDiff, not_false_eq_true, *]; rfl) rfl ?_; simp only [↓reduceIte, decide_true, decide_false, Bool.false_eq_true, Bool.true_eq_false, *])
            | refine Op1.pure (by decide) rfl rfl rfl (run27 _ _) rfl ?_
            | refine Op1.pure (by decide) rfl rfl rfl (run28 _ _) rfl ?_
            | (refine Op1.some ?_; simp (disch := omega) only [T1, T3, T4, T5, T9, T22, T23, T26, T38, T41, T43, T48, T50, T52, T54, T56, T61, T67, T68, opV, ev_tmp, ev_const, ev_func, ofValue, ofCell, binV, binP, arith, strOp, eqn, unP, Option.map_some, Option.bind_some, builtinV, lenV, indexV, below_at, upTo_at, wrap64, wrap8, Int.toNat_natCast, Int.toNat_zero, List.map_cons, List.map_nil, List.getElem?_toArray, List.getElem?_cons_zero, ↓reduceIte, decide_true, decide_false, Bool.not_true, Bool.not_false, Bool.false_eq_true, look_eq, look_ne, putV_some, putV_none, ne_eq, Nat.reduceEqDiff, not_false_eq_true, *])
            | (refine W.ret ?_; try simp only [])
            | (refine W.exit ?_; simp only [↓reduceIte, Nat.reduceEqDiff])
            | refine W.skip ?_
            | refine W.seq ?_
            | refine W.block ?_
            | (refine W.cond _ (by simp only [ev_tmp, look_eq, look_ne, putV_some, putV_none, ne_eq, Nat.reduceEqDiff, not_false_eq_true, *]; rfl) ?_; simp only [decide_true, decide_false, *])
          refine hn _ ?_ ?_ <;> first | exact g0 | rfl
        · have hn := hno (all_fail hb (by simp [nm, k1, k2, k3]))
          clear hnext hok hno
          repeat' first
            | refine W.regs ⟨rfl, rfl⟩ ?_
            | refine W.reg ⟨rfl, rfl⟩ ?_
            | refine N.nil ?_
            | refine N.free rfl ?_
            | (refine N.guarded _ _ rfl (by simp only [look_eq, look_ne, putV_some, putV_none, ne_eq, Nat.reduceEqDiff, not_false_eq_true, *]; rfl) rfl ?_; simp only [↓reduceIte, decide_true, decide_false, Bool.false_eq_true, Bool.true_eq_false, *])
            | refine Op1.pure (by decide) rfl rfl rfl (run27 _ _) rfl ?_
            | refine Op1.pure (by decide) rfl rfl rfl (run28 _ _) rfl ?_
            | (refine Op1.some ?_; simp (disch := omega) only [T1, T3, T4, T5, T9, T22, T23, T26, T38, T41, T43, T48, T50, T52, T54, T56, T61, T67, T68, opV, ev_tmp, ev_const, ev_func, ofValue, ofCell, binV, binP, arith, strOp, eqn, unP, Option.map_some, Option.bind_some, builtinV, lenV, indexV, below_at, upTo_at, wrap64, wrap8, Int.toNat_natCast, Int.toNat_zero, List.map_cons, List.map_nil, List.getElem?_toArray, List.getElem?_cons_zero, ↓reduceIte, decide_true, decide_false, Bool.not_true, Bool.not_false, Bool.false_eq_true, look_eq, look_ne, putV_some, putV_none, ne_eq, Nat.reduceEqDiff, not_false_eq_true, *])
            | (refine W.ret ?_; try simp only [])
            | (refine W.exit ?_; simp only [↓reduceIte, Nat.reduceEqDiff])
            | refine W.skip ?_
            | refine W.seq ?_
            | refine W.block ?_
            | (refine W.cond _ (by simp only [ev_tmp, look_eq, look_ne, putV_some, putV_none, ne_eq, Nat.reduceEqDiff, not_false_eq_true, *]; rfl) ?_; simp only [decide_true, decide_false, *])
          exact hn _ rfl
      · have hn := hnext (by simp [nm, k1, k2])
        clear hnext hok hno
        repeat' first
          | refine W.regs ⟨rfl, rfl⟩ ?_
          | refine W.reg ⟨rfl, rfl⟩ ?_
          | refine N.nil ?_
          | refine N.free rfl ?_
          | (refine N.guarded _ _ rfl (by simp only [look_eq, look_ne, putV_some, putV_none, ne_eq, Nat.reduceEqDiff, not_false_eq_true, *]; rfl) rfl ?_; simp only [↓reduceIte, decide_true, decide_false, Bool.false_eq_true, Bool.true_eq_false, *])
          | refine Op1.pure (by decide) rfl rfl rfl (run27 _ _) rfl ?_
          | refine Op1.pure (by decide) rfl rfl rfl (run28 _ _) rfl ?_
          | (refine Op1.some ?_; simp (disch := omega) only [T1, T3, T4, T5, T9, T22, T23, T26, T38, T41, T43, T48, T50, T52, T54, T56, T61, T67, T68, opV, ev_tmp, ev_const, ev_func, ofValue, ofCell, binV, binP, arith, strOp, eqn, unP, Option.map_some, Option.bind_some, builtinV, lenV, indexV, below_at, upTo_at, wrap64, wrap8, Int.toNat_natCast, Int.toNat_zero, List.map_cons, List.map_nil, List.getElem?_toArray, List.getElem?_cons_zero, ↓reduceIte, decide_true, decide_false, Bool.not_true, Bool.not_false, Bool.false_eq_true, look_eq, look_ne, putV_some, putV_none, ne_eq, Nat.reduceEqDiff, not_false_eq_true, *])
          | (refine W.ret ?_; try simp only [])
          | (refine W.exit ?_; simp only [↓reduceIte, Nat.reduceEqDiff])
          | refine W.skip ?_
          | refine W.seq ?_
          | refine W.block ?_
          | (refine W.cond _ (by simp only [ev_tmp, look_eq, look_ne, putV_some, putV_none, ne_eq, Nat.reduceEqDiff, not_false_eq_true, *]; rfl) ?_; simp only [decide_true, decide_false, *])
        refine hn _ ?_ ?_ <;> first | exact g0 | rfl
    · have hn := hnext (by simp [nm, k1])
      clear hnext hok hno
      repeat' first
        | refine W.regs ⟨rfl, rfl⟩ ?_
        | refine W.reg ⟨rfl, rfl⟩ ?_
        | refine N.nil ?_
        | refine N.free rfl ?_
        | (refine N.guarded _ _ rfl (by simp only [look_eq, look_ne, putV_some, putV_none, ne_eq, Nat.reduceEqDiff, not_false_eq_true, *]; rfl) rfl ?_; simp only [↓reduceIte, decide_true, decide_false, Bool.false_eq_true, Bool.true_eq_false, *])
        | refine Op1.pure (by decide) rfl rfl rfl (run27 _ _) rfl ?_
        | refine Op1.pure (by decide) rfl rfl rfl (run28 _ _) rfl ?_
        | (refine Op1.some ?_; simp (disch := omega) only [T1, T3, T4, T5, T9, T22, T23, T26, T38, T41, T43, T48, T50, T52, T54, T56, T61, T67, T68, opV, ev_tmp, ev_const, ev_func, ofValue, ofCell, binV, binP, arith, strOp, eqn, unP, Option.map_some, Option.bind_some, builtinV, lenV, indexV, below_at, upTo_at, wrap64, wrap8, Int.toNat_natCast, Int.toNat_zero, List.map_cons, List.map_nil, List.getElem?_toArray, List.getElem?_cons_zero, ↓reduceIte, decide_true, decide_false, Bool.not_true, Bool.not_false, Bool.false_eq_true, look_eq, look_ne, putV_some, putV_none, ne_eq, Nat.reduceEqDiff, not_false_eq_true, *])
        | (refine W.ret ?_; try simp only [])
        | (refine W.exit ?_; simp only [↓reduceIte, Nat.reduceEqDiff])
        | refine W.skip ?_
        | refine W.seq ?_
        | refine W.block ?_
        | (refine W.cond _ (by simp only [ev_tmp, look_eq, look_ne, putV_some, putV_none, ne_eq, Nat.reduceEqDiff, not_false_eq_true, *]; rfl) ?_; simp only [decide_true, decide_false, *])
      refine hn _ ?_ ?_ <;> first | exact g0 | rfl
  · have e3 := hok (by rw [← hall, List.take_of_length_le (by omega)])
    clear hok hno
    repeat' first
      | refine W.regs ⟨rfl, rfl⟩ ?_
      | refine W.reg ⟨rfl, rfl⟩ ?_
      | refine N.nil ?_
      | refine N.free rfl ?_
      | (refine N.guarded _ _ rfl (by simp only [look_eq, look_ne, putV_some, putV_none, ne_eq, Nat.reduceEqDiff, not_false_eq_true, *]; rfl) rfl ?_; simp only [↓reduceIte, decide_true, decide_false, Bool.false_eq_true, Bool.true_eq_false, *])
      | (refine Op1.some ?_; simp (disch := omega) only [T1, T3, T4, T5, T9, T22, T23, T26, T38, T41, T43, T48, T50, T52, T54, T56, T61, T67, T68, opV, ev_tmp, ev_const, ev_func, ofValue, ofCell, binV, binP, arith, strOp, eqn, unP, Option.map_some, Option.bind_some, builtinV, lenV, indexV, below_at, upTo_at, wrap64, wrap8, Int.toNat_natCast, Int.toNat_zero, List.map_cons, List.map_nil, List.getElem?_toArray, List.getElem?_cons_zero, ↓reduceIte, decide_true, decide_false, Bool.not_true, Bool.not_false, Bool.false_eq_true, look_eq, look_ne, putV_some, putV_none, ne_eq, Nat.reduceEqDiff, not_false_eq_true, *])
      | (refine W.ret ?_; try simp only [])
      | (refine W.exit ?_; simp only [↓reduceIte, Nat.reduceEqDiff])
      | refine W.skip ?_
      | refine W.seq ?_
      | refine W.block ?_
      | (refine W.cond _ (by simp only [ev_tmp, look_eq, look_ne, putV_some, putV_none, ne_eq, Nat.reduceEqDiff, not_false_eq_true, *]; rfl) ?_; simp only [decide_true, decide_false, *])
    exact e3 _
set_option maxHeartbeats 1000000 in
theorem run12 (s : List UInt8) (H : Hp) : CV cx 12 [.p (.str s)] H (.p (.bool (nameF s))) H := by
  refine CV.of cxF12 rfl ?_
  by_cases h1 : ((s.length : Int) == 0) = true
  · have e : nameF s = false := by
      cases s with
      | nil => rfl
      | cons c t => simp at h1; omega
    rw [e]
    repeat' first
      | refine W.regs ⟨rfl, rfl⟩ ?_
      | refine W.reg ⟨rfl, rfl⟩ ?_
      | refine N.nil ?_
      | refine N.free rfl ?_
      | (refine N.guarded _ _ rfl (by simp only [look_eq, look_ne, putV_some, putV_none, ne_eq, Nat.reduceEqDiff, not_false_eq_true, *]; rfl) rfl ?_; simp only [↓reduceIte, decide_true, decide_false, Bool.false_eq_true, Bool.true_eq_false, *, args0])
      | (refine Op1.some ?_; simp (disch := omega) only [T1, T3, T4, T5, T9, T22, T23, T26, T38, T41, T43, T48, T50, T52, T54, T56, T61, T67, T68, opV, ev_tmp, ev_const, ev_func, ofValue, ofCell, binV, binP, arith, strOp, eqn, unP, Option.map_some, Option.bind_some, builtinV, lenV, indexV, below_at, upTo_at, wrap64, wrap8, Int.toNat_natCast, Int.toNat_zero, List.map_cons, List.map_nil, List.getElem?_toArray, List.getElem?_cons_zero, ↓reduceIte, decide_true, decide_false, Bool.not_true, Bool.not_false, Bool.false_eq_true, look_eq, look_ne, putV_some, putV_none, ne_eq, Nat.reduceEqDiff, not_false_eq_true, *, args0])
      | (refine W.ret ?_; try simp only [])
      | (refine W.exit ?_; simp only [↓reduceIte, Nat.reduceEqDiff])
      | refine W.skip ?_
      | refine W.seq ?_
      | refine W.block ?_
      | (refine W.cond _ (by simp only [ev_tmp, look_eq, look_ne, putV_some, putV_none, ne_eq, Nat.reduceEqDiff, not_false_eq_true, *]; rfl) ?_; simp only [decide_true, decide_false, *, args0])
    exact ⟨.inr rfl, rfl, rfl⟩
  have h1 : ((s.length : Int) == 0) = false := by
    cases h : ((s.length : Int) == 0)
    · rfl
    · exact absurd h h1
  obtain ⟨c, t, rfl⟩ : ∃ c t, s = c :: t := by
    cases s with
    | nil => simp at h1
    | cons c t => exact ⟨c, t, rfl⟩
  have hc : (c :: t)[0]? = some c := rfl
  have hp : (0 : Int) < (c :: t).length := by simp
  have h1' := h1
  generalize hs : c :: t = s at *
  by_cases h2 : (s.length : Int) > 24
  · have e : nameF s = false := by
      have : ¬ s.length ≤ 24 := by omega
      subst hs
      simp [nameF]; intro h; simp at this; omega
    rw [e]
    repeat' first
      | refine W.regs ⟨rfl, rfl⟩ ?_
      | refine W.reg ⟨rfl, rfl⟩ ?_
      | refine N.nil ?_
      | refine N.free rfl ?_
      | (refine N.guarded _ _ rfl (by simp only [look_eq, look_ne, putV_some, putV_none, ne_eq, Nat.reduceEqDiff, not_false_eq_true, *]; rfl) rfl ?_; simp only [↓reduceIte, decide_true, decide_false, Bool.false_eq_true, Bool.true_eq_false, *, args0])
      | (refine Op1.some ?_; simp (disch := omega) only [T1, T3, T4, T5, T9, T22, T23, T26, T38, T41, T43, T48, T50, T52, T54, T56, T61, T67, T68, opV, ev_tmp, ev_const, ev_func, ofValue, ofCell, binV, binP, arith, strOp, eqn, unP, Option.map_some, Option.bind_some, builtinV, lenV, indexV, below_at, upTo_at, wrap64, wrap8, Int.toNat_natCast, Int.toNat_zero, List.map_cons, List.map_nil, List.getElem?_toArray, List.getElem?_cons_zero, ↓reduceIte, decide_true, decide_false, Bool.not_true, Bool.not_false, Bool.false_eq_true, look_eq, look_ne, putV_some, putV_none, ne_eq, Nat.reduceEqDiff, not_false_eq_true, *, args0])
      | (refine W.ret ?_; try simp only [])
      | (refine W.exit ?_; simp only [↓reduceIte, Nat.reduceEqDiff])
      | refine W.skip ?_
      | refine W.seq ?_
      | refine W.block ?_
      | (refine W.cond _ (by simp only [ev_tmp, look_eq, look_ne, putV_some, putV_none, ne_eq, Nat.reduceEqDiff, not_false_eq_true, *]; rfl) ?_; simp only [decide_true, decide_false, *, args0])
    exact ⟨.inr rfl, rfl, rfl⟩
  have e1 : nameF s = (lt c.toNat && (decide (resv s ≤ 0) && s.all nm)) := by
    have : s.length ≤ 24 := by omega
    subst hs
    simp only [nameF, this, decide_true, Bool.true_and]
  cases q1 : (s == [109, 105, 110])
  cases q2 : (s == [109, 97, 120])
  cases q3 : (s == [105, 102])
  · have e4 : resv s = 0 := by
      simp at q1 q2 q3
      simp [resv, q1, q2, q3]
    cases h3 : lt c.toNat
    · rw [h3] at e1
      rw [e1]
      repeat' first
        | refine W.regs ⟨rfl, rfl⟩ ?_
        | refine W.reg ⟨rfl, rfl⟩ ?_
        | refine N.nil ?_
        | refine N.free rfl ?_
        | (refine N.guarded _ _ rfl (by simp only [look_eq, look_ne, putV_some, putV_none, ne_eq, Nat.reduceEqDiff, not_false_eq_true, *]; rfl) rfl ?_; simp only [↓reduceIte, decide_true, decide_false, Bool.false_eq_true, Bool.true_eq_false, *, args0])
        | refine Op1.pure (by decide) rfl rfl rfl (run27 _ _) rfl ?_
        | (refine Op1.some ?_; simp (disch := omega) only [T1, T3, T4, T5, T9, T22, T23, T26, T38, T41, T43, T48, T50, T52, T54, T56, T61, T67, T68, opV, ev_tmp, ev_const, ev_func, ofValue, ofCell, binV, binP, arith, strOp, eqn, unP, Option.map_some, Option.bind_some, builtinV, lenV, indexV, below_at, upTo_at, wrap64, wrap8, Int.toNat_natCast, Int.toNat_zero, List.map_cons, List.map_nil, List.getElem?_toArray, List.getElem?_cons_zero, ↓reduceIte, decide_true, decide_false, Bool.not_true, Bool.not_false, Bool.false_eq_true, look_eq, look_ne, putV_some, putV_none, ne_eq, Nat.reduceEqDiff, not_false_eq_true, *, args0])
        | (refine W.ret ?_; try simp only [])
        | (refine W.exit ?_; simp only [↓reduceIte, Nat.reduceEqDiff])
        | refine W.skip ?_
        | refine W.seq ?_
        | refine W.block ?_
        | (refine W.cond _ (by simp only [ev_tmp, look_eq, look_ne, putV_some, putV_none, ne_eq, Nat.reduceEqDiff, not_false_eq_true, *]; rfl) ?_; simp only [decide_true, decide_false, *, args0])
      exact ⟨.inr rfl, rfl, rfl⟩
    have e2 : nameF s = s.all nm := by
      rw [e1, h3, e4]; simp
    rw [e2]
    repeat' first
      | refine W.regs ⟨rfl, rfl⟩ ?_
      | refine W.reg ⟨rfl, rfl⟩ ?_
      | refine N.nil ?_
      | refine N.free rfl ?_
      | (refine N.guarded _ _ rfl (by simp only [look_eq, look_ne, putV_some, putV_none, ne_eq, Nat.reduceEqDiff, not_false_eq_true, *]; rfl) rfl ?_; simp only [↓reduceIte, decide_true, decide_false, Bool.false_eq_true, Bool.true_eq_false, *, args0])
      | refine Op1.pure (by decide) rfl rfl rfl (run27 _ _) rfl ?_
      | (refine Op1.some ?_; simp (disch := omega) only [T1, T3, T4, T5, T9, T22, T23, T26, T38, T41, T43, T48, T50, T52, T54, T56, T61, T67, T68, opV, ev_tmp, ev_const, ev_func, ofValue, ofCell, binV, binP, arith, strOp, eqn, unP, Option.map_some, Option.bind_some, builtinV, lenV, indexV, below_at, upTo_at, wrap64, wrap8, Int.toNat_natCast, Int.toNat_zero, List.map_cons, List.map_nil, List.getElem?_toArray, List.getElem?_cons_zero, ↓reduceIte, decide_true, decide_false, Bool.not_true, Bool.not_false, Bool.false_eq_true, look_eq, look_ne, putV_some, putV_none, ne_eq, Nat.reduceEqDiff, not_false_eq_true, *, args0])
      | (refine W.ret ?_; try simp only [])
      | (refine W.exit ?_; simp only [↓reduceIte, Nat.reduceEqDiff])
      | refine W.skip ?_
      | refine W.seq ?_
      | refine W.block ?_
      | (refine W.cond _ (by simp only [ev_tmp, look_eq, look_ne, putV_some, putV_none, ne_eq, Nat.reduceEqDiff, not_false_eq_true, *]; rfl) ?_; simp only [decide_true, decide_false, *, args0])
    refine run12_loop s (by omega) _ _ _ _ rfl rfl (fun h e => ?_) (fun h e he => ?_)
    · rw [h]
      simp only [↓reduceIte]
      repeat' first
        | refine W.regs ⟨rfl, rfl⟩ ?_
        | refine W.reg ⟨rfl, rfl⟩ ?_
        | refine N.nil ?_
        | refine N.free rfl ?_
        | (refine N.guarded _ _ rfl (by simp only [look_eq, look_ne, putV_some, putV_none, ne_eq, Nat.reduceEqDiff, not_false_eq_true, *]; rfl) rfl ?_; simp only [↓reduceIte, decide_true, decide_false, Bool.false_eq_true, Bool.true_eq_false, *])
        | (refine Op1.some ?_; simp (disch := omega) only [T1, T3, T4, T5, T9, T22, T23, T26, T38, T41, T43, T48, T50, T52, T54, T56, T61, T67, T68, opV, ev_tmp, ev_const, ev_func, ofValue, ofCell, binV, binP, arith, strOp, eqn, unP, Option.map_some, Option.bind_some, builtinV, lenV, indexV, below_at, upTo_at, wrap64, wrap8, Int.toNat_natCast, Int.toNat_zero, List.map_cons, List.map_nil, List.getElem?_toArray, List.getElem?_cons_zero, ↓reduceIte, decide_true, decide_false, Bool.not_true, Bool.not_false, Bool.false_eq_true, look_eq, look_ne, putV_some, putV_none, ne_eq, Nat.reduceEqDiff, not_false_eq_true, *])
        | (refine W.ret ?_; try simp only [])
        | (refine W.exit ?_; simp only [↓reduceIte, Nat.reduceEqDiff])
        | refine W.skip ?_
        | refine W.seq ?_
        | refine W.block ?_
        | (refine W.cond _ (by simp only [ev_tmp, look_eq, look_ne, putV_some, putV_none, ne_eq, Nat.reduceEqDiff, not_false_eq_true, *]; rfl) ?_; simp only [decide_true, decide_false, *])
      exact ⟨.inr rfl, rfl, rfl⟩
    · rw [h]
      simp only []
      exact ⟨.inr rfl, results_one rfl he, rfl⟩
  all_goals
    have e2 : nameF s = false := by
      first
        | (have q := eq_of_beq q3; rw [q]; decide)
        | (have q := eq_of_beq q2; rw [q]; decide)
        | (have q := eq_of_beq q1; rw [q]; decide)
    rw [e2]
    repeat' first
      | refine W.regs ⟨rfl, rfl⟩ ?_
      | refine W.reg ⟨rfl, rfl⟩ ?_
      | refine N.nil ?_
      | refine N.free rfl ?_
      | (refine N.guarded _ _ rfl (by simp only [look_eq, look_ne, putV_some, putV_none, ne_eq, Nat.reduceEqDiff, not_false_eq_true, *]; rfl) rfl ?_; simp only [↓reduceIte, decide_true, decide_false, Bool.false_eq_true, Bool.true_eq_false, *, args0])
      | refine Op1.pure (by decide) rfl rfl rfl (run27 _ _) rfl ?_
      | (refine Op1.some ?_; simp (disch := omega) only [T1, T3, T4, T5, T9, T22, T23, T26, T38, T41, T43, T48, T50, T52, T54, T56, T61, T67, T68, opV, ev_tmp, ev_const, ev_func, ofValue, ofCell, binV, binP, arith, strOp, eqn, unP, Option.map_some, Option.bind_some, builtinV, lenV, indexV, below_at, upTo_at, wrap64, wrap8, Int.toNat_natCast, Int.toNat_zero, List.map_cons, List.map_nil, List.getElem?_toArray, List.getElem?_cons_zero, ↓reduceIte, decide_true, decide_false, Bool.not_true, Bool.not_false, Bool.false_eq_true, look_eq, look_ne, putV_some, putV_none, ne_eq, Nat.reduceEqDiff, not_false_eq_true, *, args0])
      | (refine W.ret ?_; try simp only [])
      | (refine W.exit ?_; simp only [↓reduceIte, Nat.reduceEqDiff])
      | refine W.skip ?_
      | refine W.seq ?_
      | refine W.block ?_
      | (refine W.cond _ (by simp only [ev_tmp, look_eq, look_ne, putV_some, putV_none, ne_eq, Nat.reduceEqDiff, not_false_eq_true, *]; rfl) ?_; simp only [decide_true, decide_false, *, args0])
    exact ⟨.inr rfl, rfl, rfl⟩
end Go.Proofs.YtkjpfmmpiapfaaaDoor
