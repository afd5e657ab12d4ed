import Derived.Test.YtkjpfmmpiapfaaaDoorNameR
set_option maxRecDepth 10000
set_option linter.unusedSimpArgs false
namespace Go.Proofs.YtkjpfmmpiapfaaaDoor
open Go Go.AX
noncomputable def fi4 : FnI := { body := (Tryd.f4.body).getD .skip, ntmps := 11, results := Tryd.f4.results.toList, hints := hints 4 }
theorem cxF4 : cx.F 4 = some fi4 := by kernel_rfl
theorem run8 : ∃ H', CV cx 8 [] [] (.p (.bool true)) H' := by
  obtain ⟨H', h⟩ := awake_run
  exact ⟨H', 2000, h⟩
theorem run4 (s : List UInt8) : ∃ H', CV cx 4 [.p (.str s)] [] (.p (.bool true)) H' := by
  obtain ⟨H8, h8⟩ := run8
  refine ⟨[], CV.of cxF4 rfl ?_⟩
  cases hn : nameF s
  all_goals
    repeat' first
      | refine W.regs ⟨rfl, rfl⟩ ?_
      | refine W.reg ⟨rfl, rfl⟩ ?_
      | refine N.nil ?_
      | refine N.free rfl ?_
      | (refine N.guarded _ _ rfl (by simp only [look_eq, look_ne, putV_some, putV_none, ne_eq, Nat.reduceEqDiff, not_false_eq_true, *]; rfl) rfl ?_; simp only [↓reduceIte, decide_true, decide_false, Bool.false_eq_true, Bool.true_eq_false, *, args0])
      | refine Op1.pure (by decide) rfl rfl rfl h8 rfl ?_
      | refine Op1.pure (by decide) rfl rfl rfl (run11 _ _) rfl ?_
      | refine Op1.pure (by decide) rfl rfl rfl (run12 _ _) rfl ?_
      | (refine Op1.some ?_; simp (disch := omega) only [T1, T3, T4, T5, T9, T22, T23, T26, T38, T41, T43, T48, T50, T52, T54, T56, T61, T67, T68, opV, ev_tmp, ev_const, ev_func, ofValue, ofCell, binV, binP, arith, strOp, eqn, unP, Option.map_some, Option.bind_some, builtinV, lenV, indexV, below_at, upTo_at, wrap64, wrap8, Int.toNat_natCast, Int.toNat_zero, List.map_cons, List.map_nil, List.getElem?_toArray, List.getElem?_cons_zero, ↓reduceIte, decide_true, decide_false, Bool.not_true, Bool.not_false, Bool.false_eq_true, look_eq, look_ne, putV_some, putV_none, ne_eq, Nat.reduceEqDiff, not_false_eq_true, *, args0])
      | (refine W.ret ?_; try simp only [])
      | (refine W.exit ?_; simp only [↓reduceIte, Nat.reduceEqDiff])
      | refine W.skip ?_
      | refine W.seq ?_
      | refine W.block ?_
      | (refine W.cond _ (by simp only [ev_tmp, look_eq, look_ne, putV_some, putV_none, ne_eq, Nat.reduceEqDiff, not_false_eq_true, *]; rfl) ?_; simp only [decide_true, decide_false, *, args0])
  all_goals exact ⟨.inr rfl, rfl, rfl⟩
end Go.Proofs.YtkjpfmmpiapfaaaDoor
