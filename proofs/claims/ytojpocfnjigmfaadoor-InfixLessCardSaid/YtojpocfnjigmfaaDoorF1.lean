import Derived.Test.YtojpocfnjigmfaaDoorCx
set_option maxRecDepth 10000
set_option linter.unusedSimpArgs false
set_option linter.unusedVariables false
namespace Go.Proofs.YtojpocfnjigmfaaDoor
open Go Go.AX
noncomputable def fi53 : FnI := { body := (Tryd.f53.body).getD .skip, ntmps := 9, results := Tryd.f53.results.toList, hints := [] }
theorem cxF53 : cx.F 53 = some fi53 := by kernel_rfl
noncomputable def fi55 : FnI := { body := (Tryd.f55.body).getD .skip, ntmps := 9, results := Tryd.f55.results.toList, hints := [] }
theorem cxF55 : cx.F 55 = some fi55 := by kernel_rfl
noncomputable def fi54 : FnI := { body := (Tryd.f54.body).getD .skip, ntmps := 10, results := Tryd.f54.results.toList, hints := [] }
theorem cxF54 : cx.F 54 = some fi54 := by kernel_rfl
noncomputable def fi66 : FnI := { body := (Tryd.f66.body).getD .skip, ntmps := 5, results := Tryd.f66.results.toList, hints := [] }
theorem cxF66 : cx.F 66 = some fi66 := by kernel_rfl
noncomputable def fi67 : FnI := { body := (Tryd.f67.body).getD .skip, ntmps := 13, results := Tryd.f67.results.toList, hints := [] }
theorem cxF67 : cx.F 67 = some fi67 := by kernel_rfl
noncomputable def fi65 : FnI := { body := (Tryd.f65.body).getD .skip, ntmps := 27, results := Tryd.f65.results.toList, hints := [(0, { live := some [0, 1, 2] }), (2, { live := some [0, 1, 2] })] }
theorem cxF65 : cx.F 65 = some fi65 := by kernel_rfl
noncomputable def fi35 : FnI := { body := (Tryd.f35.body).getD .skip, ntmps := 22, results := Tryd.f35.results.toList, hints := [] }
theorem cxF35 : cx.F 35 = some fi35 := by kernel_rfl
noncomputable def fi33 : FnI := { body := (Tryd.f33.body).getD .skip, ntmps := 162, results := Tryd.f33.results.toList, hints := [(1, { ops := [(5, 1)] }), (6, { ops := [(2, 1)] }), (8, { ops := [(2, 1)] }), (10, { ops := [(2, 1)] }), (13, { ops := [(2, 1)] })] }
theorem cxF33 : cx.F 33 = some fi33 := by kernel_rfl
def lt (c : Int) : Bool := decide (97 ≤ c) && decide (c ≤ 122)
def dg (c : Int) : Bool := decide (48 ≤ c) && decide (c ≤ 57)
theorem letter_run (c : Int) : PV cx 53 [.p (.int .u8 c)] (.bool (lt c)) := by
  refine PV.run cxF53 rfl ?_
  simp only [args0, Nat.zero_add, Nat.reduceAdd]
  repeat' first
    | with_reducible apply M.free
    | with_reducible apply M.done
    | ((with_reducible apply F.move); exact rfl; exact rfl)
    | ((with_reducible apply F.cmp); exact rfl; exact rfl; exact rfl; exact rfl)
    | ((with_reducible apply F.assign); exact rfl; exact rfl)
    | ((with_reducible apply F.pickT); exact rfl; exact rfl; exact rfl)
    | ((with_reducible apply F.pickF); exact rfl; exact rfl; exact rfl)
    | ((with_reducible apply R.regs); exact rfl)
    | ((first | (with_reducible apply R.cond) | ((with_reducible apply M.guard); exact rfl)); (focus (first | (refine Eq.trans (look_of rfl) ?_; first | (simp only [decide_true, decide_false, Bool.not_true, Bool.not_false, *] <;> rfl) | exact rfl) | exact look_of rfl)))
    | refine imp_yes rfl ?_
    | exact imp_no rfl
    | with_reducible apply R.seq
    | ((with_reducible apply R.region); exact rfl)
    | with_reducible apply E.seqN
    | with_reducible apply E.seqX
    | with_reducible apply E.seqR
    | with_reducible apply R.skip
    | with_reducible apply R.ret
    | ((first | ((with_reducible apply F.bin); exact rfl; exact rfl; exact rfl; exact rfl)); (focus (simp (disch := first | assumption | omega | (simp only [List.length_cons, List.length_nil, List.length_append, List.length_take, List.length_drop]; omega)) only [LS, indexAddrV, indexV, below_at, fieldV, fieldAddrV, convP, bytesOf, sliceV, bounds, bMax, bHi, bLo, upTo_at, makeFuncV, partV, partP, cut, binI, binS, binV, binP, arith, strOp_add, strOp_eql, strOp_neq, eqn, wrap64, wrap8, mkAgg, allP, asP, Option.getD_none, Int.toNat_zero, Int.reduceToNat, *] <;> rfl)))
    | ((with_reducible apply F.pickT'); exact rfl; exact rfl; (focus (simp only [decide_true, decide_false, Bool.not_true, Bool.not_false, List.toList_toArray, *]; done)); exact rfl)
    | ((with_reducible apply F.pickF'); exact rfl; exact rfl; (focus (simp only [decide_true, decide_false, Bool.not_true, Bool.not_false, List.toList_toArray, *]; done)); exact rfl)
    | (intro hc; (try rw [hc]); (try simp only [decide_eq_true_eq, decide_eq_false_iff_not, Bool.not_eq_eq_eq_not, Bool.not_true, Bool.not_false] at hc); (try (exfalso; omega)))
    | ((with_reducible apply E.r0); exact rfl; exact rfl)
    | ((first | ((with_reducible apply E.r1); exact rfl; exact rfl; (focus (exact look_of rfl))) | ((with_reducible apply E.rF1); exact rfl; exact rfl; (focus (exact look_of rfl))) | ((with_reducible apply E.rP1); exact rfl; exact rfl; (focus (exact look_of rfl))) | ((with_reducible apply E.r2); exact rfl; exact rfl; (focus (exact look_of rfl)); (focus (exact look_of rfl))) | ((with_reducible apply E.rF2); exact rfl; exact rfl; (focus (exact look_of rfl)); (focus (exact look_of rfl))) | ((with_reducible apply E.rP2); exact rfl; exact rfl; (focus (exact look_of rfl)); (focus (exact look_of rfl))) | ((with_reducible apply E.r3); exact rfl; exact rfl; (focus (exact look_of rfl)); (focus (exact look_of rfl)); (focus (exact look_of rfl))) | ((with_reducible apply E.rF3); exact rfl; exact rfl; (focus (exact look_of rfl)); (focus (exact look_of rfl)); (focus (exact look_of rfl))) | ((with_reducible apply E.rP3); exact rfl; exact rfl; (focus (exact look_of rfl)); (focus (exact look_of rfl)); (focus (exact look_of rfl)))))
    | refine R.regs rfl ?_
    | refine R.regsL rfl ?_
    | refine R.regsT rfl ?_
    | refine R.seq ?_
    | refine R.region rfl ?_
    | refine R.block ?_
    | exact rfl
  all_goals (congr 1; first | (simp_all [lt]; done) | (simp_all [lt]; omega))
theorem digit_run (c : Int) : PV cx 55 [.p (.int .u8 c)] (.bool (dg c)) := by
  refine PV.run cxF55 rfl ?_
  simp only [args0, Nat.zero_add, Nat.reduceAdd]
  repeat' first
    | with_reducible apply M.free
    | with_reducible apply M.done
    | ((with_reducible apply F.move); exact rfl; exact rfl)
    | ((with_reducible apply F.cmp); exact rfl; exact rfl; exact rfl; exact rfl)
    | ((with_reducible apply F.assign); exact rfl; exact rfl)
    | ((with_reducible apply F.pickT); exact rfl; exact rfl; exact rfl)
    | ((with_reducible apply F.pickF); exact rfl; exact rfl; exact rfl)
    | ((with_reducible apply R.regs); exact rfl)
    | ((first | (with_reducible apply R.cond) | ((with_reducible apply M.guard); exact rfl)); (focus (first | (refine Eq.trans (look_of rfl) ?_; first | (simp only [decide_true, decide_false, Bool.not_true, Bool.not_false, *] <;> rfl) | exact rfl) | exact look_of rfl)))
    | refine imp_yes rfl ?_
    | exact imp_no rfl
    | with_reducible apply R.seq
    | ((with_reducible apply R.region); exact rfl)
    | with_reducible apply E.seqN
    | with_reducible apply E.seqX
    | with_reducible apply E.seqR
    | with_reducible apply R.skip
    | with_reducible apply R.ret
    | ((first | ((with_reducible apply F.bin); exact rfl; exact rfl; exact rfl; exact rfl)); (focus (simp (disch := first | assumption | omega | (simp only [List.length_cons, List.length_nil, List.length_append, List.length_take, List.length_drop]; omega)) only [LS, indexAddrV, indexV, below_at, fieldV, fieldAddrV, convP, bytesOf, sliceV, bounds, bMax, bHi, bLo, upTo_at, makeFuncV, partV, partP, cut, binI, binS, binV, binP, arith, strOp_add, strOp_eql, strOp_neq, eqn, wrap64, wrap8, mkAgg, allP, asP, Option.getD_none, Int.toNat_zero, Int.reduceToNat, *] <;> rfl)))
    | ((with_reducible apply F.pickT'); exact rfl; exact rfl; (focus (simp only [decide_true, decide_false, Bool.not_true, Bool.not_false, List.toList_toArray, *]; done)); exact rfl)
    | ((with_reducible apply F.pickF'); exact rfl; exact rfl; (focus (simp only [decide_true, decide_false, Bool.not_true, Bool.not_false, List.toList_toArray, *]; done)); exact rfl)
    | (intro hc; (try rw [hc]); (try simp only [decide_eq_true_eq, decide_eq_false_iff_not, Bool.not_eq_eq_eq_not, Bool.not_true, Bool.not_false] at hc); (try (exfalso; omega)))
    | ((with_reducible apply E.r0); exact rfl; exact rfl)
    | ((first | ((with_reducible apply E.r1); exact rfl; exact rfl; (focus (exact look_of rfl))) | ((with_reducible apply E.rF1); exact rfl; exact rfl; (focus (exact look_of rfl))) | ((with_reducible apply E.rP1); exact rfl; exact rfl; (focus (exact look_of rfl))) | ((with_reducible apply E.r2); exact rfl; exact rfl; (focus (exact look_of rfl)); (focus (exact look_of rfl))) | ((with_reducible apply E.rF2); exact rfl; exact rfl; (focus (exact look_of rfl)); (focus (exact look_of rfl))) | ((with_reducible apply E.rP2); exact rfl; exact rfl; (focus (exact look_of rfl)); (focus (exact look_of rfl))) | ((with_reducible apply E.r3); exact rfl; exact rfl; (focus (exact look_of rfl)); (focus (exact look_of rfl)); (focus (exact look_of rfl))) | ((with_reducible apply E.rF3); exact rfl; exact rfl; (focus (exact look_of rfl)); (focus (exact look_of rfl)); (focus (exact look_of rfl))) | ((with_reducible apply E.rP3); exact rfl; exact rfl; (focus (exact look_of rfl)); (focus (exact look_of rfl)); (focus (exact look_of rfl)))))
    | refine R.regs rfl ?_
    | refine R.regsL rfl ?_
    | refine R.regsT rfl ?_
    | refine R.seq ?_
    | refine R.region rfl ?_
    | refine R.block ?_
    | exact rfl
  all_goals (congr 1; first | (simp_all [dg]; done) | (simp_all [dg]; omega))
def resv (s : List UInt8) : Int := if s = [109, 105, 110] then 9 else if s = [109, 97, 120] then 10 else if s = [105, 102] then 16 else 0
theorem reserved_run (s : List UInt8) : PV cx 54 [.p (.str s)] (.int .i64 (resv s)) := by
  refine PV.run cxF54 rfl ?_
  simp only [args0, Nat.zero_add, Nat.reduceAdd]
  repeat' first
    | with_reducible apply M.free
    | with_reducible apply M.done
    | ((with_reducible apply F.move); exact rfl; exact rfl)
    | ((with_reducible apply F.cmp); exact rfl; exact rfl; exact rfl; exact rfl)
    | ((with_reducible apply F.assign); exact rfl; exact rfl)
    | ((with_reducible apply F.cmpS); exact rfl; exact rfl; exact rfl; exact rfl)
    | ((with_reducible apply R.regs); exact rfl)
    | ((first | (with_reducible apply R.cond) | ((with_reducible apply M.guard); exact rfl)); (focus (first | (refine Eq.trans (look_of rfl) ?_; first | (simp only [decide_true, decide_false, Bool.not_true, Bool.not_false, *] <;> rfl) | exact rfl) | exact look_of rfl)))
    | refine imp_yes rfl ?_
    | exact imp_no rfl
    | with_reducible apply R.seq
    | ((with_reducible apply R.region); exact rfl)
    | with_reducible apply E.seqN
    | with_reducible apply E.seqX
    | with_reducible apply E.seqR
    | with_reducible apply E.blkN
    | with_reducible apply E.blkR
    | ((with_reducible apply E.blkX); exact rfl)
    | ((with_reducible apply E.blkO); exact rfl)
    | with_reducible apply R.skip
    | with_reducible apply R.ret
    | with_reducible apply R.block
    | ((first | ((with_reducible apply F.bin); exact rfl; exact rfl; exact rfl; exact rfl)); (focus (simp (disch := first | assumption | omega | (simp only [List.length_cons, List.length_nil, List.length_append, List.length_take, List.length_drop]; omega)) only [LS, indexAddrV, indexV, below_at, fieldV, fieldAddrV, convP, bytesOf, sliceV, bounds, bMax, bHi, bLo, upTo_at, makeFuncV, partV, partP, cut, binI, binS, binV, binP, arith, strOp_add, strOp_eql, strOp_neq, eqn, wrap64, wrap8, mkAgg, allP, asP, Option.getD_none, Int.toNat_zero, Int.reduceToNat, *] <;> rfl)))
    | (intro hc; (try rw [hc]); (try simp only [decide_eq_true_eq, decide_eq_false_iff_not, Bool.not_eq_eq_eq_not, Bool.not_true, Bool.not_false] at hc); (try (exfalso; omega)))
    | ((with_reducible apply E.r0); exact rfl; exact rfl)
    | ((first | ((with_reducible apply E.r1); exact rfl; exact rfl; (focus (exact look_of rfl))) | ((with_reducible apply E.rF1); exact rfl; exact rfl; (focus (exact look_of rfl))) | ((with_reducible apply E.rP1); exact rfl; exact rfl; (focus (exact look_of rfl))) | ((with_reducible apply E.r2); exact rfl; exact rfl; (focus (exact look_of rfl)); (focus (exact look_of rfl))) | ((with_reducible apply E.rF2); exact rfl; exact rfl; (focus (exact look_of rfl)); (focus (exact look_of rfl))) | ((with_reducible apply E.rP2); exact rfl; exact rfl; (focus (exact look_of rfl)); (focus (exact look_of rfl))) | ((with_reducible apply E.r3); exact rfl; exact rfl; (focus (exact look_of rfl)); (focus (exact look_of rfl)); (focus (exact look_of rfl))) | ((with_reducible apply E.rF3); exact rfl; exact rfl; (focus (exact look_of rfl)); (focus (exact look_of rfl)); (focus (exact look_of rfl))) | ((with_reducible apply E.rP3); exact rfl; exact rfl; (focus (exact look_of rfl)); (focus (exact look_of rfl)); (focus (exact look_of rfl)))))
    | refine R.regs rfl ?_
    | refine R.regsL rfl ?_
    | refine R.regsT rfl ?_
    | refine R.seq ?_
    | refine R.region rfl ?_
    | refine R.block ?_
    | exact rfl
  all_goals (congr 1; simp_all [resv])
/-- May a byte stand in a name? -/
def nm (c : UInt8) : Bool := lt c.toNat || (dg c.toNat || decide ((c.toNat : Int) = 95))
theorem blank_run (c : UInt8) : PV cx 66 [.p (.int .u8 c.toNat)] (.bool (decide ((c.toNat : Int) = 32))) := by
  refine PV.run cxF66 rfl ?_
  simp only [args0, Nat.zero_add, Nat.reduceAdd]
  repeat' first
    | with_reducible apply M.free
    | with_reducible apply M.done
    | ((with_reducible apply F.move); exact rfl; exact rfl)
    | ((with_reducible apply F.cmp); exact rfl; exact rfl; exact rfl; exact rfl)
    | ((with_reducible apply F.assign); exact rfl; exact rfl)
    | ((with_reducible apply F.cmpS); exact rfl; exact rfl; exact rfl; exact rfl)
    | ((with_reducible apply R.regs); exact rfl)
    | ((first | (with_reducible apply R.cond) | ((with_reducible apply M.guard); exact rfl)); (focus (first | (refine Eq.trans (look_of rfl) ?_; first | (simp only [decide_true, decide_false, Bool.not_true, Bool.not_false, *] <;> rfl) | exact rfl) | exact look_of rfl)))
    | refine imp_yes rfl ?_
    | exact imp_no rfl
    | with_reducible apply R.seq
    | ((with_reducible apply R.region); exact rfl)
    | with_reducible apply E.seqN
    | with_reducible apply E.seqX
    | with_reducible apply E.seqR
    | with_reducible apply R.skip
    | with_reducible apply R.ret
    | ((first | ((with_reducible apply F.bin); exact rfl; exact rfl; exact rfl; exact rfl)); (focus (simp (disch := first | assumption | omega | (simp only [List.length_cons, List.length_nil, List.length_append, List.length_take, List.length_drop]; omega)) only [LS, indexAddrV, indexV, below_at, fieldV, fieldAddrV, convP, bytesOf, sliceV, bounds, bMax, bHi, bLo, upTo_at, makeFuncV, partV, partP, cut, binI, binS, binV, binP, arith, strOp_add, strOp_eql, strOp_neq, eqn, wrap64, wrap8, mkAgg, allP, asP, Option.getD_none, Int.toNat_zero, Int.reduceToNat, *] <;> rfl)))
    | (intro hc; (try rw [hc]); (try simp only [decide_eq_true_eq, decide_eq_false_iff_not, Bool.not_eq_eq_eq_not, Bool.not_true, Bool.not_false] at hc); (try (exfalso; omega)))
    | ((with_reducible apply E.r0); exact rfl; exact rfl)
    | ((first | ((with_reducible apply E.r1); exact rfl; exact rfl; (focus (exact look_of rfl))) | ((with_reducible apply E.rF1); exact rfl; exact rfl; (focus (exact look_of rfl))) | ((with_reducible apply E.rP1); exact rfl; exact rfl; (focus (exact look_of rfl))) | ((with_reducible apply E.r2); exact rfl; exact rfl; (focus (exact look_of rfl)); (focus (exact look_of rfl))) | ((with_reducible apply E.rF2); exact rfl; exact rfl; (focus (exact look_of rfl)); (focus (exact look_of rfl))) | ((with_reducible apply E.rP2); exact rfl; exact rfl; (focus (exact look_of rfl)); (focus (exact look_of rfl))) | ((with_reducible apply E.r3); exact rfl; exact rfl; (focus (exact look_of rfl)); (focus (exact look_of rfl)); (focus (exact look_of rfl))) | ((with_reducible apply E.rF3); exact rfl; exact rfl; (focus (exact look_of rfl)); (focus (exact look_of rfl)); (focus (exact look_of rfl))) | ((with_reducible apply E.rP3); exact rfl; exact rfl; (focus (exact look_of rfl)); (focus (exact look_of rfl)); (focus (exact look_of rfl)))))
    | refine R.regs rfl ?_
    | refine R.regsL rfl ?_
    | refine R.regsT rfl ?_
    | refine R.seq ?_
    | refine R.region rfl ?_
    | refine R.block ?_
    | exact rfl
theorem nm_run (c : UInt8) : PV cx 67 [.p (.int .u8 c.toNat)] (.bool (nm c)) := by
  refine PV.run cxF67 rfl ?_
  simp only [args0, Nat.zero_add, Nat.reduceAdd]
  repeat' first
    | with_reducible apply M.free
    | with_reducible apply M.done
    | ((with_reducible apply F.move); exact rfl; exact rfl)
    | ((with_reducible apply F.cmp); exact rfl; exact rfl; exact rfl; exact rfl)
    | ((with_reducible apply F.assign); exact rfl; exact rfl)
    | ((with_reducible apply F.pickT); exact rfl; exact rfl; exact rfl)
    | ((with_reducible apply F.pickF); exact rfl; exact rfl; exact rfl)
    | ((with_reducible apply F.cmpS); exact rfl; exact rfl; exact rfl; exact rfl)
    | ((with_reducible apply R.regs); exact rfl)
    | ((with_reducible apply F.call0); exact rfl; exact rfl; (focus (repeat' (first | exact Evs.nil | (apply Evs.cons; exact rfl)))); exact rfl; (focus (first | exact (letter_run _).fv | exact (digit_run _).fv)))
    | ((first | (with_reducible apply R.cond) | ((with_reducible apply M.guard); exact rfl)); (focus (first | (refine Eq.trans (look_of rfl) ?_; first | (simp only [decide_true, decide_false, Bool.not_true, Bool.not_false, *] <;> rfl) | exact rfl) | exact look_of rfl)))
    | refine imp_yes rfl ?_
    | exact imp_no rfl
    | with_reducible apply R.seq
    | ((with_reducible apply R.region); exact rfl)
    | with_reducible apply E.seqN
    | with_reducible apply E.seqX
    | with_reducible apply E.seqR
    | with_reducible apply R.skip
    | with_reducible apply R.ret
    | ((first | ((with_reducible apply F.bin); exact rfl; exact rfl; exact rfl; exact rfl)); (focus (simp (disch := first | assumption | omega | (simp only [List.length_cons, List.length_nil, List.length_append, List.length_take, List.length_drop]; omega)) only [LS, indexAddrV, indexV, below_at, fieldV, fieldAddrV, convP, bytesOf, sliceV, bounds, bMax, bHi, bLo, upTo_at, makeFuncV, partV, partP, cut, binI, binS, binV, binP, arith, strOp_add, strOp_eql, strOp_neq, eqn, wrap64, wrap8, mkAgg, allP, asP, Option.getD_none, Int.toNat_zero, Int.reduceToNat, *] <;> rfl)))
    | ((with_reducible apply F.pickT'); exact rfl; exact rfl; (focus (simp only [decide_true, decide_false, Bool.not_true, Bool.not_false, List.toList_toArray, *]; done)); exact rfl)
    | ((with_reducible apply F.pickF'); exact rfl; exact rfl; (focus (simp only [decide_true, decide_false, Bool.not_true, Bool.not_false, List.toList_toArray, *]; done)); exact rfl)
    | (intro hc; (try rw [hc]); (try simp only [decide_eq_true_eq, decide_eq_false_iff_not, Bool.not_eq_eq_eq_not, Bool.not_true, Bool.not_false] at hc); (try (exfalso; omega)))
    | ((with_reducible apply E.r0); exact rfl; exact rfl)
    | ((first | ((with_reducible apply E.r1); exact rfl; exact rfl; (focus (exact look_of rfl))) | ((with_reducible apply E.rF1); exact rfl; exact rfl; (focus (exact look_of rfl))) | ((with_reducible apply E.rP1); exact rfl; exact rfl; (focus (exact look_of rfl))) | ((with_reducible apply E.r2); exact rfl; exact rfl; (focus (exact look_of rfl)); (focus (exact look_of rfl))) | ((with_reducible apply E.rF2); exact rfl; exact rfl; (focus (exact look_of rfl)); (focus (exact look_of rfl))) | ((with_reducible apply E.rP2); exact rfl; exact rfl; (focus (exact look_of rfl)); (focus (exact look_of rfl))) | ((with_reducible apply E.r3); exact rfl; exact rfl; (focus (exact look_of rfl)); (focus (exact look_of rfl)); (focus (exact look_of rfl))) | ((with_reducible apply E.rF3); exact rfl; exact rfl; (focus (exact look_of rfl)); (focus (exact look_of rfl)); (focus (exact look_of rfl))) | ((with_reducible apply E.rP3); exact rfl; exact rfl; (focus (exact look_of rfl)); (focus (exact look_of rfl)); (focus (exact look_of rfl)))))
    | refine R.regs rfl ?_
    | refine R.regsL rfl ?_
    | refine R.regsT rfl ?_
    | refine R.seq ?_
    | refine R.region rfl ?_
    | refine R.block ?_
    | exact rfl
  all_goals (congr 1; simp_all [nm])
/-- Where a run of bytes ends. -/
def runL (p : UInt8 → Bool) (s : List UInt8) (i : Nat) : Nat := i + ((s.drop i).takeWhile p).length
theorem runL_step {p : UInt8 → Bool} {s : List UInt8} {i : Nat} {b : UInt8} (h : s[i]? = some b) : runL p s i = if p b = true then runL p s (i + 1) else i := by
  obtain ⟨hi, rfl⟩ := List.getElem?_eq_some_iff.1 h
  unfold runL
  rw [List.drop_eq_getElem_cons hi]
  by_cases hp : p s[i] = true
  · rw [if_pos hp, List.takeWhile_cons_of_pos hp, List.length_cons]; omega
  · rw [if_neg hp, List.takeWhile_cons_of_neg hp]; rfl
theorem runL_end {p : UInt8 → Bool} {s : List UInt8} {i : Nat} (h : s.length ≤ i) : runL p s i = i := by
  unfold runL
  rw [List.drop_of_length_le h]
  rfl
theorem runL_le {p : UInt8 → Bool} {s : List UInt8} {i : Nat} (h : i ≤ s.length) : i ≤ runL p s i ∧ runL p s i ≤ s.length := by
  unfold runL
  have := (List.takeWhile_prefix p (l := s.drop i)).length_le
  rw [List.length_drop] at this
  omega
theorem run_run (f : FuncId) (p : UInt8 → Bool) (hp : ∀ c : UInt8, FV cx f [.p (.int .u8 c.toNat)] (.bool (p c))) (text : List UInt8) (ht : text.length ≤ 9223372036854775807) (i : Nat) (hi : i ≤ text.length) (cells : List V) (rest : Hp) :
    CV cx 65 [.ptr 0 0 0, .p (.int .i64 i), .p (.fn f [] [])] (.box 0 (.p (.str text) :: cells) :: rest) (.p (.int .i64 (runL p text i))) (.box 0 (.p (.str text) :: cells) :: rest) := by
  refine CV.run cxF65 rfl ?_
  simp only [args0, Nat.zero_add, Nat.reduceAdd]
  repeat' first
    | with_reducible apply M.free
    | with_reducible apply M.done
    | ((with_reducible apply F.move); exact rfl; exact rfl)
    | ((with_reducible apply F.load); exact rfl; exact rfl; exact rfl)
    | ((with_reducible apply F.cmp); exact rfl; exact rfl; exact rfl; exact rfl)
    | ((with_reducible apply F.assign); exact rfl; exact rfl)
    | ((with_reducible apply F.fieldAddr); exact rfl; exact rfl; exact rfl)
    | ((with_reducible apply F.len); exact rfl; exact rfl; exact rfl; exact rfl)
    | ((with_reducible apply F.nilCheck); exact rfl; exact rfl; exact rfl)
    | ((with_reducible apply F.pickT); exact rfl; exact rfl; exact rfl)
    | ((with_reducible apply F.pickF); exact rfl; exact rfl; exact rfl)
    | ((first | ((with_reducible apply F.add); exact rfl; exact rfl; exact rfl) | ((with_reducible apply F.adds); exact rfl; exact rfl; exact rfl)); (focus (first | omega | (simp only [List.length_cons, List.length_nil, List.length_append, List.length_take, List.length_drop]; omega))))
    | ((with_reducible apply R.regs); exact rfl)
    | ((with_reducible apply R.regsL); exact rfl)
    | ((with_reducible apply Lv.of); (focus (repeat' (first | exact Kp.nil | (apply Kp.cons; exact rfl)))))
    | ((first | (with_reducible apply R.cond) | ((with_reducible apply M.guard); exact rfl)); (focus (first | (refine Eq.trans (look_of rfl) ?_; first | (simp only [decide_true, decide_false, Bool.not_true, Bool.not_false, *] <;> rfl) | exact rfl) | exact look_of rfl)))
    | refine imp_yes rfl ?_
    | exact imp_no rfl
    | with_reducible apply R.seq
    | ((with_reducible apply R.region); exact rfl)
    | ((with_reducible apply R.regionL); exact rfl)
    | with_reducible apply E.seqN
    | with_reducible apply E.seqX
    | with_reducible apply E.seqR
    | with_reducible apply E.blkN
    | with_reducible apply E.blkR
    | ((with_reducible apply E.blkX); exact rfl)
    | ((with_reducible apply E.blkO); exact rfl)
    | with_reducible apply R.skip
    | with_reducible apply R.ret
    | with_reducible apply R.block
    | with_reducible apply R.exit
    | ((first | ((with_reducible apply F.loadS); exact rfl; exact rfl; exact rfl)); (focus (simp (disch := first | assumption | omega | (simp only [List.length_cons, List.length_nil, List.length_append, List.length_take, List.length_drop]; omega)) only [LS, storeV, loadV, partV, partP, cut, over, mkAgg, allP, asP, V.cells, PC, elDiv, elMod, elDiv0, Nat.mul_mod_left, Int.toNat_zero, Int.reduceToNat, *] <;> rfl)))
    | ((first | ((with_reducible apply F.len); exact rfl; exact rfl; exact rfl)); (focus (simp (disch := first | assumption | omega | (simp only [List.length_cons, List.length_nil, List.length_append, List.length_take, List.length_drop]; omega)) only [LS, lenV_L, idx_L, below_at, Int.toNat_zero, Int.reduceToNat, *] <;> rfl)))
    | ((first | ((with_reducible apply F.index); exact rfl; exact rfl; exact rfl; exact rfl) | ((with_reducible apply F.fieldAddrS); exact rfl; exact rfl; exact rfl) | ((with_reducible apply F.bin); exact rfl; exact rfl; exact rfl; exact rfl)); (focus (simp (disch := first | assumption | omega | (simp only [List.length_cons, List.length_nil, List.length_append, List.length_take, List.length_drop]; omega)) only [LS, indexAddrV, indexV, below_at, fieldV, fieldAddrV, convP, bytesOf, sliceV, bounds, bMax, bHi, bLo, upTo_at, makeFuncV, partV, partP, cut, binI, binS, binV, binP, arith, strOp_add, strOp_eql, strOp_neq, eqn, wrap64, wrap8, mkAgg, allP, asP, Option.getD_none, Int.toNat_zero, Int.reduceToNat, *] <;> rfl)))
    | ((with_reducible apply F.pickT'); exact rfl; exact rfl; (focus (simp only [decide_true, decide_false, Bool.not_true, Bool.not_false, List.toList_toArray, *]; done)); exact rfl)
    | ((with_reducible apply F.pickF'); exact rfl; exact rfl; (focus (simp only [decide_true, decide_false, Bool.not_true, Bool.not_false, List.toList_toArray, *]; done)); exact rfl)
    | (intro hc; (try rw [hc]); (try simp only [decide_eq_true_eq, decide_eq_false_iff_not, Bool.not_eq_eq_eq_not, Bool.not_true, Bool.not_false] at hc); (try (exfalso; omega)))
    | ((with_reducible apply E.r0); exact rfl; exact rfl)
    | ((first | ((with_reducible apply E.r1); exact rfl; exact rfl; (focus (exact look_of rfl))) | ((with_reducible apply E.rF1); exact rfl; exact rfl; (focus (exact look_of rfl))) | ((with_reducible apply E.rP1); exact rfl; exact rfl; (focus (exact look_of rfl))) | ((with_reducible apply E.r2); exact rfl; exact rfl; (focus (exact look_of rfl)); (focus (exact look_of rfl))) | ((with_reducible apply E.rF2); exact rfl; exact rfl; (focus (exact look_of rfl)); (focus (exact look_of rfl))) | ((with_reducible apply E.rP2); exact rfl; exact rfl; (focus (exact look_of rfl)); (focus (exact look_of rfl))) | ((with_reducible apply E.r3); exact rfl; exact rfl; (focus (exact look_of rfl)); (focus (exact look_of rfl)); (focus (exact look_of rfl))) | ((with_reducible apply E.rF3); exact rfl; exact rfl; (focus (exact look_of rfl)); (focus (exact look_of rfl)); (focus (exact look_of rfl))) | ((with_reducible apply E.rP3); exact rfl; exact rfl; (focus (exact look_of rfl)); (focus (exact look_of rfl)); (focus (exact look_of rfl)))))
    | refine R.regs rfl ?_
    | refine R.regsL rfl ?_
    | refine R.regsT rfl ?_
    | refine R.seq ?_
    | refine R.region rfl ?_
    | refine R.block ?_
    | exact rfl
  refine R.loop (fun m e H => ∃ (k : Nat), e = [(0, .ptr 0 0 0), (1, .p (.int .i64 k)), (2, .p (.fn f [] []))] ∧ H = .box 0 (.p (.str text) :: cells) :: rest ∧ k ≤ text.length ∧ m = text.length - k ∧ runL p text k = runL p text i) (text.length - i)
    ⟨i, rfl, rfl, hi, rfl, rfl⟩ ?_
  rintro m e H ⟨k, rfl, rfl, h2, rfl, hr⟩
  by_cases hlt : (k : Int) < text.length
  · obtain ⟨b, hb⟩ : ∃ b, text[k]? = some b := ⟨text[k]'(by omega), by simp⟩
    rw [runL_step hb] at hr
    have hpb := hp b
    by_cases hpp : p b = true
    · rw [hpp] at hpb
      rw [if_pos hpp] at hr
      repeat' first
        | with_reducible apply M.free
        | with_reducible apply M.done
        | ((with_reducible apply F.move); exact rfl; exact rfl)
        | ((with_reducible apply F.load); exact rfl; exact rfl; exact rfl)
        | ((with_reducible apply F.cmp); exact rfl; exact rfl; exact rfl; exact rfl)
        | ((with_reducible apply F.assign); exact rfl; exact rfl)
        | ((with_reducible apply F.fieldAddr); exact rfl; exact rfl; exact rfl)
        | ((with_reducible apply F.len); exact rfl; exact rfl; exact rfl; exact rfl)
        | ((with_reducible apply F.nilCheck); exact rfl; exact rfl; exact rfl)
        | ((with_reducible apply F.pickT); exact rfl; exact rfl; exact rfl)
        | ((with_reducible apply F.pickF); exact rfl; exact rfl; exact rfl)
        | ((first | ((with_reducible apply F.add); exact rfl; exact rfl; exact rfl) | ((with_reducible apply F.adds); exact rfl; exact rfl; exact rfl)); (focus (first | omega | (simp only [List.length_cons, List.length_nil, List.length_append, List.length_take, List.length_drop]; omega))))
        | ((with_reducible apply R.regs); exact rfl)
        | ((with_reducible apply R.regsL); exact rfl)
        | ((with_reducible apply Lv.of); (focus (repeat' (first | exact Kp.nil | (apply Kp.cons; exact rfl)))))
        | ((with_reducible apply F.call0); exact rfl; exact rfl; (focus (repeat' (first | exact Evs.nil | (apply Evs.cons; exact rfl)))); exact rfl; (focus (first | exact hpb)))
        | ((first | (with_reducible apply R.cond) | ((with_reducible apply M.guard); exact rfl)); (focus (first | (refine Eq.trans (look_of rfl) ?_; first | (simp only [decide_true, decide_false, Bool.not_true, Bool.not_false, *, hb] <;> rfl) | exact rfl) | exact look_of rfl)))
        | refine imp_yes rfl ?_
        | exact imp_no rfl
        | with_reducible apply R.seq
        | ((with_reducible apply R.region); exact rfl)
        | ((with_reducible apply R.regionL); exact rfl)
        | with_reducible apply E.seqN
        | with_reducible apply E.seqX
        | with_reducible apply E.seqR
        | with_reducible apply E.blkN
        | with_reducible apply E.blkR
        | ((with_reducible apply E.blkX); exact rfl)
        | ((with_reducible apply E.blkO); exact rfl)
        | with_reducible apply R.skip
        | with_reducible apply R.ret
        | with_reducible apply R.block
        | with_reducible apply R.exit
        | ((first | ((with_reducible apply F.loadS); exact rfl; exact rfl; exact rfl)); (focus (simp (disch := first | assumption | omega | (simp only [List.length_cons, List.length_nil, List.length_append, List.length_take, List.length_drop]; omega)) only [LS, storeV, loadV, partV, partP, cut, over, mkAgg, allP, asP, V.cells, PC, elDiv, elMod, elDiv0, Nat.mul_mod_left, Int.toNat_zero, Int.reduceToNat, *, hb] <;> rfl)))
        | ((first | ((with_reducible apply F.len); exact rfl; exact rfl; exact rfl)); (focus (simp (disch := first | assumption | omega | (simp only [List.length_cons, List.length_nil, List.length_append, List.length_take, List.length_drop]; omega)) only [LS, lenV_L, idx_L, below_at, Int.toNat_zero, Int.reduceToNat, *, hb] <;> rfl)))
        | ((first | ((with_reducible apply F.index); exact rfl; exact rfl; exact rfl; exact rfl) | ((with_reducible apply F.fieldAddrS); exact rfl; exact rfl; exact rfl) | ((with_reducible apply F.bin); exact rfl; exact rfl; exact rfl; exact rfl)); (focus (simp (disch := first | assumption | omega | (simp only [List.length_cons, List.length_nil, List.length_append, List.length_take, List.length_drop]; omega)) only [LS, indexAddrV, indexV, below_at, fieldV, fieldAddrV, convP, bytesOf, sliceV, bounds, bMax, bHi, bLo, upTo_at, makeFuncV, partV, partP, cut, binI, binS, binV, binP, arith, strOp_add, strOp_eql, strOp_neq, eqn, wrap64, wrap8, mkAgg, allP, asP, Option.getD_none, Int.toNat_zero, Int.reduceToNat, *, hb] <;> rfl)))
        | ((with_reducible apply F.pickT'); exact rfl; exact rfl; (focus (simp only [decide_true, decide_false, Bool.not_true, Bool.not_false, List.toList_toArray, *, hb]; done)); exact rfl)
        | ((with_reducible apply F.pickF'); exact rfl; exact rfl; (focus (simp only [decide_true, decide_false, Bool.not_true, Bool.not_false, List.toList_toArray, *, hb]; done)); exact rfl)
        | (intro hc; (try rw [hc]); (try simp only [decide_eq_true_eq, decide_eq_false_iff_not, Bool.not_eq_eq_eq_not, Bool.not_true, Bool.not_false] at hc); (try (exfalso; omega)))
        | ((with_reducible apply E.r0); exact rfl; exact rfl)
        | ((first | ((with_reducible apply E.r1); exact rfl; exact rfl; (focus (exact look_of rfl))) | ((with_reducible apply E.rF1); exact rfl; exact rfl; (focus (exact look_of rfl))) | ((with_reducible apply E.rP1); exact rfl; exact rfl; (focus (exact look_of rfl))) | ((with_reducible apply E.r2); exact rfl; exact rfl; (focus (exact look_of rfl)); (focus (exact look_of rfl))) | ((with_reducible apply E.rF2); exact rfl; exact rfl; (focus (exact look_of rfl)); (focus (exact look_of rfl))) | ((with_reducible apply E.rP2); exact rfl; exact rfl; (focus (exact look_of rfl)); (focus (exact look_of rfl))) | ((with_reducible apply E.r3); exact rfl; exact rfl; (focus (exact look_of rfl)); (focus (exact look_of rfl)); (focus (exact look_of rfl))) | ((with_reducible apply E.rF3); exact rfl; exact rfl; (focus (exact look_of rfl)); (focus (exact look_of rfl)); (focus (exact look_of rfl))) | ((with_reducible apply E.rP3); exact rfl; exact rfl; (focus (exact look_of rfl)); (focus (exact look_of rfl)); (focus (exact look_of rfl)))))
        | refine R.regs rfl ?_
        | refine R.regsL rfl ?_
        | refine R.regsT rfl ?_
        | refine R.seq ?_
        | refine R.region rfl ?_
        | refine R.block ?_
        | exact rfl
      all_goals exact ⟨text.length - (k + 1), by omega, k + 1, rfl, rfl, by omega, rfl, hr⟩
    · have hpp : p b = false := by simpa using hpp
      rw [hpp] at hpb
      rw [hpp, if_neg (by decide)] at hr
      rw [← hr]
      clear hr
      repeat' first
        | with_reducible apply M.free
        | with_reducible apply M.done
        | ((with_reducible apply F.move); exact rfl; exact rfl)
        | ((with_reducible apply F.load); exact rfl; exact rfl; exact rfl)
        | ((with_reducible apply F.cmp); exact rfl; exact rfl; exact rfl; exact rfl)
        | ((with_reducible apply F.assign); exact rfl; exact rfl)
        | ((with_reducible apply F.fieldAddr); exact rfl; exact rfl; exact rfl)
        | ((with_reducible apply F.len); exact rfl; exact rfl; exact rfl; exact rfl)
        | ((with_reducible apply F.nilCheck); exact rfl; exact rfl; exact rfl)
        | ((with_reducible apply F.pickT); exact rfl; exact rfl; exact rfl)
        | ((with_reducible apply F.pickF); exact rfl; exact rfl; exact rfl)
        | ((first | ((with_reducible apply F.add); exact rfl; exact rfl; exact rfl) | ((with_reducible apply F.adds); exact rfl; exact rfl; exact rfl)); (focus (first | omega | (simp only [List.length_cons, List.length_nil, List.length_append, List.length_take, List.length_drop]; omega))))
        | ((with_reducible apply R.regs); exact rfl)
        | ((with_reducible apply R.regsL); exact rfl)
        | ((with_reducible apply Lv.of); (focus (repeat' (first | exact Kp.nil | (apply Kp.cons; exact rfl)))))
        | ((with_reducible apply F.call0); exact rfl; exact rfl; (focus (repeat' (first | exact Evs.nil | (apply Evs.cons; exact rfl)))); exact rfl; (focus (first | exact hpb)))
        | ((first | (with_reducible apply R.cond) | ((with_reducible apply M.guard); exact rfl)); (focus (first | (refine Eq.trans (look_of rfl) ?_; first | (simp only [decide_true, decide_false, Bool.not_true, Bool.not_false, *, hb] <;> rfl) | exact rfl) | exact look_of rfl)))
        | refine imp_yes rfl ?_
        | exact imp_no rfl
        | with_reducible apply R.seq
        | ((with_reducible apply R.region); exact rfl)
        | ((with_reducible apply R.regionL); exact rfl)
        | with_reducible apply E.seqN
        | with_reducible apply E.seqX
        | with_reducible apply E.seqR
        | with_reducible apply E.blkN
        | with_reducible apply E.blkR
        | ((with_reducible apply E.blkX); exact rfl)
        | ((with_reducible apply E.blkO); exact rfl)
        | with_reducible apply R.skip
        | with_reducible apply R.ret
        | with_reducible apply R.block
        | with_reducible apply R.exit
        | ((first | ((with_reducible apply F.loadS); exact rfl; exact rfl; exact rfl)); (focus (simp (disch := first | assumption | omega | (simp only [List.length_cons, List.length_nil, List.length_append, List.length_take, List.length_drop]; omega)) only [LS, storeV, loadV, partV, partP, cut, over, mkAgg, allP, asP, V.cells, PC, elDiv, elMod, elDiv0, Nat.mul_mod_left, Int.toNat_zero, Int.reduceToNat, *, hb] <;> rfl)))
        | ((first | ((with_reducible apply F.len); exact rfl; exact rfl; exact rfl)); (focus (simp (disch := first | assumption | omega | (simp only [List.length_cons, List.length_nil, List.length_append, List.length_take, List.length_drop]; omega)) only [LS, lenV_L, idx_L, below_at, Int.toNat_zero, Int.reduceToNat, *, hb] <;> rfl)))
        | ((first | ((with_reducible apply F.index); exact rfl; exact rfl; exact rfl; exact rfl) | ((with_reducible apply F.fieldAddrS); exact rfl; exact rfl; exact rfl) | ((with_reducible apply F.bin); exact rfl; exact rfl; exact rfl; exact rfl)); (focus (simp (disch := first | assumption | omega | (simp only [List.length_cons, List.length_nil, List.length_append, List.length_take, List.length_drop]; omega)) only [LS, indexAddrV, indexV, below_at, fieldV, fieldAddrV, convP, bytesOf, sliceV, bounds, bMax, bHi, bLo, upTo_at, makeFuncV, partV, partP, cut, binI, binS, binV, binP, arith, strOp_add, strOp_eql, strOp_neq, eqn, wrap64, wrap8, mkAgg, allP, asP, Option.getD_none, Int.toNat_zero, Int.reduceToNat, *, hb] <;> rfl)))
        | ((with_reducible apply F.pickT'); exact rfl; exact rfl; (focus (simp only [decide_true, decide_false, Bool.not_true, Bool.not_false, List.toList_toArray, *, hb]; done)); exact rfl)
        | ((with_reducible apply F.pickF'); exact rfl; exact rfl; (focus (simp only [decide_true, decide_false, Bool.not_true, Bool.not_false, List.toList_toArray, *, hb]; done)); exact rfl)
        | (intro hc; (try rw [hc]); (try simp only [decide_eq_true_eq, decide_eq_false_iff_not, Bool.not_eq_eq_eq_not, Bool.not_true, Bool.not_false] at hc); (try (exfalso; omega)))
        | ((with_reducible apply E.r0); exact rfl; exact rfl)
        | ((first | ((with_reducible apply E.r1); exact rfl; exact rfl; (focus (exact look_of rfl))) | ((with_reducible apply E.rF1); exact rfl; exact rfl; (focus (exact look_of rfl))) | ((with_reducible apply E.rP1); exact rfl; exact rfl; (focus (exact look_of rfl))) | ((with_reducible apply E.r2); exact rfl; exact rfl; (focus (exact look_of rfl)); (focus (exact look_of rfl))) | ((with_reducible apply E.rF2); exact rfl; exact rfl; (focus (exact look_of rfl)); (focus (exact look_of rfl))) | ((with_reducible apply E.rP2); exact rfl; exact rfl; (focus (exact look_of rfl)); (focus (exact look_of rfl))) | ((with_reducible apply E.r3); exact rfl; exact rfl; (focus (exact look_of rfl)); (focus (exact look_of rfl)); (focus (exact look_of rfl))) | ((with_reducible apply E.rF3); exact rfl; exact rfl; (focus (exact look_of rfl)); (focus (exact look_of rfl)); (focus (exact look_of rfl))) | ((with_reducible apply E.rP3); exact rfl; exact rfl; (focus (exact look_of rfl)); (focus (exact look_of rfl)); (focus (exact look_of rfl)))))
        | refine R.regs rfl ?_
        | refine R.regsL rfl ?_
        | refine R.regsT rfl ?_
        | refine R.seq ?_
        | refine R.region rfl ?_
        | refine R.block ?_
        | exact rfl
  · rw [runL_end (by omega)] at hr
    rw [← hr]
    clear hr
    repeat' first
      | with_reducible apply M.free
      | with_reducible apply M.done
      | ((with_reducible apply F.move); exact rfl; exact rfl)
      | ((with_reducible apply F.load); exact rfl; exact rfl; exact rfl)
      | ((with_reducible apply F.cmp); exact rfl; exact rfl; exact rfl; exact rfl)
      | ((with_reducible apply F.assign); exact rfl; exact rfl)
      | ((with_reducible apply F.fieldAddr); exact rfl; exact rfl; exact rfl)
      | ((with_reducible apply F.len); exact rfl; exact rfl; exact rfl; exact rfl)
      | ((with_reducible apply F.nilCheck); exact rfl; exact rfl; exact rfl)
      | ((with_reducible apply F.pickT); exact rfl; exact rfl; exact rfl)
      | ((with_reducible apply F.pickF); exact rfl; exact rfl; exact rfl)
      | ((first | ((with_reducible apply F.add); exact rfl; exact rfl; exact rfl) | ((with_reducible apply F.adds); exact rfl; exact rfl; exact rfl)); (focus (first | omega | (simp only [List.length_cons, List.length_nil, List.length_append, List.length_take, List.length_drop]; omega))))
      | ((with_reducible apply R.regs); exact rfl)
      | ((with_reducible apply R.regsL); exact rfl)
      | ((with_reducible apply Lv.of); (focus (repeat' (first | exact Kp.nil | (apply Kp.cons; exact rfl)))))
      | ((first | (with_reducible apply R.cond) | ((with_reducible apply M.guard); exact rfl)); (focus (first | (refine Eq.trans (look_of rfl) ?_; first | (simp only [decide_true, decide_false, Bool.not_true, Bool.not_false, *] <;> rfl) | exact rfl) | exact look_of rfl)))
      | refine imp_yes rfl ?_
      | exact imp_no rfl
      | with_reducible apply R.seq
      | ((with_reducible apply R.region); exact rfl)
      | ((with_reducible apply R.regionL); exact rfl)
      | with_reducible apply E.seqN
      | with_reducible apply E.seqX
      | with_reducible apply E.seqR
      | with_reducible apply E.blkN
      | with_reducible apply E.blkR
      | ((with_reducible apply E.blkX); exact rfl)
      | ((with_reducible apply E.blkO); exact rfl)
      | with_reducible apply R.skip
      | with_reducible apply R.ret
      | with_reducible apply R.block
      | with_reducible apply R.exit
      | ((first | ((with_reducible apply F.loadS); exact rfl; exact rfl; exact rfl)); (focus (simp (disch := first | assumption | omega | (simp only [List.length_cons, List.length_nil, List.length_append, List.length_take, List.length_drop]; omega)) only [LS, storeV, loadV, partV, partP, cut, over, mkAgg, allP, asP, V.cells, PC, elDiv, elMod, elDiv0, Nat.mul_mod_left, Int.toNat_zero, Int.reduceToNat, *] <;> rfl)))
      | ((first | ((with_reducible apply F.len); exact rfl; exact rfl; exact rfl)); (focus (simp (disch := first | assumption | omega | (simp only [List.length_cons, List.length_nil, List.length_append, List.length_take, List.length_drop]; omega)) only [LS, lenV_L, idx_L, below_at, Int.toNat_zero, Int.reduceToNat, *] <;> rfl)))
      | ((first | ((with_reducible apply F.index); exact rfl; exact rfl; exact rfl; exact rfl) | ((with_reducible apply F.fieldAddrS); exact rfl; exact rfl; exact rfl) | ((with_reducible apply F.bin); exact rfl; exact rfl; exact rfl; exact rfl)); (focus (simp (disch := first | assumption | omega | (simp only [List.length_cons, List.length_nil, List.length_append, List.length_take, List.length_drop]; omega)) only [LS, indexAddrV, indexV, below_at, fieldV, fieldAddrV, convP, bytesOf, sliceV, bounds, bMax, bHi, bLo, upTo_at, makeFuncV, partV, partP, cut, binI, binS, binV, binP, arith, strOp_add, strOp_eql, strOp_neq, eqn, wrap64, wrap8, mkAgg, allP, asP, Option.getD_none, Int.toNat_zero, Int.reduceToNat, *] <;> rfl)))
      | ((with_reducible apply F.pickT'); exact rfl; exact rfl; (focus (simp only [decide_true, decide_false, Bool.not_true, Bool.not_false, List.toList_toArray, *]; done)); exact rfl)
      | ((with_reducible apply F.pickF'); exact rfl; exact rfl; (focus (simp only [decide_true, decide_false, Bool.not_true, Bool.not_false, List.toList_toArray, *]; done)); exact rfl)
      | (intro hc; (try rw [hc]); (try simp only [decide_eq_true_eq, decide_eq_false_iff_not, Bool.not_eq_eq_eq_not, Bool.not_true, Bool.not_false] at hc); (try (exfalso; omega)))
      | ((with_reducible apply E.r0); exact rfl; exact rfl)
      | ((first | ((with_reducible apply E.r1); exact rfl; exact rfl; (focus (exact look_of rfl))) | ((with_reducible apply E.rF1); exact rfl; exact rfl; (focus (exact look_of rfl))) | ((with_reducible apply E.rP1); exact rfl; exact rfl; (focus (exact look_of rfl))) | ((with_reducible apply E.r2); exact rfl; exact rfl; (focus (exact look_of rfl)); (focus (exact look_of rfl))) | ((with_reducible apply E.rF2); exact rfl; exact rfl; (focus (exact look_of rfl)); (focus (exact look_of rfl))) | ((with_reducible apply E.rP2); exact rfl; exact rfl; (focus (exact look_of rfl)); (focus (exact look_of rfl))) | ((with_reducible apply E.r3); exact rfl; exact rfl; (focus (exact look_of rfl)); (focus (exact look_of rfl)); (focus (exact look_of rfl))) | ((with_reducible apply E.rF3); exact rfl; exact rfl; (focus (exact look_of rfl)); (focus (exact look_of rfl)); (focus (exact look_of rfl))) | ((with_reducible apply E.rP3); exact rfl; exact rfl; (focus (exact look_of rfl)); (focus (exact look_of rfl)); (focus (exact look_of rfl)))))
      | refine R.regs rfl ?_
      | refine R.regsL rfl ?_
      | refine R.regsT rfl ?_
      | refine R.seq ?_
      | refine R.region rfl ?_
      | refine R.block ?_
      | exact rfl
/-- The reader's object: its text, where its word begins and ends, its word; the names, their number; its code's slice; what is wrong and where. -/
structure Rd where
  at' : Nat
  next : Nat
  word : List UInt8
  e : Int
  bad : Nat
def Rd.ob (text : List UInt8) (y : Pv) (args : Int) (cv : V) (r : Rd) : Ob := .box 0 [.p (.str text), .p (.int .i64 r.at'), .p (.int .i64 r.next), .p (.str r.word), .p y, .p (.int .i64 args), cv, .p (.int .i64 r.e), .p (.int .i64 r.bad)]
def failF (k : Nat) (e : Int) (r : Rd) : Rd := if r.e = 0 then { r with e := e, bad := k, word := [] } else { r with word := [] }
theorem fail_run (text : List UInt8) (y : Pv) (args : Int) (cv : V) (r : Rd) (k : Nat) (e : Int) (rest : Hp) :
    CV cx 35 [.ptr 0 0 0, .p (.int .i64 k), .p (.int .i64 e)] (r.ob text y args cv :: rest) (.p (.tup [])) ((failF k e r).ob text y args cv :: rest) := by
  refine CV.run cxF35 rfl ?_
  obtain ⟨at', next, word, e0, bad⟩ := r
  simp only [args0, Nat.zero_add, Nat.reduceAdd, Rd.ob, failF]
  by_cases he : e0 = 0
  · subst he
    repeat' first
      | with_reducible apply M.free
      | with_reducible apply M.done
      | ((with_reducible apply F.move); exact rfl; exact rfl)
      | ((with_reducible apply F.load); exact rfl; exact rfl; exact rfl)
      | ((with_reducible apply F.cmp); exact rfl; exact rfl; exact rfl; exact rfl)
      | ((with_reducible apply F.fieldAddr); exact rfl; exact rfl; exact rfl)
      | ((with_reducible apply F.nilCheck); exact rfl; exact rfl; exact rfl)
      | ((with_reducible apply F.cmpS); exact rfl; exact rfl; exact rfl; exact rfl)
      | ((with_reducible apply R.regs); exact rfl)
      | ((first | (with_reducible apply R.cond) | ((with_reducible apply M.guard); exact rfl)); (focus (first | (refine Eq.trans (look_of rfl) ?_; first | (simp only [decide_true, decide_false, Bool.not_true, Bool.not_false, *] <;> rfl) | exact rfl) | exact look_of rfl)))
      | refine imp_yes rfl ?_
      | exact imp_no rfl
      | with_reducible apply R.seq
      | ((with_reducible apply R.region); exact rfl)
      | with_reducible apply E.seqN
      | with_reducible apply E.seqX
      | with_reducible apply E.seqR
      | with_reducible apply R.skip
      | with_reducible apply R.ret
      | ((first | ((with_reducible apply F.store); exact rfl; exact rfl; exact rfl; exact rfl) | ((with_reducible apply F.loadS); exact rfl; exact rfl; exact rfl)); (focus (simp (disch := first | assumption | omega | (simp only [List.length_cons, List.length_nil, List.length_append, List.length_take, List.length_drop]; omega)) only [LS, storeV, loadV, partV, partP, cut, over, mkAgg, allP, asP, V.cells, PC, elDiv, elMod, elDiv0, Nat.mul_mod_left, Int.toNat_zero, Int.reduceToNat, *] <;> rfl)))
      | ((first | ((with_reducible apply F.fieldAddrS); exact rfl; exact rfl; exact rfl) | ((with_reducible apply F.bin); exact rfl; exact rfl; exact rfl; exact rfl)); (focus (simp (disch := first | assumption | omega | (simp only [List.length_cons, List.length_nil, List.length_append, List.length_take, List.length_drop]; omega)) only [LS, indexAddrV, indexV, below_at, fieldV, fieldAddrV, convP, bytesOf, sliceV, bounds, bMax, bHi, bLo, upTo_at, makeFuncV, partV, partP, cut, binI, binS, binV, binP, arith, strOp_add, strOp_eql, strOp_neq, eqn, wrap64, wrap8, mkAgg, allP, asP, Option.getD_none, Int.toNat_zero, Int.reduceToNat, *] <;> rfl)))
      | (intro hc; (try rw [hc]); (try simp only [decide_eq_true_eq, decide_eq_false_iff_not, Bool.not_eq_eq_eq_not, Bool.not_true, Bool.not_false] at hc); (try (exfalso; omega)))
      | ((with_reducible apply E.r0); exact rfl; exact rfl)
      | ((first | ((with_reducible apply E.r1); exact rfl; exact rfl; (focus (exact look_of rfl))) | ((with_reducible apply E.rF1); exact rfl; exact rfl; (focus (exact look_of rfl))) | ((with_reducible apply E.rP1); exact rfl; exact rfl; (focus (exact look_of rfl))) | ((with_reducible apply E.r2); exact rfl; exact rfl; (focus (exact look_of rfl)); (focus (exact look_of rfl))) | ((with_reducible apply E.rF2); exact rfl; exact rfl; (focus (exact look_of rfl)); (focus (exact look_of rfl))) | ((with_reducible apply E.rP2); exact rfl; exact rfl; (focus (exact look_of rfl)); (focus (exact look_of rfl))) | ((with_reducible apply E.r3); exact rfl; exact rfl; (focus (exact look_of rfl)); (focus (exact look_of rfl)); (focus (exact look_of rfl))) | ((with_reducible apply E.rF3); exact rfl; exact rfl; (focus (exact look_of rfl)); (focus (exact look_of rfl)); (focus (exact look_of rfl))) | ((with_reducible apply E.rP3); exact rfl; exact rfl; (focus (exact look_of rfl)); (focus (exact look_of rfl)); (focus (exact look_of rfl)))))
      | refine R.regs rfl ?_
      | refine R.regsL rfl ?_
      | refine R.regsT rfl ?_
      | refine R.seq ?_
      | refine R.region rfl ?_
      | refine R.block ?_
      | exact rfl
  · simp only [if_neg he]
    repeat' first
      | with_reducible apply M.free
      | with_reducible apply M.done
      | ((with_reducible apply F.move); exact rfl; exact rfl)
      | ((with_reducible apply F.load); exact rfl; exact rfl; exact rfl)
      | ((with_reducible apply F.cmp); exact rfl; exact rfl; exact rfl; exact rfl)
      | ((with_reducible apply F.fieldAddr); exact rfl; exact rfl; exact rfl)
      | ((with_reducible apply F.nilCheck); exact rfl; exact rfl; exact rfl)
      | ((with_reducible apply F.cmpS); exact rfl; exact rfl; exact rfl; exact rfl)
      | ((with_reducible apply R.regs); exact rfl)
      | ((first | (with_reducible apply R.cond) | ((with_reducible apply M.guard); exact rfl)); (focus (first | (refine Eq.trans (look_of rfl) ?_; first | (simp only [decide_true, decide_false, Bool.not_true, Bool.not_false, *] <;> rfl) | exact rfl) | exact look_of rfl)))
      | refine imp_yes rfl ?_
      | exact imp_no rfl
      | with_reducible apply R.seq
      | ((with_reducible apply R.region); exact rfl)
      | with_reducible apply E.seqN
      | with_reducible apply E.seqX
      | with_reducible apply E.seqR
      | with_reducible apply R.skip
      | with_reducible apply R.ret
      | ((first | ((with_reducible apply F.store); exact rfl; exact rfl; exact rfl; exact rfl) | ((with_reducible apply F.loadS); exact rfl; exact rfl; exact rfl)); (focus (simp (disch := first | assumption | omega | (simp only [List.length_cons, List.length_nil, List.length_append, List.length_take, List.length_drop]; omega)) only [LS, storeV, loadV, partV, partP, cut, over, mkAgg, allP, asP, V.cells, PC, elDiv, elMod, elDiv0, Nat.mul_mod_left, Int.toNat_zero, Int.reduceToNat, *] <;> rfl)))
      | ((first | ((with_reducible apply F.fieldAddrS); exact rfl; exact rfl; exact rfl) | ((with_reducible apply F.bin); exact rfl; exact rfl; exact rfl; exact rfl)); (focus (simp (disch := first | assumption | omega | (simp only [List.length_cons, List.length_nil, List.length_append, List.length_take, List.length_drop]; omega)) only [LS, indexAddrV, indexV, below_at, fieldV, fieldAddrV, convP, bytesOf, sliceV, bounds, bMax, bHi, bLo, upTo_at, makeFuncV, partV, partP, cut, binI, binS, binV, binP, arith, strOp_add, strOp_eql, strOp_neq, eqn, wrap64, wrap8, mkAgg, allP, asP, Option.getD_none, Int.toNat_zero, Int.reduceToNat, *] <;> rfl)))
      | (intro hc; (try rw [hc]); (try simp only [decide_eq_true_eq, decide_eq_false_iff_not, Bool.not_eq_eq_eq_not, Bool.not_true, Bool.not_false] at hc); (try (exfalso; omega)))
      | ((with_reducible apply E.r0); exact rfl; exact rfl)
      | ((first | ((with_reducible apply E.r1); exact rfl; exact rfl; (focus (exact look_of rfl))) | ((with_reducible apply E.rF1); exact rfl; exact rfl; (focus (exact look_of rfl))) | ((with_reducible apply E.rP1); exact rfl; exact rfl; (focus (exact look_of rfl))) | ((with_reducible apply E.r2); exact rfl; exact rfl; (focus (exact look_of rfl)); (focus (exact look_of rfl))) | ((with_reducible apply E.rF2); exact rfl; exact rfl; (focus (exact look_of rfl)); (focus (exact look_of rfl))) | ((with_reducible apply E.rP2); exact rfl; exact rfl; (focus (exact look_of rfl)); (focus (exact look_of rfl))) | ((with_reducible apply E.r3); exact rfl; exact rfl; (focus (exact look_of rfl)); (focus (exact look_of rfl)); (focus (exact look_of rfl))) | ((with_reducible apply E.rF3); exact rfl; exact rfl; (focus (exact look_of rfl)); (focus (exact look_of rfl)); (focus (exact look_of rfl))) | ((with_reducible apply E.rP3); exact rfl; exact rfl; (focus (exact look_of rfl)); (focus (exact look_of rfl)); (focus (exact look_of rfl)))))
      | refine R.regs rfl ?_
      | refine R.regsL rfl ?_
      | refine R.regsT rfl ?_
      | refine R.seq ?_
      | refine R.region rfl ?_
      | refine R.block ?_
      | exact rfl
def sym (c : UInt8) : Bool := decide ((c.toNat : Int) = 43) || (decide ((c.toNat : Int) = 45) || (decide ((c.toNat : Int) = 42) || (decide ((c.toNat : Int) = 33) || (decide ((c.toNat : Int) = 38) || (decide ((c.toNat : Int) = 124) || (decide ((c.toNat : Int) = 60) || (decide ((c.toNat : Int) = 61) || (decide ((c.toNat : Int) = 40) || (decide ((c.toNat : Int) = 41) || decide ((c.toNat : Int) = 44))))))))))
def isEq (o : Option UInt8) : Bool := match o with
  | some b => decide ((b.toNat : Int) = 61)
  | none => false
def isDg (o : Option UInt8) : Bool := match o with
  | some b => dg b.toNat
  | none => false
/-- The word that begins with a byte that is no blank: its end; none: no word does. -/
def wordEnd (text : List UInt8) (i : Nat) (c : UInt8) : Option Nat :=
  if lt c.toNat = true then some (runL nm text i)
  else if dg c.toNat = true then some (runL (fun c => dg c.toNat) text i)
  else if (c.toNat : Int) = 36 then (if isDg text[i + 1]? = true then some (i + 2) else none)
  else if (c.toNat : Int) = 60 ∧ isEq text[i + 1]? = true then some (i + 2)
  else if sym c = true then some (i + 1)
  else none
def blank (c : UInt8) : Bool := decide ((c.toNat : Int) = 32)
def stepF (text : List UInt8) (r : Rd) : Rd :=
  if r.e ≠ 0 then r
  else
    let i := runL blank text r.next
    match text[i]? with
    | none => { r with at' := i, next := i, word := [] }
    | some c => match wordEnd text i c with
      | some j => { r with at' := i, next := j, word := (text.drop i).take (j - i) }
      | none => failF i 6 { r with at' := i, next := i, word := [] }
set_option maxHeartbeats 2000000 in
theorem step_run (text : List UInt8) (ht : text.length ≤ 1000000) (y : Pv) (args : Int) (cv : V) (r : Rd) (hr : r.next ≤ text.length) (rest : Hp) :
    CV cx 33 [.ptr 0 0 0] (r.ob text y args cv :: rest) (.p (.tup [])) ((stepF text r).ob text y args cv :: rest) := by
  refine CV.run cxF33 rfl ?_
  have hrun1 := fun i cells rest hi => run_run _ blank (fun c => (blank_run c).fv) text (by omega) i hi cells rest
  have hrun2 := fun i cells rest hi => run_run _ nm (fun c => (nm_run c).fv) text (by omega) i hi cells rest
  have hrun3 := fun i cells rest hi => run_run _ (fun c => dg c.toNat) (fun c => (digit_run c.toNat).fv) text (by omega) i hi cells rest
  obtain ⟨at', next, word, e0, bad⟩ := r
  simp only [args0, Nat.zero_add, Nat.reduceAdd, Rd.ob, stepF]
  by_cases he : e0 = 0
  rotate_left 1
  · simp only [ne_eq, he, not_false_eq_true, if_true]
    repeat' first
      | with_reducible apply M.free
      | with_reducible apply M.done
      | ((with_reducible apply F.move); exact rfl; exact rfl)
      | ((with_reducible apply F.load); exact rfl; exact rfl; exact rfl)
      | ((with_reducible apply F.cmp); exact rfl; exact rfl; exact rfl; exact rfl)
      | ((with_reducible apply F.assign); exact rfl; exact rfl)
      | ((with_reducible apply F.fieldAddr); exact rfl; exact rfl; exact rfl)
      | ((with_reducible apply F.len); exact rfl; exact rfl; exact rfl; exact rfl)
      | ((with_reducible apply F.nilCheck); exact rfl; exact rfl; exact rfl)
      | ((with_reducible apply F.pickT); exact rfl; exact rfl; exact rfl)
      | ((with_reducible apply F.pickF); exact rfl; exact rfl; exact rfl)
      | ((with_reducible apply F.cmpS); exact rfl; exact rfl; exact rfl; exact rfl)
      | ((first | ((with_reducible apply F.add); exact rfl; exact rfl; exact rfl) | ((with_reducible apply F.adds); exact rfl; exact rfl; exact rfl)); (focus (first | omega | (simp only [List.length_cons, List.length_nil, List.length_append, List.length_take, List.length_drop]; omega))))
      | ((with_reducible apply R.regs); exact rfl)
      | ((first | (with_reducible apply R.cond) | ((with_reducible apply M.guard); exact rfl)); (focus (first | (refine Eq.trans (look_of rfl) ?_; first | (simp only [decide_true, decide_false, Bool.not_true, Bool.not_false, *] <;> rfl) | exact rfl) | exact look_of rfl)))
      | refine imp_yes rfl ?_
      | exact imp_no rfl
      | with_reducible apply R.seq
      | ((with_reducible apply R.region); exact rfl)
      | with_reducible apply E.seqN
      | with_reducible apply E.seqX
      | with_reducible apply E.seqR
      | with_reducible apply E.blkN
      | with_reducible apply E.blkR
      | ((with_reducible apply E.blkX); exact rfl)
      | ((with_reducible apply E.blkO); exact rfl)
      | with_reducible apply R.skip
      | with_reducible apply R.ret
      | with_reducible apply R.block
      | ((first | ((with_reducible apply F.store); exact rfl; exact rfl; exact rfl; exact rfl) | ((with_reducible apply F.loadS); exact rfl; exact rfl; exact rfl) | ((with_reducible apply F.load2); exact rfl; exact rfl; exact rfl)); (focus (simp (disch := first | assumption | omega | (simp only [List.length_cons, List.length_nil, List.length_append, List.length_take, List.length_drop]; omega)) only [LS, storeV, loadV, partV, partP, cut, over, mkAgg, allP, asP, V.cells, PC, elDiv, elMod, elDiv0, Nat.mul_mod_left, Int.toNat_zero, Int.reduceToNat, *] <;> rfl)))
      | ((first | ((with_reducible apply F.append3); exact rfl; exact rfl; exact rfl; exact rfl; exact rfl; exact rfl; exact rfl; exact rfl)); (focus (simp (disch := first | assumption | omega | (simp only [List.length_cons, List.length_nil, List.length_append, List.length_take, List.length_drop]; omega)) only [LS, buildV, fillV, over, buildSliceV, elemsOf, appendV, elems, arrAt, cut, roomy, mkAgg, allP, asP, V.cells, PC, Int.toNat_zero, Int.reduceToNat, *] <;> rfl)))
      | ((first | ((with_reducible apply F.len); exact rfl; exact rfl; exact rfl)); (focus (simp (disch := first | assumption | omega | (simp only [List.length_cons, List.length_nil, List.length_append, List.length_take, List.length_drop]; omega)) only [LS, lenV_L, idx_L, below_at, Int.toNat_zero, Int.reduceToNat, *] <;> rfl)))
      | ((first | ((with_reducible apply F.index); exact rfl; exact rfl; exact rfl; exact rfl) | ((with_reducible apply F.slice); exact rfl; exact rfl; exact rfl; exact rfl; exact rfl; exact rfl) | ((with_reducible apply F.fieldAddrS); exact rfl; exact rfl; exact rfl) | ((with_reducible apply F.bin); exact rfl; exact rfl; exact rfl; exact rfl)); (focus (simp (disch := first | assumption | omega | (simp only [List.length_cons, List.length_nil, List.length_append, List.length_take, List.length_drop]; omega)) only [LS, indexAddrV, indexV, below_at, fieldV, fieldAddrV, convP, bytesOf, sliceV, bounds, bMax, bHi, bLo, upTo_at, makeFuncV, partV, partP, cut, binI, binS, binV, binP, arith, strOp_add, strOp_eql, strOp_neq, eqn, wrap64, wrap8, mkAgg, allP, asP, Option.getD_none, Int.toNat_zero, Int.reduceToNat, *] <;> rfl)))
      | ((first | ((with_reducible apply F.assignF); exact rfl; exact rfl) | ((with_reducible apply F.append2); exact rfl; exact rfl; exact rfl; exact rfl; exact rfl; exact rfl; exact rfl; exact rfl)); (focus (simp (disch := first | assumption | omega | (simp only [List.length_cons, List.length_nil, List.length_append, List.length_take, List.length_drop]; omega)) only [LS, frzCells, frz, markCells, mark, elems, arrAt, cut, allP, asP, appendV, V.cells, PC, roomy, Int.toNat_zero, Int.reduceToNat, *] <;> rfl)); (focus (simp (disch := first | assumption | omega | (simp only [List.length_cons, List.length_nil, List.length_append, List.length_take, List.length_drop]; omega)) only [LS, frzCells, frz, markCells, mark, elems, arrAt, cut, allP, asP, appendV, V.cells, PC, roomy, Int.toNat_zero, Int.reduceToNat, *] <;> rfl)))
      | ((with_reducible apply F.not); exact rfl; exact rfl; exact rfl)
      | ((with_reducible apply F.pickT'); exact rfl; exact rfl; (focus (simp only [decide_true, decide_false, Bool.not_true, Bool.not_false, List.toList_toArray, *]; done)); exact rfl)
      | ((with_reducible apply F.pickF'); exact rfl; exact rfl; (focus (simp only [decide_true, decide_false, Bool.not_true, Bool.not_false, List.toList_toArray, *]; done)); exact rfl)
      | (intro hc; (try rw [hc]); (try simp only [decide_eq_true_eq, decide_eq_false_iff_not, Bool.not_eq_eq_eq_not, Bool.not_true, Bool.not_false] at hc); (try (exfalso; omega)))
      | ((with_reducible apply E.r0); exact rfl; exact rfl)
      | ((first | ((with_reducible apply E.r1); exact rfl; exact rfl; (focus (exact look_of rfl))) | ((with_reducible apply E.rF1); exact rfl; exact rfl; (focus (exact look_of rfl))) | ((with_reducible apply E.rP1); exact rfl; exact rfl; (focus (exact look_of rfl))) | ((with_reducible apply E.r2); exact rfl; exact rfl; (focus (exact look_of rfl)); (focus (exact look_of rfl))) | ((with_reducible apply E.rF2); exact rfl; exact rfl; (focus (exact look_of rfl)); (focus (exact look_of rfl))) | ((with_reducible apply E.rP2); exact rfl; exact rfl; (focus (exact look_of rfl)); (focus (exact look_of rfl))) | ((with_reducible apply E.r3); exact rfl; exact rfl; (focus (exact look_of rfl)); (focus (exact look_of rfl)); (focus (exact look_of rfl))) | ((with_reducible apply E.rF3); exact rfl; exact rfl; (focus (exact look_of rfl)); (focus (exact look_of rfl)); (focus (exact look_of rfl))) | ((with_reducible apply E.rP3); exact rfl; exact rfl; (focus (exact look_of rfl)); (focus (exact look_of rfl)); (focus (exact look_of rfl)))))
      | refine R.regs rfl ?_
      | refine R.regsL rfl ?_
      | refine R.regsT rfl ?_
      | refine R.seq ?_
      | refine R.region rfl ?_
      | refine R.block ?_
      | exact rfl
  subst he
  simp only at hr
  have hr1 := hrun1 next
  obtain ⟨g1, g2⟩ := runL_le (p := blank) hr
  generalize runL blank text next = i at *
  simp only [ne_eq, not_true_eq_false, if_false]
  by_cases hi : i = text.length
  · subst hi
    have e : text[text.length]? = none := by simp
    simp only [e]
    clear e
    repeat' first
      | with_reducible apply M.free
      | with_reducible apply M.done
      | ((with_reducible apply F.move); exact rfl; exact rfl)
      | ((with_reducible apply F.load); exact rfl; exact rfl; exact rfl)
      | ((with_reducible apply F.cmp); exact rfl; exact rfl; exact rfl; exact rfl)
      | ((with_reducible apply F.assign); exact rfl; exact rfl)
      | ((with_reducible apply F.fieldAddr); exact rfl; exact rfl; exact rfl)
      | ((with_reducible apply F.len); exact rfl; exact rfl; exact rfl; exact rfl)
      | ((with_reducible apply F.nilCheck); exact rfl; exact rfl; exact rfl)
      | ((with_reducible apply F.pickT); exact rfl; exact rfl; exact rfl)
      | ((with_reducible apply F.pickF); exact rfl; exact rfl; exact rfl)
      | ((with_reducible apply F.cmpS); exact rfl; exact rfl; exact rfl; exact rfl)
      | ((first | ((with_reducible apply F.add); exact rfl; exact rfl; exact rfl) | ((with_reducible apply F.adds); exact rfl; exact rfl; exact rfl)); (focus (first | omega | (simp only [List.length_cons, List.length_nil, List.length_append, List.length_take, List.length_drop]; omega))))
      | ((with_reducible apply R.regs); exact rfl)
      | ((first | ((with_reducible apply F.call1); exact rfl; exact rfl; (focus (repeat' (first | exact Evs.nil | (apply Evs.cons; exact rfl))))) | ((with_reducible apply F.call1N); exact rfl; exact rfl; (focus (repeat' (first | exact Evs.nil | (apply Evs.cons; exact rfl))))) | ((with_reducible apply F.callC); exact rfl; exact rfl; (focus (repeat' (first | exact Evs.nil | (apply Evs.cons; exact rfl))))) | ((with_reducible apply F.callCN); exact rfl; exact rfl; (focus (repeat' (first | exact Evs.nil | (apply Evs.cons; exact rfl)))))); (focus (first | exact hr1 _ _ hr)))
      | ((first | (with_reducible apply R.cond) | ((with_reducible apply M.guard); exact rfl)); (focus (first | (refine Eq.trans (look_of rfl) ?_; first | (simp only [decide_true, decide_false, Bool.not_true, Bool.not_false, *] <;> rfl) | exact rfl) | exact look_of rfl)))
      | refine imp_yes rfl ?_
      | exact imp_no rfl
      | with_reducible apply R.seq
      | ((with_reducible apply R.region); exact rfl)
      | with_reducible apply E.seqN
      | with_reducible apply E.seqX
      | with_reducible apply E.seqR
      | with_reducible apply E.blkN
      | with_reducible apply E.blkR
      | ((with_reducible apply E.blkX); exact rfl)
      | ((with_reducible apply E.blkO); exact rfl)
      | with_reducible apply R.skip
      | with_reducible apply R.ret
      | with_reducible apply R.block
      | ((first | ((with_reducible apply F.store); exact rfl; exact rfl; exact rfl; exact rfl) | ((with_reducible apply F.loadS); exact rfl; exact rfl; exact rfl) | ((with_reducible apply F.load2); exact rfl; exact rfl; exact rfl)); (focus (simp (disch := first | assumption | omega | (simp only [List.length_cons, List.length_nil, List.length_append, List.length_take, List.length_drop]; omega)) only [LS, storeV, loadV, partV, partP, cut, over, mkAgg, allP, asP, V.cells, PC, elDiv, elMod, elDiv0, Nat.mul_mod_left, Int.toNat_zero, Int.reduceToNat, *] <;> rfl)))
      | ((first | ((with_reducible apply F.append3); exact rfl; exact rfl; exact rfl; exact rfl; exact rfl; exact rfl; exact rfl; exact rfl)); (focus (simp (disch := first | assumption | omega | (simp only [List.length_cons, List.length_nil, List.length_append, List.length_take, List.length_drop]; omega)) only [LS, buildV, fillV, over, buildSliceV, elemsOf, appendV, elems, arrAt, cut, roomy, mkAgg, allP, asP, V.cells, PC, Int.toNat_zero, Int.reduceToNat, *] <;> rfl)))
      | ((first | ((with_reducible apply F.len); exact rfl; exact rfl; exact rfl)); (focus (simp (disch := first | assumption | omega | (simp only [List.length_cons, List.length_nil, List.length_append, List.length_take, List.length_drop]; omega)) only [LS, lenV_L, idx_L, below_at, Int.toNat_zero, Int.reduceToNat, *] <;> rfl)))
      | ((first | ((with_reducible apply F.index); exact rfl; exact rfl; exact rfl; exact rfl) | ((with_reducible apply F.slice); exact rfl; exact rfl; exact rfl; exact rfl; exact rfl; exact rfl) | ((with_reducible apply F.fieldAddrS); exact rfl; exact rfl; exact rfl) | ((with_reducible apply F.bin); exact rfl; exact rfl; exact rfl; exact rfl)); (focus (simp (disch := first | assumption | omega | (simp only [List.length_cons, List.length_nil, List.length_append, List.length_take, List.length_drop]; omega)) only [LS, indexAddrV, indexV, below_at, fieldV, fieldAddrV, convP, bytesOf, sliceV, bounds, bMax, bHi, bLo, upTo_at, makeFuncV, partV, partP, cut, binI, binS, binV, binP, arith, strOp_add, strOp_eql, strOp_neq, eqn, wrap64, wrap8, mkAgg, allP, asP, Option.getD_none, Int.toNat_zero, Int.reduceToNat, *] <;> rfl)))
      | ((first | ((with_reducible apply F.assignF); exact rfl; exact rfl) | ((with_reducible apply F.append2); exact rfl; exact rfl; exact rfl; exact rfl; exact rfl; exact rfl; exact rfl; exact rfl)); (focus (simp (disch := first | assumption | omega | (simp only [List.length_cons, List.length_nil, List.length_append, List.length_take, List.length_drop]; omega)) only [LS, frzCells, frz, markCells, mark, elems, arrAt, cut, allP, asP, appendV, V.cells, PC, roomy, Int.toNat_zero, Int.reduceToNat, *] <;> rfl)); (focus (simp (disch := first | assumption | omega | (simp only [List.length_cons, List.length_nil, List.length_append, List.length_take, List.length_drop]; omega)) only [LS, frzCells, frz, markCells, mark, elems, arrAt, cut, allP, asP, appendV, V.cells, PC, roomy, Int.toNat_zero, Int.reduceToNat, *] <;> rfl)))
      | ((with_reducible apply F.not); exact rfl; exact rfl; exact rfl)
      | ((with_reducible apply F.pickT'); exact rfl; exact rfl; (focus (simp only [decide_true, decide_false, Bool.not_true, Bool.not_false, List.toList_toArray, *]; done)); exact rfl)
      | ((with_reducible apply F.pickF'); exact rfl; exact rfl; (focus (simp only [decide_true, decide_false, Bool.not_true, Bool.not_false, List.toList_toArray, *]; done)); exact rfl)
      | (intro hc; (try rw [hc]); (try simp only [decide_eq_true_eq, decide_eq_false_iff_not, Bool.not_eq_eq_eq_not, Bool.not_true, Bool.not_false] at hc); (try (exfalso; omega)))
      | ((with_reducible apply E.r0); exact rfl; exact rfl)
      | ((first | ((with_reducible apply E.r1); exact rfl; exact rfl; (focus (exact look_of rfl))) | ((with_reducible apply E.rF1); exact rfl; exact rfl; (focus (exact look_of rfl))) | ((with_reducible apply E.rP1); exact rfl; exact rfl; (focus (exact look_of rfl))) | ((with_reducible apply E.r2); exact rfl; exact rfl; (focus (exact look_of rfl)); (focus (exact look_of rfl))) | ((with_reducible apply E.rF2); exact rfl; exact rfl; (focus (exact look_of rfl)); (focus (exact look_of rfl))) | ((with_reducible apply E.rP2); exact rfl; exact rfl; (focus (exact look_of rfl)); (focus (exact look_of rfl))) | ((with_reducible apply E.r3); exact rfl; exact rfl; (focus (exact look_of rfl)); (focus (exact look_of rfl)); (focus (exact look_of rfl))) | ((with_reducible apply E.rF3); exact rfl; exact rfl; (focus (exact look_of rfl)); (focus (exact look_of rfl)); (focus (exact look_of rfl))) | ((with_reducible apply E.rP3); exact rfl; exact rfl; (focus (exact look_of rfl)); (focus (exact look_of rfl)); (focus (exact look_of rfl)))))
      | refine R.regs rfl ?_
      | refine R.regsL rfl ?_
      | refine R.regsT rfl ?_
      | refine R.seq ?_
      | refine R.region rfl ?_
      | refine R.block ?_
      | exact rfl
  have hlt : i < text.length := by omega
  obtain ⟨c, hc⟩ : ∃ c, text[i]? = some c := ⟨text[i]'hlt, by simp⟩
  simp only [hc]
  have hi1 : ((i : Int) + 1).toNat = i + 1 := by omega
  have hne : ¬ (i : Int) = text.length := by omega
  clear hi g1
  by_cases h1 : lt c.toNat = true
  · have hw : wordEnd text i c = some (runL nm text i) := by simp only [wordEnd, if_pos h1]
    simp only [hw]
    obtain ⟨k1, k2⟩ := runL_le (p := nm) g2
    have hr2 := hrun2 i
    generalize runL nm text i = j at *
    clear hrun1 hrun2 hrun3 hw
    repeat' first
      | with_reducible apply M.free
      | with_reducible apply M.done
      | ((with_reducible apply F.move); exact rfl; exact rfl)
      | ((with_reducible apply F.load); exact rfl; exact rfl; exact rfl)
      | ((with_reducible apply F.cmp); exact rfl; exact rfl; exact rfl; exact rfl)
      | ((with_reducible apply F.assign); exact rfl; exact rfl)
      | ((with_reducible apply F.fieldAddr); exact rfl; exact rfl; exact rfl)
      | ((with_reducible apply F.len); exact rfl; exact rfl; exact rfl; exact rfl)
      | ((with_reducible apply F.nilCheck); exact rfl; exact rfl; exact rfl)
      | ((with_reducible apply F.pickT); exact rfl; exact rfl; exact rfl)
      | ((with_reducible apply F.pickF); exact rfl; exact rfl; exact rfl)
      | ((with_reducible apply F.cmpS); exact rfl; exact rfl; exact rfl; exact rfl)
      | ((first | ((with_reducible apply F.add); exact rfl; exact rfl; exact rfl) | ((with_reducible apply F.adds); exact rfl; exact rfl; exact rfl)); (focus (first | omega | (simp only [List.length_cons, List.length_nil, List.length_append, List.length_take, List.length_drop]; omega))))
      | ((with_reducible apply R.regs); exact rfl)
      | ((with_reducible apply F.call0); exact rfl; exact rfl; (focus (repeat' (first | exact Evs.nil | (apply Evs.cons; exact rfl)))); exact rfl; (focus (first | exact (letter_run _).fv | exact (digit_run _).fv)))
      | ((first | ((with_reducible apply F.call1); exact rfl; exact rfl; (focus (repeat' (first | exact Evs.nil | (apply Evs.cons; exact rfl))))) | ((with_reducible apply F.call1N); exact rfl; exact rfl; (focus (repeat' (first | exact Evs.nil | (apply Evs.cons; exact rfl))))) | ((with_reducible apply F.callC); exact rfl; exact rfl; (focus (repeat' (first | exact Evs.nil | (apply Evs.cons; exact rfl))))) | ((with_reducible apply F.callCN); exact rfl; exact rfl; (focus (repeat' (first | exact Evs.nil | (apply Evs.cons; exact rfl)))))); (focus (first | exact hr1 _ _ hr | exact hr2 _ _ g2)))
      | ((first | (with_reducible apply R.cond) | ((with_reducible apply M.guard); exact rfl)); (focus (first | (refine Eq.trans (look_of rfl) ?_; first | (simp only [decide_true, decide_false, Bool.not_true, Bool.not_false, *, hc] <;> rfl) | exact rfl) | exact look_of rfl)))
      | refine imp_yes rfl ?_
      | exact imp_no rfl
      | with_reducible apply R.seq
      | ((with_reducible apply R.region); exact rfl)
      | with_reducible apply E.seqN
      | with_reducible apply E.seqX
      | with_reducible apply E.seqR
      | with_reducible apply E.blkN
      | with_reducible apply E.blkR
      | ((with_reducible apply E.blkX); exact rfl)
      | ((with_reducible apply E.blkO); exact rfl)
      | with_reducible apply R.skip
      | with_reducible apply R.ret
      | with_reducible apply R.block
      | ((first | ((with_reducible apply F.store); exact rfl; exact rfl; exact rfl; exact rfl) | ((with_reducible apply F.loadS); exact rfl; exact rfl; exact rfl) | ((with_reducible apply F.load2); exact rfl; exact rfl; exact rfl)); (focus (simp (disch := first | assumption | omega | (simp only [List.length_cons, List.length_nil, List.length_append, List.length_take, List.length_drop]; omega)) only [LS, storeV, loadV, partV, partP, cut, over, mkAgg, allP, asP, V.cells, PC, elDiv, elMod, elDiv0, Nat.mul_mod_left, Int.toNat_zero, Int.reduceToNat, *, hc] <;> rfl)))
      | ((first | ((with_reducible apply F.append3); exact rfl; exact rfl; exact rfl; exact rfl; exact rfl; exact rfl; exact rfl; exact rfl)); (focus (simp (disch := first | assumption | omega | (simp only [List.length_cons, List.length_nil, List.length_append, List.length_take, List.length_drop]; omega)) only [LS, buildV, fillV, over, buildSliceV, elemsOf, appendV, elems, arrAt, cut, roomy, mkAgg, allP, asP, V.cells, PC, Int.toNat_zero, Int.reduceToNat, *, hc] <;> rfl)))
      | ((first | ((with_reducible apply F.len); exact rfl; exact rfl; exact rfl)); (focus (simp (disch := first | assumption | omega | (simp only [List.length_cons, List.length_nil, List.length_append, List.length_take, List.length_drop]; omega)) only [LS, lenV_L, idx_L, below_at, Int.toNat_zero, Int.reduceToNat, *, hc] <;> rfl)))
      | ((first | ((with_reducible apply F.index); exact rfl; exact rfl; exact rfl; exact rfl) | ((with_reducible apply F.slice); exact rfl; exact rfl; exact rfl; exact rfl; exact rfl; exact rfl) | ((with_reducible apply F.fieldAddrS); exact rfl; exact rfl; exact rfl) | ((with_reducible apply F.bin); exact rfl; exact rfl; exact rfl; exact rfl)); (focus (simp (disch := first | assumption | omega | (simp only [List.length_cons, List.length_nil, List.length_append, List.length_take, List.length_drop]; omega)) only [LS, indexAddrV, indexV, below_at, fieldV, fieldAddrV, convP, bytesOf, sliceV, bounds, bMax, bHi, bLo, upTo_at, makeFuncV, partV, partP, cut, binI, binS, binV, binP, arith, strOp_add, strOp_eql, strOp_neq, eqn, wrap64, wrap8, mkAgg, allP, asP, Option.getD_none, Int.toNat_zero, Int.reduceToNat, *, hc] <;> rfl)))
      | ((first | ((with_reducible apply F.assignF); exact rfl; exact rfl) | ((with_reducible apply F.append2); exact rfl; exact rfl; exact rfl; exact rfl; exact rfl; exact rfl; exact rfl; exact rfl)); (focus (simp (disch := first | assumption | omega | (simp only [List.length_cons, List.length_nil, List.length_append, List.length_take, List.length_drop]; omega)) only [LS, frzCells, frz, markCells, mark, elems, arrAt, cut, allP, asP, appendV, V.cells, PC, roomy, Int.toNat_zero, Int.reduceToNat, *, hc] <;> rfl)); (focus (simp (disch := first | assumption | omega | (simp only [List.length_cons, List.length_nil, List.length_append, List.length_take, List.length_drop]; omega)) only [LS, frzCells, frz, markCells, mark, elems, arrAt, cut, allP, asP, appendV, V.cells, PC, roomy, Int.toNat_zero, Int.reduceToNat, *, hc] <;> rfl)))
      | ((with_reducible apply F.not); exact rfl; exact rfl; exact rfl)
      | ((with_reducible apply F.pickT'); exact rfl; exact rfl; (focus (simp only [decide_true, decide_false, Bool.not_true, Bool.not_false, List.toList_toArray, *, hc]; done)); exact rfl)
      | ((with_reducible apply F.pickF'); exact rfl; exact rfl; (focus (simp only [decide_true, decide_false, Bool.not_true, Bool.not_false, List.toList_toArray, *, hc]; done)); exact rfl)
      | (intro hc; (try rw [hc]); (try simp only [decide_eq_true_eq, decide_eq_false_iff_not, Bool.not_eq_eq_eq_not, Bool.not_true, Bool.not_false] at hc); (try (exfalso; omega)))
      | ((with_reducible apply E.r0); exact rfl; exact rfl)
      | ((first | ((with_reducible apply E.r1); exact rfl; exact rfl; (focus (exact look_of rfl))) | ((with_reducible apply E.rF1); exact rfl; exact rfl; (focus (exact look_of rfl))) | ((with_reducible apply E.rP1); exact rfl; exact rfl; (focus (exact look_of rfl))) | ((with_reducible apply E.r2); exact rfl; exact rfl; (focus (exact look_of rfl)); (focus (exact look_of rfl))) | ((with_reducible apply E.rF2); exact rfl; exact rfl; (focus (exact look_of rfl)); (focus (exact look_of rfl))) | ((with_reducible apply E.rP2); exact rfl; exact rfl; (focus (exact look_of rfl)); (focus (exact look_of rfl))) | ((with_reducible apply E.r3); exact rfl; exact rfl; (focus (exact look_of rfl)); (focus (exact look_of rfl)); (focus (exact look_of rfl))) | ((with_reducible apply E.rF3); exact rfl; exact rfl; (focus (exact look_of rfl)); (focus (exact look_of rfl)); (focus (exact look_of rfl))) | ((with_reducible apply E.rP3); exact rfl; exact rfl; (focus (exact look_of rfl)); (focus (exact look_of rfl)); (focus (exact look_of rfl)))))
      | refine R.regs rfl ?_
      | refine R.regsL rfl ?_
      | refine R.regsT rfl ?_
      | refine R.seq ?_
      | refine R.region rfl ?_
      | refine R.block ?_
      | exact rfl
  have h1 : lt c.toNat = false := by simpa using h1
  by_cases h2 : dg c.toNat = true
  · have hw : wordEnd text i c = some (runL (fun c => dg c.toNat) text i) := by simp only [wordEnd, h1, Bool.false_eq_true, if_false, if_pos h2]
    simp only [hw]
    obtain ⟨k1, k2⟩ := runL_le (p := fun c => dg c.toNat) g2
    have hr3 := hrun3 i
    generalize runL (fun c => dg c.toNat) text i = j at *
    clear hrun1 hrun2 hrun3 hw
    repeat' first
      | with_reducible apply M.free
      | with_reducible apply M.done
      | ((with_reducible apply F.move); exact rfl; exact rfl)
      | ((with_reducible apply F.load); exact rfl; exact rfl; exact rfl)
      | ((with_reducible apply F.cmp); exact rfl; exact rfl; exact rfl; exact rfl)
      | ((with_reducible apply F.assign); exact rfl; exact rfl)
      | ((with_reducible apply F.fieldAddr); exact rfl; exact rfl; exact rfl)
      | ((with_reducible apply F.len); exact rfl; exact rfl; exact rfl; exact rfl)
      | ((with_reducible apply F.nilCheck); exact rfl; exact rfl; exact rfl)
      | ((with_reducible apply F.pickT); exact rfl; exact rfl; exact rfl)
      | ((with_reducible apply F.pickF); exact rfl; exact rfl; exact rfl)
      | ((with_reducible apply F.cmpS); exact rfl; exact rfl; exact rfl; exact rfl)
      | ((first | ((with_reducible apply F.add); exact rfl; exact rfl; exact rfl) | ((with_reducible apply F.adds); exact rfl; exact rfl; exact rfl)); (focus (first | omega | (simp only [List.length_cons, List.length_nil, List.length_append, List.length_take, List.length_drop]; omega))))
      | ((with_reducible apply R.regs); exact rfl)
      | ((with_reducible apply F.call0); exact rfl; exact rfl; (focus (repeat' (first | exact Evs.nil | (apply Evs.cons; exact rfl)))); exact rfl; (focus (first | exact (letter_run _).fv | exact (digit_run _).fv)))
      | ((first | ((with_reducible apply F.call1); exact rfl; exact rfl; (focus (repeat' (first | exact Evs.nil | (apply Evs.cons; exact rfl))))) | ((with_reducible apply F.call1N); exact rfl; exact rfl; (focus (repeat' (first | exact Evs.nil | (apply Evs.cons; exact rfl))))) | ((with_reducible apply F.callC); exact rfl; exact rfl; (focus (repeat' (first | exact Evs.nil | (apply Evs.cons; exact rfl))))) | ((with_reducible apply F.callCN); exact rfl; exact rfl; (focus (repeat' (first | exact Evs.nil | (apply Evs.cons; exact rfl)))))); (focus (first | exact hr1 _ _ hr | exact hr3 _ _ g2)))
      | ((first | (with_reducible apply R.cond) | ((with_reducible apply M.guard); exact rfl)); (focus (first | (refine Eq.trans (look_of rfl) ?_; first | (simp only [decide_true, decide_false, Bool.not_true, Bool.not_false, *, hc] <;> rfl) | exact rfl) | exact look_of rfl)))
      | refine imp_yes rfl ?_
      | exact imp_no rfl
      | with_reducible apply R.seq
      | ((with_reducible apply R.region); exact rfl)
      | with_reducible apply E.seqN
      | with_reducible apply E.seqX
      | with_reducible apply E.seqR
      | with_reducible apply E.blkN
      | with_reducible apply E.blkR
      | ((with_reducible apply E.blkX); exact rfl)
      | ((with_reducible apply E.blkO); exact rfl)
      | with_reducible apply R.skip
      | with_reducible apply R.ret
      | with_reducible apply R.block
      | ((first | ((with_reducible apply F.store); exact rfl; exact rfl; exact rfl; exact rfl) | ((with_reducible apply F.loadS); exact rfl; exact rfl; exact rfl) | ((with_reducible apply F.load2); exact rfl; exact rfl; exact rfl)); (focus (simp (disch := first | assumption | omega | (simp only [List.length_cons, List.length_nil, List.length_append, List.length_take, List.length_drop]; omega)) only [LS, storeV, loadV, partV, partP, cut, over, mkAgg, allP, asP, V.cells, PC, elDiv, elMod, elDiv0, Nat.mul_mod_left, Int.toNat_zero, Int.reduceToNat, *, hc] <;> rfl)))
      | ((first | ((with_reducible apply F.append3); exact rfl; exact rfl; exact rfl; exact rfl; exact rfl; exact rfl; exact rfl; exact rfl)); (focus (simp (disch := first | assumption | omega | (simp only [List.length_cons, List.length_nil, List.length_append, List.length_take, List.length_drop]; omega)) only [LS, buildV, fillV, over, buildSliceV, elemsOf, appendV, elems, arrAt, cut, roomy, mkAgg, allP, asP, V.cells, PC, Int.toNat_zero, Int.reduceToNat, *, hc] <;> rfl)))
      | ((first | ((with_reducible apply F.len); exact rfl; exact rfl; exact rfl)); (focus (simp (disch := first | assumption | omega | (simp only [List.length_cons, List.length_nil, List.length_append, List.length_take, List.length_drop]; omega)) only [LS, lenV_L, idx_L, below_at, Int.toNat_zero, Int.reduceToNat, *, hc] <;> rfl)))
      | ((first | ((with_reducible apply F.index); exact rfl; exact rfl; exact rfl; exact rfl) | ((with_reducible apply F.slice); exact rfl; exact rfl; exact rfl; exact rfl; exact rfl; exact rfl) | ((with_reducible apply F.fieldAddrS); exact rfl; exact rfl; exact rfl) | ((with_reducible apply F.bin); exact rfl; exact rfl; exact rfl; exact rfl)); (focus (simp (disch := first | assumption | omega | (simp only [List.length_cons, List.length_nil, List.length_append, List.length_take, List.length_drop]; omega)) only [LS, indexAddrV, indexV, below_at, fieldV, fieldAddrV, convP, bytesOf, sliceV, bounds, bMax, bHi, bLo, upTo_at, makeFuncV, partV, partP, cut, binI, binS, binV, binP, arith, strOp_add, strOp_eql, strOp_neq, eqn, wrap64, wrap8, mkAgg, allP, asP, Option.getD_none, Int.toNat_zero, Int.reduceToNat, *, hc] <;> rfl)))
      | ((first | ((with_reducible apply F.assignF); exact rfl; exact rfl) | ((with_reducible apply F.append2); exact rfl; exact rfl; exact rfl; exact rfl; exact rfl; exact rfl; exact rfl; exact rfl)); (focus (simp (disch := first | assumption | omega | (simp only [List.length_cons, List.length_nil, List.length_append, List.length_take, List.length_drop]; omega)) only [LS, frzCells, frz, markCells, mark, elems, arrAt, cut, allP, asP, appendV, V.cells, PC, roomy, Int.toNat_zero, Int.reduceToNat, *, hc] <;> rfl)); (focus (simp (disch := first | assumption | omega | (simp only [List.length_cons, List.length_nil, List.length_append, List.length_take, List.length_drop]; omega)) only [LS, frzCells, frz, markCells, mark, elems, arrAt, cut, allP, asP, appendV, V.cells, PC, roomy, Int.toNat_zero, Int.reduceToNat, *, hc] <;> rfl)))
      | ((with_reducible apply F.not); exact rfl; exact rfl; exact rfl)
      | ((with_reducible apply F.pickT'); exact rfl; exact rfl; (focus (simp only [decide_true, decide_false, Bool.not_true, Bool.not_false, List.toList_toArray, *, hc]; done)); exact rfl)
      | ((with_reducible apply F.pickF'); exact rfl; exact rfl; (focus (simp only [decide_true, decide_false, Bool.not_true, Bool.not_false, List.toList_toArray, *, hc]; done)); exact rfl)
      | (intro hc; (try rw [hc]); (try simp only [decide_eq_true_eq, decide_eq_false_iff_not, Bool.not_eq_eq_eq_not, Bool.not_true, Bool.not_false] at hc); (try (exfalso; omega)))
      | ((with_reducible apply E.r0); exact rfl; exact rfl)
      | ((first | ((with_reducible apply E.r1); exact rfl; exact rfl; (focus (exact look_of rfl))) | ((with_reducible apply E.rF1); exact rfl; exact rfl; (focus (exact look_of rfl))) | ((with_reducible apply E.rP1); exact rfl; exact rfl; (focus (exact look_of rfl))) | ((with_reducible apply E.r2); exact rfl; exact rfl; (focus (exact look_of rfl)); (focus (exact look_of rfl))) | ((with_reducible apply E.rF2); exact rfl; exact rfl; (focus (exact look_of rfl)); (focus (exact look_of rfl))) | ((with_reducible apply E.rP2); exact rfl; exact rfl; (focus (exact look_of rfl)); (focus (exact look_of rfl))) | ((with_reducible apply E.r3); exact rfl; exact rfl; (focus (exact look_of rfl)); (focus (exact look_of rfl)); (focus (exact look_of rfl))) | ((with_reducible apply E.rF3); exact rfl; exact rfl; (focus (exact look_of rfl)); (focus (exact look_of rfl)); (focus (exact look_of rfl))) | ((with_reducible apply E.rP3); exact rfl; exact rfl; (focus (exact look_of rfl)); (focus (exact look_of rfl)); (focus (exact look_of rfl)))))
      | refine R.regs rfl ?_
      | refine R.regsL rfl ?_
      | refine R.regsT rfl ?_
      | refine R.seq ?_
      | refine R.region rfl ?_
      | refine R.block ?_
      | exact rfl
  have h2 : dg c.toNat = false := by simpa using h2
  clear hrun1 hrun2 hrun3
  have hf0 : failF i 6 { at' := i, next := i, word := [], e := 0, bad := bad } = { at' := i, next := i, word := [], e := 6, bad := i } := rfl
  have hfail := fail_run text y args cv ⟨i, i, [], 0, bad⟩ i 6 rest
  rw [hf0] at hfail
  by_cases h3 : (c.toNat : Int) = 36
  · cases hb : text[i + 1]? with
    | none =>
      have hle := List.getElem?_eq_none_iff.1 hb
      have hw : wordEnd text i c = none := by simp only [wordEnd, h1, h2, Bool.false_eq_true, if_false, if_pos h3, hb, isDg]
      simp only [hw, hf0]
      clear hw hf0
      repeat' first
        | with_reducible apply M.free
        | with_reducible apply M.done
        | ((with_reducible apply F.move); exact rfl; exact rfl)
        | ((with_reducible apply F.load); exact rfl; exact rfl; exact rfl)
        | ((with_reducible apply F.cmp); exact rfl; exact rfl; exact rfl; exact rfl)
        | ((with_reducible apply F.assign); exact rfl; exact rfl)
        | ((with_reducible apply F.fieldAddr); exact rfl; exact rfl; exact rfl)
        | ((with_reducible apply F.len); exact rfl; exact rfl; exact rfl; exact rfl)
        | ((with_reducible apply F.nilCheck); exact rfl; exact rfl; exact rfl)
        | ((with_reducible apply F.pickT); exact rfl; exact rfl; exact rfl)
        | ((with_reducible apply F.pickF); exact rfl; exact rfl; exact rfl)
        | ((with_reducible apply F.cmpS); exact rfl; exact rfl; exact rfl; exact rfl)
        | ((first | ((with_reducible apply F.add); exact rfl; exact rfl; exact rfl) | ((with_reducible apply F.adds); exact rfl; exact rfl; exact rfl)); (focus (first | omega | (simp only [List.length_cons, List.length_nil, List.length_append, List.length_take, List.length_drop]; omega))))
        | ((with_reducible apply R.regs); exact rfl)
        | ((with_reducible apply F.call0); exact rfl; exact rfl; (focus (repeat' (first | exact Evs.nil | (apply Evs.cons; exact rfl)))); exact rfl; (focus (first | exact (letter_run _).fv | exact (digit_run _).fv)))
        | ((first | ((with_reducible apply F.call1); exact rfl; exact rfl; (focus (repeat' (first | exact Evs.nil | (apply Evs.cons; exact rfl))))) | ((with_reducible apply F.call1N); exact rfl; exact rfl; (focus (repeat' (first | exact Evs.nil | (apply Evs.cons; exact rfl))))) | ((with_reducible apply F.callC); exact rfl; exact rfl; (focus (repeat' (first | exact Evs.nil | (apply Evs.cons; exact rfl))))) | ((with_reducible apply F.callCN); exact rfl; exact rfl; (focus (repeat' (first | exact Evs.nil | (apply Evs.cons; exact rfl)))))); (focus (first | exact hr1 _ _ hr | exact hfail)))
        | ((first | (with_reducible apply R.cond) | ((with_reducible apply M.guard); exact rfl)); (focus (first | (refine Eq.trans (look_of rfl) ?_; first | (simp only [decide_true, decide_false, Bool.not_true, Bool.not_false, *, hc] <;> rfl) | exact rfl) | exact look_of rfl)))
        | refine imp_yes rfl ?_
        | exact imp_no rfl
        | with_reducible apply R.seq
        | ((with_reducible apply R.region); exact rfl)
        | with_reducible apply E.seqN
        | with_reducible apply E.seqX
        | with_reducible apply E.seqR
        | with_reducible apply E.blkN
        | with_reducible apply E.blkR
        | ((with_reducible apply E.blkX); exact rfl)
        | ((with_reducible apply E.blkO); exact rfl)
        | with_reducible apply R.skip
        | with_reducible apply R.ret
        | with_reducible apply R.block
        | ((first | ((with_reducible apply F.store); exact rfl; exact rfl; exact rfl; exact rfl) | ((with_reducible apply F.loadS); exact rfl; exact rfl; exact rfl) | ((with_reducible apply F.load2); exact rfl; exact rfl; exact rfl)); (focus (simp (disch := first | assumption | omega | (simp only [List.length_cons, List.length_nil, List.length_append, List.length_take, List.length_drop]; omega)) only [LS, storeV, loadV, partV, partP, cut, over, mkAgg, allP, asP, V.cells, PC, elDiv, elMod, elDiv0, Nat.mul_mod_left, Int.toNat_zero, Int.reduceToNat, *, hc] <;> rfl)))
        | ((first | ((with_reducible apply F.append3); exact rfl; exact rfl; exact rfl; exact rfl; exact rfl; exact rfl; exact rfl; exact rfl)); (focus (simp (disch := first | assumption | omega | (simp only [List.length_cons, List.length_nil, List.length_append, List.length_take, List.length_drop]; omega)) only [LS, buildV, fillV, over, buildSliceV, elemsOf, appendV, elems, arrAt, cut, roomy, mkAgg, allP, asP, V.cells, PC, Int.toNat_zero, Int.reduceToNat, *, hc] <;> rfl)))
        | ((first | ((with_reducible apply F.len); exact rfl; exact rfl; exact rfl)); (focus (simp (disch := first | assumption | omega | (simp only [List.length_cons, List.length_nil, List.length_append, List.length_take, List.length_drop]; omega)) only [LS, lenV_L, idx_L, below_at, Int.toNat_zero, Int.reduceToNat, *, hc] <;> rfl)))
        | ((first | ((with_reducible apply F.index); exact rfl; exact rfl; exact rfl; exact rfl) | ((with_reducible apply F.slice); exact rfl; exact rfl; exact rfl; exact rfl; exact rfl; exact rfl) | ((with_reducible apply F.fieldAddrS); exact rfl; exact rfl; exact rfl) | ((with_reducible apply F.bin); exact rfl; exact rfl; exact rfl; exact rfl)); (focus (simp (disch := first | assumption | omega | (simp only [List.length_cons, List.length_nil, List.length_append, List.length_take, List.length_drop]; omega)) only [LS, indexAddrV, indexV, below_at, fieldV, fieldAddrV, convP, bytesOf, sliceV, bounds, bMax, bHi, bLo, upTo_at, makeFuncV, partV, partP, cut, binI, binS, binV, binP, arith, strOp_add, strOp_eql, strOp_neq, eqn, wrap64, wrap8, mkAgg, allP, asP, Option.getD_none, Int.toNat_zero, Int.reduceToNat, *, hc] <;> rfl)))
        | ((first | ((with_reducible apply F.assignF); exact rfl; exact rfl) | ((with_reducible apply F.append2); exact rfl; exact rfl; exact rfl; exact rfl; exact rfl; exact rfl; exact rfl; exact rfl)); (focus (simp (disch := first | assumption | omega | (simp only [List.length_cons, List.length_nil, List.length_append, List.length_take, List.length_drop]; omega)) only [LS, frzCells, frz, markCells, mark, elems, arrAt, cut, allP, asP, appendV, V.cells, PC, roomy, Int.toNat_zero, Int.reduceToNat, *, hc] <;> rfl)); (focus (simp (disch := first | assumption | omega | (simp only [List.length_cons, List.length_nil, List.length_append, List.length_take, List.length_drop]; omega)) only [LS, frzCells, frz, markCells, mark, elems, arrAt, cut, allP, asP, appendV, V.cells, PC, roomy, Int.toNat_zero, Int.reduceToNat, *, hc] <;> rfl)))
        | ((with_reducible apply F.not); exact rfl; exact rfl; exact rfl)
        | ((with_reducible apply F.pickT'); exact rfl; exact rfl; (focus (simp only [decide_true, decide_false, Bool.not_true, Bool.not_false, List.toList_toArray, *, hc]; done)); exact rfl)
        | ((with_reducible apply F.pickF'); exact rfl; exact rfl; (focus (simp only [decide_true, decide_false, Bool.not_true, Bool.not_false, List.toList_toArray, *, hc]; done)); exact rfl)
        | (intro hc; (try rw [hc]); (try simp only [decide_eq_true_eq, decide_eq_false_iff_not, Bool.not_eq_eq_eq_not, Bool.not_true, Bool.not_false] at hc); (try (exfalso; omega)))
        | ((with_reducible apply E.r0); exact rfl; exact rfl)
        | ((first | ((with_reducible apply E.r1); exact rfl; exact rfl; (focus (exact look_of rfl))) | ((with_reducible apply E.rF1); exact rfl; exact rfl; (focus (exact look_of rfl))) | ((with_reducible apply E.rP1); exact rfl; exact rfl; (focus (exact look_of rfl))) | ((with_reducible apply E.r2); exact rfl; exact rfl; (focus (exact look_of rfl)); (focus (exact look_of rfl))) | ((with_reducible apply E.rF2); exact rfl; exact rfl; (focus (exact look_of rfl)); (focus (exact look_of rfl))) | ((with_reducible apply E.rP2); exact rfl; exact rfl; (focus (exact look_of rfl)); (focus (exact look_of rfl))) | ((with_reducible apply E.r3); exact rfl; exact rfl; (focus (exact look_of rfl)); (focus (exact look_of rfl)); (focus (exact look_of rfl))) | ((with_reducible apply E.rF3); exact rfl; exact rfl; (focus (exact look_of rfl)); (focus (exact look_of rfl)); (focus (exact look_of rfl))) | ((with_reducible apply E.rP3); exact rfl; exact rfl; (focus (exact look_of rfl)); (focus (exact look_of rfl)); (focus (exact look_of rfl)))))
        | refine R.regs rfl ?_
        | refine R.regsL rfl ?_
        | refine R.regsT rfl ?_
        | refine R.seq ?_
        | refine R.region rfl ?_
        | refine R.block ?_
        | exact rfl
    | some b =>
      have hlt2 := (List.getElem?_eq_some_iff.1 hb).1
      by_cases h4 : dg b.toNat = true
      · have hw : wordEnd text i c = some (i + 2) := by simp only [wordEnd, h1, h2, Bool.false_eq_true, if_false, if_pos h3, hb, isDg, if_pos h4]
        simp only [hw]
        clear hw hf0
        have e2 : (i : Int) + 1 + 1 = ((i + 2 : Nat) : Int) := by omega
        repeat' first
          | with_reducible apply M.free
          | with_reducible apply M.done
          | ((with_reducible apply F.move); exact rfl; exact rfl)
          | ((with_reducible apply F.load); exact rfl; exact rfl; exact rfl)
          | ((with_reducible apply F.cmp); exact rfl; exact rfl; exact rfl; exact rfl)
          | ((with_reducible apply F.assign); exact rfl; exact rfl)
          | ((with_reducible apply F.fieldAddr); exact rfl; exact rfl; exact rfl)
          | ((with_reducible apply F.len); exact rfl; exact rfl; exact rfl; exact rfl)
          | ((with_reducible apply F.nilCheck); exact rfl; exact rfl; exact rfl)
          | ((with_reducible apply F.pickT); exact rfl; exact rfl; exact rfl)
          | ((with_reducible apply F.pickF); exact rfl; exact rfl; exact rfl)
          | ((with_reducible apply F.cmpS); exact rfl; exact rfl; exact rfl; exact rfl)
          | ((first | ((with_reducible apply F.add); exact rfl; exact rfl; exact rfl) | ((with_reducible apply F.adds); exact rfl; exact rfl; exact rfl)); (focus (first | omega | (simp only [List.length_cons, List.length_nil, List.length_append, List.length_take, List.length_drop]; omega))))
          | ((with_reducible apply R.regs); exact rfl)
          | ((with_reducible apply F.call0); exact rfl; exact rfl; (focus (repeat' (first | exact Evs.nil | (apply Evs.cons; exact rfl)))); exact rfl; (focus (first | exact (letter_run _).fv | exact (digit_run _).fv)))
          | ((first | ((with_reducible apply F.call1); exact rfl; exact rfl; (focus (repeat' (first | exact Evs.nil | (apply Evs.cons; exact rfl))))) | ((with_reducible apply F.call1N); exact rfl; exact rfl; (focus (repeat' (first | exact Evs.nil | (apply Evs.cons; exact rfl))))) | ((with_reducible apply F.callC); exact rfl; exact rfl; (focus (repeat' (first | exact Evs.nil | (apply Evs.cons; exact rfl))))) | ((with_reducible apply F.callCN); exact rfl; exact rfl; (focus (repeat' (first | exact Evs.nil | (apply Evs.cons; exact rfl)))))); (focus (first | exact hr1 _ _ hr | exact hfail)))
          | ((first | (with_reducible apply R.cond) | ((with_reducible apply M.guard); exact rfl)); (focus (first | (refine Eq.trans (look_of rfl) ?_; first | (simp only [decide_true, decide_false, Bool.not_true, Bool.not_false, *, hc, hb, hi1] <;> rfl) | exact rfl) | exact look_of rfl)))
          | refine imp_yes rfl ?_
          | exact imp_no rfl
          | with_reducible apply R.seq
          | ((with_reducible apply R.region); exact rfl)
          | with_reducible apply E.seqN
          | with_reducible apply E.seqX
          | with_reducible apply E.seqR
          | with_reducible apply E.blkN
          | with_reducible apply E.blkR
          | ((with_reducible apply E.blkX); exact rfl)
          | ((with_reducible apply E.blkO); exact rfl)
          | with_reducible apply R.skip
          | with_reducible apply R.ret
          | with_reducible apply R.block
          | ((first | ((with_reducible apply F.store); exact rfl; exact rfl; exact rfl; exact rfl) | ((with_reducible apply F.loadS); exact rfl; exact rfl; exact rfl) | ((with_reducible apply F.load2); exact rfl; exact rfl; exact rfl)); (focus (simp (disch := first | assumption | omega | (simp only [List.length_cons, List.length_nil, List.length_append, List.length_take, List.length_drop]; omega)) only [LS, storeV, loadV, partV, partP, cut, over, mkAgg, allP, asP, V.cells, PC, elDiv, elMod, elDiv0, Nat.mul_mod_left, Int.toNat_zero, Int.reduceToNat, *, hc, hb, hi1] <;> rfl)))
          | ((first | ((with_reducible apply F.append3); exact rfl; exact rfl; exact rfl; exact rfl; exact rfl; exact rfl; exact rfl; exact rfl)); (focus (simp (disch := first | assumption | omega | (simp only [List.length_cons, List.length_nil, List.length_append, List.length_take, List.length_drop]; omega)) only [LS, buildV, fillV, over, buildSliceV, elemsOf, appendV, elems, arrAt, cut, roomy, mkAgg, allP, asP, V.cells, PC, Int.toNat_zero, Int.reduceToNat, *, hc, hb, hi1] <;> rfl)))
          | ((first | ((with_reducible apply F.len); exact rfl; exact rfl; exact rfl)); (focus (simp (disch := first | assumption | omega | (simp only [List.length_cons, List.length_nil, List.length_append, List.length_take, List.length_drop]; omega)) only [LS, lenV_L, idx_L, below_at, Int.toNat_zero, Int.reduceToNat, *, hc, hb, hi1] <;> rfl)))
          | ((first | ((with_reducible apply F.index); exact rfl; exact rfl; exact rfl; exact rfl) | ((with_reducible apply F.slice); exact rfl; exact rfl; exact rfl; exact rfl; exact rfl; exact rfl) | ((with_reducible apply F.fieldAddrS); exact rfl; exact rfl; exact rfl) | ((with_reducible apply F.bin); exact rfl; exact rfl; exact rfl; exact rfl)); (focus (simp (disch := first | assumption | omega | (simp only [List.length_cons, List.length_nil, List.length_append, List.length_take, List.length_drop]; omega)) only [LS, indexAddrV, indexV, below_at, fieldV, fieldAddrV, convP, bytesOf, sliceV, bounds, bMax, bHi, bLo, upTo_at, makeFuncV, partV, partP, cut, binI, binS, binV, binP, arith, strOp_add, strOp_eql, strOp_neq, eqn, wrap64, wrap8, mkAgg, allP, asP, Option.getD_none, Int.toNat_zero, Int.reduceToNat, *, hc, hb, hi1] <;> rfl)))
          | ((first | ((with_reducible apply F.assignF); exact rfl; exact rfl) | ((with_reducible apply F.append2); exact rfl; exact rfl; exact rfl; exact rfl; exact rfl; exact rfl; exact rfl; exact rfl)); (focus (simp (disch := first | assumption | omega | (simp only [List.length_cons, List.length_nil, List.length_append, List.length_take, List.length_drop]; omega)) only [LS, frzCells, frz, markCells, mark, elems, arrAt, cut, allP, asP, appendV, V.cells, PC, roomy, Int.toNat_zero, Int.reduceToNat, *, hc, hb, hi1] <;> rfl)); (focus (simp (disch := first | assumption | omega | (simp only [List.length_cons, List.length_nil, List.length_append, List.length_take, List.length_drop]; omega)) only [LS, frzCells, frz, markCells, mark, elems, arrAt, cut, allP, asP, appendV, V.cells, PC, roomy, Int.toNat_zero, Int.reduceToNat, *, hc, hb, hi1] <;> rfl)))
          | ((with_reducible apply F.not); exact rfl; exact rfl; exact rfl)
          | ((with_reducible apply F.pickT'); exact rfl; exact rfl; (focus (simp only [decide_true, decide_false, Bool.not_true, Bool.not_false, List.toList_toArray, *, hc, hb, hi1]; done)); exact rfl)
          | ((with_reducible apply F.pickF'); exact rfl; exact rfl; (focus (simp only [decide_true, decide_false, Bool.not_true, Bool.not_false, List.toList_toArray, *, hc, hb, hi1]; done)); exact rfl)
          | (intro hc; (try rw [hc]); (try simp only [decide_eq_true_eq, decide_eq_false_iff_not, Bool.not_eq_eq_eq_not, Bool.not_true, Bool.not_false] at hc); (try (exfalso; omega)))
          | ((with_reducible apply E.r0); exact rfl; exact rfl)
          | ((first | ((with_reducible apply E.r1); exact rfl; exact rfl; (focus (exact look_of rfl))) | ((with_reducible apply E.rF1); exact rfl; exact rfl; (focus (exact look_of rfl))) | ((with_reducible apply E.rP1); exact rfl; exact rfl; (focus (exact look_of rfl))) | ((with_reducible apply E.r2); exact rfl; exact rfl; (focus (exact look_of rfl)); (focus (exact look_of rfl))) | ((with_reducible apply E.rF2); exact rfl; exact rfl; (focus (exact look_of rfl)); (focus (exact look_of rfl))) | ((with_reducible apply E.rP2); exact rfl; exact rfl; (focus (exact look_of rfl)); (focus (exact look_of rfl))) | ((with_reducible apply E.r3); exact rfl; exact rfl; (focus (exact look_of rfl)); (focus (exact look_of rfl)); (focus (exact look_of rfl))) | ((with_reducible apply E.rF3); exact rfl; exact rfl; (focus (exact look_of rfl)); (focus (exact look_of rfl)); (focus (exact look_of rfl))) | ((with_reducible apply E.rP3); exact rfl; exact rfl; (focus (exact look_of rfl)); (focus (exact look_of rfl)); (focus (exact look_of rfl)))))
          | refine R.regs rfl ?_
          | refine R.regsL rfl ?_
          | refine R.regsT rfl ?_
          | refine R.seq ?_
          | refine R.region rfl ?_
          | refine R.block ?_
          | exact rfl
      · have hw : wordEnd text i c = none := by simp only [wordEnd, h1, h2, Bool.false_eq_true, if_false, if_pos h3, hb, isDg, if_neg h4]
        have h4 : dg b.toNat = false := by simpa using h4
        simp only [hw, hf0]
        clear hw hf0
        repeat' first
          | with_reducible apply M.free
          | with_reducible apply M.done
          | ((with_reducible apply F.move); exact rfl; exact rfl)
          | ((with_reducible apply F.load); exact rfl; exact rfl; exact rfl)
          | ((with_reducible apply F.cmp); exact rfl; exact rfl; exact rfl; exact rfl)
          | ((with_reducible apply F.assign); exact rfl; exact rfl)
          | ((with_reducible apply F.fieldAddr); exact rfl; exact rfl; exact rfl)
          | ((with_reducible apply F.len); exact rfl; exact rfl; exact rfl; exact rfl)
          | ((with_reducible apply F.nilCheck); exact rfl; exact rfl; exact rfl)
          | ((with_reducible apply F.pickT); exact rfl; exact rfl; exact rfl)
          | ((with_reducible apply F.pickF); exact rfl; exact rfl; exact rfl)
          | ((with_reducible apply F.cmpS); exact rfl; exact rfl; exact rfl; exact rfl)
          | ((first | ((with_reducible apply F.add); exact rfl; exact rfl; exact rfl) | ((with_reducible apply F.adds); exact rfl; exact rfl; exact rfl)); (focus (first | omega | (simp only [List.length_cons, List.length_nil, List.length_append, List.length_take, List.length_drop]; omega))))
          | ((with_reducible apply R.regs); exact rfl)
          | ((with_reducible apply F.call0); exact rfl; exact rfl; (focus (repeat' (first | exact Evs.nil | (apply Evs.cons; exact rfl)))); exact rfl; (focus (first | exact (letter_run _).fv | exact (digit_run _).fv)))
          | ((first | ((with_reducible apply F.call1); exact rfl; exact rfl; (focus (repeat' (first | exact Evs.nil | (apply Evs.cons; exact rfl))))) | ((with_reducible apply F.call1N); exact rfl; exact rfl; (focus (repeat' (first | exact Evs.nil | (apply Evs.cons; exact rfl))))) | ((with_reducible apply F.callC); exact rfl; exact rfl; (focus (repeat' (first | exact Evs.nil | (apply Evs.cons; exact rfl))))) | ((with_reducible apply F.callCN); exact rfl; exact rfl; (focus (repeat' (first | exact Evs.nil | (apply Evs.cons; exact rfl)))))); (focus (first | exact hr1 _ _ hr | exact hfail)))
          | ((first | (with_reducible apply R.cond) | ((with_reducible apply M.guard); exact rfl)); (focus (first | (refine Eq.trans (look_of rfl) ?_; first | (simp only [decide_true, decide_false, Bool.not_true, Bool.not_false, *, hc, hb, hi1] <;> rfl) | exact rfl) | exact look_of rfl)))
          | refine imp_yes rfl ?_
          | exact imp_no rfl
          | with_reducible apply R.seq
          | ((with_reducible apply R.region); exact rfl)
          | with_reducible apply E.seqN
          | with_reducible apply E.seqX
          | with_reducible apply E.seqR
          | with_reducible apply E.blkN
          | with_reducible apply E.blkR
          | ((with_reducible apply E.blkX); exact rfl)
          | ((with_reducible apply E.blkO); exact rfl)
          | with_reducible apply R.skip
          | with_reducible apply R.ret
          | with_reducible apply R.block
          | ((first | ((with_reducible apply F.store); exact rfl; exact rfl; exact rfl; exact rfl) | ((with_reducible apply F.loadS); exact rfl; exact rfl; exact rfl) | ((with_reducible apply F.load2); exact rfl; exact rfl; exact rfl)); (focus (simp (disch := first | assumption | omega | (simp only [List.length_cons, List.length_nil, List.length_append, List.length_take, List.length_drop]; omega)) only [LS, storeV, loadV, partV, partP, cut, over, mkAgg, allP, asP, V.cells, PC, elDiv, elMod, elDiv0, Nat.mul_mod_left, Int.toNat_zero, Int.reduceToNat, *, hc, hb, hi1] <;> rfl)))
          | ((first | ((with_reducible apply F.append3); exact rfl; exact rfl; exact rfl; exact rfl; exact rfl; exact rfl; exact rfl; exact rfl)); (focus (simp (disch := first | assumption | omega | (simp only [List.length_cons, List.length_nil, List.length_append, List.length_take, List.length_drop]; omega)) only [LS, buildV, fillV, over, buildSliceV, elemsOf, appendV, elems, arrAt, cut, roomy, mkAgg, allP, asP, V.cells, PC, Int.toNat_zero, Int.reduceToNat, *, hc, hb, hi1] <;> rfl)))
          | ((first | ((with_reducible apply F.len); exact rfl; exact rfl; exact rfl)); (focus (simp (disch := first | assumption | omega | (simp only [List.length_cons, List.length_nil, List.length_append, List.length_take, List.length_drop]; omega)) only [LS, lenV_L, idx_L, below_at, Int.toNat_zero, Int.reduceToNat, *, hc, hb, hi1] <;> rfl)))
          | ((first | ((with_reducible apply F.index); exact rfl; exact rfl; exact rfl; exact rfl) | ((with_reducible apply F.slice); exact rfl; exact rfl; exact rfl; exact rfl; exact rfl; exact rfl) | ((with_reducible apply F.fieldAddrS); exact rfl; exact rfl; exact rfl) | ((with_reducible apply F.bin); exact rfl; exact rfl; exact rfl; exact rfl)); (focus (simp (disch := first | assumption | omega | (simp only [List.length_cons, List.length_nil, List.length_append, List.length_take, List.length_drop]; omega)) only [LS, indexAddrV, indexV, below_at, fieldV, fieldAddrV, convP, bytesOf, sliceV, bounds, bMax, bHi, bLo, upTo_at, makeFuncV, partV, partP, cut, binI, binS, binV, binP, arith, strOp_add, strOp_eql, strOp_neq, eqn, wrap64, wrap8, mkAgg, allP, asP, Option.getD_none, Int.toNat_zero, Int.reduceToNat, *, hc, hb, hi1] <;> rfl)))
          | ((first | ((with_reducible apply F.assignF); exact rfl; exact rfl) | ((with_reducible apply F.append2); exact rfl; exact rfl; exact rfl; exact rfl; exact rfl; exact rfl; exact rfl; exact rfl)); (focus (simp (disch := first | assumption | omega | (simp only [List.length_cons, List.length_nil, List.length_append, List.length_take, List.length_drop]; omega)) only [LS, frzCells, frz, markCells, mark, elems, arrAt, cut, allP, asP, appendV, V.cells, PC, roomy, Int.toNat_zero, Int.reduceToNat, *, hc, hb, hi1] <;> rfl)); (focus (simp (disch := first | assumption | omega | (simp only [List.length_cons, List.length_nil, List.length_append, List.length_take, List.length_drop]; omega)) only [LS, frzCells, frz, markCells, mark, elems, arrAt, cut, allP, asP, appendV, V.cells, PC, roomy, Int.toNat_zero, Int.reduceToNat, *, hc, hb, hi1] <;> rfl)))
          | ((with_reducible apply F.not); exact rfl; exact rfl; exact rfl)
          | ((with_reducible apply F.pickT'); exact rfl; exact rfl; (focus (simp only [decide_true, decide_false, Bool.not_true, Bool.not_false, List.toList_toArray, *, hc, hb, hi1]; done)); exact rfl)
          | ((with_reducible apply F.pickF'); exact rfl; exact rfl; (focus (simp only [decide_true, decide_false, Bool.not_true, Bool.not_false, List.toList_toArray, *, hc, hb, hi1]; done)); exact rfl)
          | (intro hc; (try rw [hc]); (try simp only [decide_eq_true_eq, decide_eq_false_iff_not, Bool.not_eq_eq_eq_not, Bool.not_true, Bool.not_false] at hc); (try (exfalso; omega)))
          | ((with_reducible apply E.r0); exact rfl; exact rfl)
          | ((first | ((with_reducible apply E.r1); exact rfl; exact rfl; (focus (exact look_of rfl))) | ((with_reducible apply E.rF1); exact rfl; exact rfl; (focus (exact look_of rfl))) | ((with_reducible apply E.rP1); exact rfl; exact rfl; (focus (exact look_of rfl))) | ((with_reducible apply E.r2); exact rfl; exact rfl; (focus (exact look_of rfl)); (focus (exact look_of rfl))) | ((with_reducible apply E.rF2); exact rfl; exact rfl; (focus (exact look_of rfl)); (focus (exact look_of rfl))) | ((with_reducible apply E.rP2); exact rfl; exact rfl; (focus (exact look_of rfl)); (focus (exact look_of rfl))) | ((with_reducible apply E.r3); exact rfl; exact rfl; (focus (exact look_of rfl)); (focus (exact look_of rfl)); (focus (exact look_of rfl))) | ((with_reducible apply E.rF3); exact rfl; exact rfl; (focus (exact look_of rfl)); (focus (exact look_of rfl)); (focus (exact look_of rfl))) | ((with_reducible apply E.rP3); exact rfl; exact rfl; (focus (exact look_of rfl)); (focus (exact look_of rfl)); (focus (exact look_of rfl)))))
          | refine R.regs rfl ?_
          | refine R.regsL rfl ?_
          | refine R.regsT rfl ?_
          | refine R.seq ?_
          | refine R.region rfl ?_
          | refine R.block ?_
          | exact rfl
  by_cases h5 : (c.toNat : Int) = 60 ∧ isEq text[i + 1]? = true
  · have hw : wordEnd text i c = some (i + 2) := by simp only [wordEnd, h1, h2, Bool.false_eq_true, if_false, if_neg h3, if_pos h5]
    simp only [hw]
    obtain ⟨h5, h6⟩ := h5
    have e2 : (i : Int) + 1 + 1 = ((i + 2 : Nat) : Int) := by omega
    cases hb : text[i + 1]? with
    | none => rw [hb] at h6; cases h6
    | some b =>
      rw [hb] at h6
      simp only [isEq, decide_eq_true_eq] at h6
      have hlt2 := (List.getElem?_eq_some_iff.1 hb).1
      clear hw hf0
      repeat' first
        | with_reducible apply M.free
        | with_reducible apply M.done
        | ((with_reducible apply F.move); exact rfl; exact rfl)
        | ((with_reducible apply F.load); exact rfl; exact rfl; exact rfl)
        | ((with_reducible apply F.cmp); exact rfl; exact rfl; exact rfl; exact rfl)
        | ((with_reducible apply F.assign); exact rfl; exact rfl)
        | ((with_reducible apply F.fieldAddr); exact rfl; exact rfl; exact rfl)
        | ((with_reducible apply F.len); exact rfl; exact rfl; exact rfl; exact rfl)
        | ((with_reducible apply F.nilCheck); exact rfl; exact rfl; exact rfl)
        | ((with_reducible apply F.pickT); exact rfl; exact rfl; exact rfl)
        | ((with_reducible apply F.pickF); exact rfl; exact rfl; exact rfl)
        | ((with_reducible apply F.cmpS); exact rfl; exact rfl; exact rfl; exact rfl)
        | ((first | ((with_reducible apply F.add); exact rfl; exact rfl; exact rfl) | ((with_reducible apply F.adds); exact rfl; exact rfl; exact rfl)); (focus (first | omega | (simp only [List.length_cons, List.length_nil, List.length_append, List.length_take, List.length_drop]; omega))))
        | ((with_reducible apply R.regs); exact rfl)
        | ((with_reducible apply F.call0); exact rfl; exact rfl; (focus (repeat' (first | exact Evs.nil | (apply Evs.cons; exact rfl)))); exact rfl; (focus (first | exact (letter_run _).fv | exact (digit_run _).fv)))
        | ((first | ((with_reducible apply F.call1); exact rfl; exact rfl; (focus (repeat' (first | exact Evs.nil | (apply Evs.cons; exact rfl))))) | ((with_reducible apply F.call1N); exact rfl; exact rfl; (focus (repeat' (first | exact Evs.nil | (apply Evs.cons; exact rfl))))) | ((with_reducible apply F.callC); exact rfl; exact rfl; (focus (repeat' (first | exact Evs.nil | (apply Evs.cons; exact rfl))))) | ((with_reducible apply F.callCN); exact rfl; exact rfl; (focus (repeat' (first | exact Evs.nil | (apply Evs.cons; exact rfl)))))); (focus (first | exact hr1 _ _ hr | exact hfail)))
        | ((first | (with_reducible apply R.cond) | ((with_reducible apply M.guard); exact rfl)); (focus (first | (refine Eq.trans (look_of rfl) ?_; first | (simp only [decide_true, decide_false, Bool.not_true, Bool.not_false, *, hc, hb, hi1] <;> rfl) | exact rfl) | exact look_of rfl)))
        | refine imp_yes rfl ?_
        | exact imp_no rfl
        | with_reducible apply R.seq
        | ((with_reducible apply R.region); exact rfl)
        | with_reducible apply E.seqN
        | with_reducible apply E.seqX
        | with_reducible apply E.seqR
        | with_reducible apply E.blkN
        | with_reducible apply E.blkR
        | ((with_reducible apply E.blkX); exact rfl)
        | ((with_reducible apply E.blkO); exact rfl)
        | with_reducible apply R.skip
        | with_reducible apply R.ret
        | with_reducible apply R.block
        | ((first | ((with_reducible apply F.store); exact rfl; exact rfl; exact rfl; exact rfl) | ((with_reducible apply F.loadS); exact rfl; exact rfl; exact rfl) | ((with_reducible apply F.load2); exact rfl; exact rfl; exact rfl)); (focus (simp (disch := first | assumption | omega | (simp only [List.length_cons, List.length_nil, List.length_append, List.length_take, List.length_drop]; omega)) only [LS, storeV, loadV, partV, partP, cut, over, mkAgg, allP, asP, V.cells, PC, elDiv, elMod, elDiv0, Nat.mul_mod_left, Int.toNat_zero, Int.reduceToNat, *, hc, hb, hi1] <;> rfl)))
        | ((first | ((with_reducible apply F.append3); exact rfl; exact rfl; exact rfl; exact rfl; exact rfl; exact rfl; exact rfl; exact rfl)); (focus (simp (disch := first | assumption | omega | (simp only [List.length_cons, List.length_nil, List.length_append, List.length_take, List.length_drop]; omega)) only [LS, buildV, fillV, over, buildSliceV, elemsOf, appendV, elems, arrAt, cut, roomy, mkAgg, allP, asP, V.cells, PC, Int.toNat_zero, Int.reduceToNat, *, hc, hb, hi1] <;> rfl)))
        | ((first | ((with_reducible apply F.len); exact rfl; exact rfl; exact rfl)); (focus (simp (disch := first | assumption | omega | (simp only [List.length_cons, List.length_nil, List.length_append, List.length_take, List.length_drop]; omega)) only [LS, lenV_L, idx_L, below_at, Int.toNat_zero, Int.reduceToNat, *, hc, hb, hi1] <;> rfl)))
        | ((first | ((with_reducible apply F.index); exact rfl; exact rfl; exact rfl; exact rfl) | ((with_reducible apply F.slice); exact rfl; exact rfl; exact rfl; exact rfl; exact rfl; exact rfl) | ((with_reducible apply F.fieldAddrS); exact rfl; exact rfl; exact rfl) | ((with_reducible apply F.bin); exact rfl; exact rfl; exact rfl; exact rfl)); (focus (simp (disch := first | assumption | omega | (simp only [List.length_cons, List.length_nil, List.length_append, List.length_take, List.length_drop]; omega)) only [LS, indexAddrV, indexV, below_at, fieldV, fieldAddrV, convP, bytesOf, sliceV, bounds, bMax, bHi, bLo, upTo_at, makeFuncV, partV, partP, cut, binI, binS, binV, binP, arith, strOp_add, strOp_eql, strOp_neq, eqn, wrap64, wrap8, mkAgg, allP, asP, Option.getD_none, Int.toNat_zero, Int.reduceToNat, *, hc, hb, hi1] <;> rfl)))
        | ((first | ((with_reducible apply F.assignF); exact rfl; exact rfl) | ((with_reducible apply F.append2); exact rfl; exact rfl; exact rfl; exact rfl; exact rfl; exact rfl; exact rfl; exact rfl)); (focus (simp (disch := first | assumption | omega | (simp only [List.length_cons, List.length_nil, List.length_append, List.length_take, List.length_drop]; omega)) only [LS, frzCells, frz, markCells, mark, elems, arrAt, cut, allP, asP, appendV, V.cells, PC, roomy, Int.toNat_zero, Int.reduceToNat, *, hc, hb, hi1] <;> rfl)); (focus (simp (disch := first | assumption | omega | (simp only [List.length_cons, List.length_nil, List.length_append, List.length_take, List.length_drop]; omega)) only [LS, frzCells, frz, markCells, mark, elems, arrAt, cut, allP, asP, appendV, V.cells, PC, roomy, Int.toNat_zero, Int.reduceToNat, *, hc, hb, hi1] <;> rfl)))
        | ((with_reducible apply F.not); exact rfl; exact rfl; exact rfl)
        | ((with_reducible apply F.pickT'); exact rfl; exact rfl; (focus (simp only [decide_true, decide_false, Bool.not_true, Bool.not_false, List.toList_toArray, *, hc, hb, hi1]; done)); exact rfl)
        | ((with_reducible apply F.pickF'); exact rfl; exact rfl; (focus (simp only [decide_true, decide_false, Bool.not_true, Bool.not_false, List.toList_toArray, *, hc, hb, hi1]; done)); exact rfl)
        | (intro hc; (try rw [hc]); (try simp only [decide_eq_true_eq, decide_eq_false_iff_not, Bool.not_eq_eq_eq_not, Bool.not_true, Bool.not_false] at hc); (try (exfalso; omega)))
        | ((with_reducible apply E.r0); exact rfl; exact rfl)
        | ((first | ((with_reducible apply E.r1); exact rfl; exact rfl; (focus (exact look_of rfl))) | ((with_reducible apply E.rF1); exact rfl; exact rfl; (focus (exact look_of rfl))) | ((with_reducible apply E.rP1); exact rfl; exact rfl; (focus (exact look_of rfl))) | ((with_reducible apply E.r2); exact rfl; exact rfl; (focus (exact look_of rfl)); (focus (exact look_of rfl))) | ((with_reducible apply E.rF2); exact rfl; exact rfl; (focus (exact look_of rfl)); (focus (exact look_of rfl))) | ((with_reducible apply E.rP2); exact rfl; exact rfl; (focus (exact look_of rfl)); (focus (exact look_of rfl))) | ((with_reducible apply E.r3); exact rfl; exact rfl; (focus (exact look_of rfl)); (focus (exact look_of rfl)); (focus (exact look_of rfl))) | ((with_reducible apply E.rF3); exact rfl; exact rfl; (focus (exact look_of rfl)); (focus (exact look_of rfl)); (focus (exact look_of rfl))) | ((with_reducible apply E.rP3); exact rfl; exact rfl; (focus (exact look_of rfl)); (focus (exact look_of rfl)); (focus (exact look_of rfl)))))
        | refine R.regs rfl ?_
        | refine R.regsL rfl ?_
        | refine R.regsT rfl ?_
        | refine R.seq ?_
        | refine R.region rfl ?_
        | refine R.block ?_
        | exact rfl
  have hh : (c.toNat : Int) = 60 → ∀ b, text[i + 1]? = some b → ¬ (b.toNat : Int) = 61 := fun h b hb h' => h5 ⟨h, by rw [hb]; simp only [isEq, h', decide_true]⟩
  by_cases h6 : sym c = true
  · have hw : wordEnd text i c = some (i + 1) := by simp only [wordEnd, h1, h2, Bool.false_eq_true, if_false, if_neg h3, if_neg h5, if_pos h6]
    simp only [hw]
    clear hw hf0
    simp only [sym, Bool.or_eq_true, decide_eq_true_eq] at h6
    by_cases h60 : (c.toNat : Int) = 60
    · cases hb : text[i + 1]? with
      | none =>
        have hle := List.getElem?_eq_none_iff.1 hb
        repeat' first
          | with_reducible apply M.free
          | with_reducible apply M.done
          | ((with_reducible apply F.move); exact rfl; exact rfl)
          | ((with_reducible apply F.load); exact rfl; exact rfl; exact rfl)
          | ((with_reducible apply F.cmp); exact rfl; exact rfl; exact rfl; exact rfl)
          | ((with_reducible apply F.assign); exact rfl; exact rfl)
          | ((with_reducible apply F.fieldAddr); exact rfl; exact rfl; exact rfl)
          | ((with_reducible apply F.len); exact rfl; exact rfl; exact rfl; exact rfl)
          | ((with_reducible apply F.nilCheck); exact rfl; exact rfl; exact rfl)
          | ((with_reducible apply F.pickT); exact rfl; exact rfl; exact rfl)
          | ((with_reducible apply F.pickF); exact rfl; exact rfl; exact rfl)
          | ((with_reducible apply F.cmpS); exact rfl; exact rfl; exact rfl; exact rfl)
          | ((first | ((with_reducible apply F.add); exact rfl; exact rfl; exact rfl) | ((with_reducible apply F.adds); exact rfl; exact rfl; exact rfl)); (focus (first | omega | (simp only [List.length_cons, List.length_nil, List.length_append, List.length_take, List.length_drop]; omega))))
          | ((with_reducible apply R.regs); exact rfl)
          | ((with_reducible apply F.call0); exact rfl; exact rfl; (focus (repeat' (first | exact Evs.nil | (apply Evs.cons; exact rfl)))); exact rfl; (focus (first | exact (letter_run _).fv | exact (digit_run _).fv)))
          | ((first | ((with_reducible apply F.call1); exact rfl; exact rfl; (focus (repeat' (first | exact Evs.nil | (apply Evs.cons; exact rfl))))) | ((with_reducible apply F.call1N); exact rfl; exact rfl; (focus (repeat' (first | exact Evs.nil | (apply Evs.cons; exact rfl))))) | ((with_reducible apply F.callC); exact rfl; exact rfl; (focus (repeat' (first | exact Evs.nil | (apply Evs.cons; exact rfl))))) | ((with_reducible apply F.callCN); exact rfl; exact rfl; (focus (repeat' (first | exact Evs.nil | (apply Evs.cons; exact rfl)))))); (focus (first | exact hr1 _ _ hr | exact hfail)))
          | ((first | (with_reducible apply R.cond) | ((with_reducible apply M.guard); exact rfl)); (focus (first | (refine Eq.trans (look_of rfl) ?_; first | (simp only [decide_true, decide_false, Bool.not_true, Bool.not_false, *, hc, hb, hi1] <;> rfl) | exact rfl) | exact look_of rfl)))
          | refine imp_yes rfl ?_
          | exact imp_no rfl
          | with_reducible apply R.seq
          | ((with_reducible apply R.region); exact rfl)
          | with_reducible apply E.seqN
          | with_reducible apply E.seqX
          | with_reducible apply E.seqR
          | with_reducible apply E.blkN
          | with_reducible apply E.blkR
          | ((with_reducible apply E.blkX); exact rfl)
          | ((with_reducible apply E.blkO); exact rfl)
          | with_reducible apply R.skip
          | with_reducible apply R.ret
          | with_reducible apply R.block
          | ((first | ((with_reducible apply F.store); exact rfl; exact rfl; exact rfl; exact rfl) | ((with_reducible apply F.loadS); exact rfl; exact rfl; exact rfl) | ((with_reducible apply F.load2); exact rfl; exact rfl; exact rfl)); (focus (simp (disch := first | assumption | omega | (simp only [List.length_cons, List.length_nil, List.length_append, List.length_take, List.length_drop]; omega)) only [LS, storeV, loadV, partV, partP, cut, over, mkAgg, allP, asP, V.cells, PC, elDiv, elMod, elDiv0, Nat.mul_mod_left, Int.toNat_zero, Int.reduceToNat, *, hc, hb, hi1] <;> rfl)))
          | ((first | ((with_reducible apply F.append3); exact rfl; exact rfl; exact rfl; exact rfl; exact rfl; exact rfl; exact rfl; exact rfl)); (focus (simp (disch := first | assumption | omega | (simp only [List.length_cons, List.length_nil, List.length_append, List.length_take, List.length_drop]; omega)) only [LS, buildV, fillV, over, buildSliceV, elemsOf, appendV, elems, arrAt, cut, roomy, mkAgg, allP, asP, V.cells, PC, Int.toNat_zero, Int.reduceToNat, *, hc, hb, hi1] <;> rfl)))
          | ((first | ((with_reducible apply F.len); exact rfl; exact rfl; exact rfl)); (focus (simp (disch := first | assumption | omega | (simp only [List.length_cons, List.length_nil, List.length_append, List.length_take, List.length_drop]; omega)) only [LS, lenV_L, idx_L, below_at, Int.toNat_zero, Int.reduceToNat, *, hc, hb, hi1] <;> rfl)))
          | ((first | ((with_reducible apply F.index); exact rfl; exact rfl; exact rfl; exact rfl) | ((with_reducible apply F.slice); exact rfl; exact rfl; exact rfl; exact rfl; exact rfl; exact rfl) | ((with_reducible apply F.fieldAddrS); exact rfl; exact rfl; exact rfl) | ((with_reducible apply F.bin); exact rfl; exact rfl; exact rfl; exact rfl)); (focus (simp (disch := first | assumption | omega | (simp only [List.length_cons, List.length_nil, List.length_append, List.length_take, List.length_drop]; omega)) only [LS, indexAddrV, indexV, below_at, fieldV, fieldAddrV, convP, bytesOf, sliceV, bounds, bMax, bHi, bLo, upTo_at, makeFuncV, partV, partP, cut, binI, binS, binV, binP, arith, strOp_add, strOp_eql, strOp_neq, eqn, wrap64, wrap8, mkAgg, allP, asP, Option.getD_none, Int.toNat_zero, Int.reduceToNat, *, hc, hb, hi1] <;> rfl)))
          | ((first | ((with_reducible apply F.assignF); exact rfl; exact rfl) | ((with_reducible apply F.append2); exact rfl; exact rfl; exact rfl; exact rfl; exact rfl; exact rfl; exact rfl; exact rfl)); (focus (simp (disch := first | assumption | omega | (simp only [List.length_cons, List.length_nil, List.length_append, List.length_take, List.length_drop]; omega)) only [LS, frzCells, frz, markCells, mark, elems, arrAt, cut, allP, asP, appendV, V.cells, PC, roomy, Int.toNat_zero, Int.reduceToNat, *, hc, hb, hi1] <;> rfl)); (focus (simp (disch := first | assumption | omega | (simp only [List.length_cons, List.length_nil, List.length_append, List.length_take, List.length_drop]; omega)) only [LS, frzCells, frz, markCells, mark, elems, arrAt, cut, allP, asP, appendV, V.cells, PC, roomy, Int.toNat_zero, Int.reduceToNat, *, hc, hb, hi1] <;> rfl)))
          | ((with_reducible apply F.not); exact rfl; exact rfl; exact rfl)
          | ((with_reducible apply F.pickT'); exact rfl; exact rfl; (focus (simp only [decide_true, decide_false, Bool.not_true, Bool.not_false, List.toList_toArray, *, hc, hb, hi1]; done)); exact rfl)
          | ((with_reducible apply F.pickF'); exact rfl; exact rfl; (focus (simp only [decide_true, decide_false, Bool.not_true, Bool.not_false, List.toList_toArray, *, hc, hb, hi1]; done)); exact rfl)
          | (intro hc; (try rw [hc]); (try simp only [decide_eq_true_eq, decide_eq_false_iff_not, Bool.not_eq_eq_eq_not, Bool.not_true, Bool.not_false] at hc); (try (exfalso; omega)))
          | ((with_reducible apply E.r0); exact rfl; exact rfl)
          | ((first | ((with_reducible apply E.r1); exact rfl; exact rfl; (focus (exact look_of rfl))) | ((with_reducible apply E.rF1); exact rfl; exact rfl; (focus (exact look_of rfl))) | ((with_reducible apply E.rP1); exact rfl; exact rfl; (focus (exact look_of rfl))) | ((with_reducible apply E.r2); exact rfl; exact rfl; (focus (exact look_of rfl)); (focus (exact look_of rfl))) | ((with_reducible apply E.rF2); exact rfl; exact rfl; (focus (exact look_of rfl)); (focus (exact look_of rfl))) | ((with_reducible apply E.rP2); exact rfl; exact rfl; (focus (exact look_of rfl)); (focus (exact look_of rfl))) | ((with_reducible apply E.r3); exact rfl; exact rfl; (focus (exact look_of rfl)); (focus (exact look_of rfl)); (focus (exact look_of rfl))) | ((with_reducible apply E.rF3); exact rfl; exact rfl; (focus (exact look_of rfl)); (focus (exact look_of rfl)); (focus (exact look_of rfl))) | ((with_reducible apply E.rP3); exact rfl; exact rfl; (focus (exact look_of rfl)); (focus (exact look_of rfl)); (focus (exact look_of rfl)))))
          | refine R.regs rfl ?_
          | refine R.regsL rfl ?_
          | refine R.regsT rfl ?_
          | refine R.seq ?_
          | refine R.region rfl ?_
          | refine R.block ?_
          | exact rfl
      | some b =>
        have hlt2 := (List.getElem?_eq_some_iff.1 hb).1
        have h61 := hh h60 b hb
        clear hh
        repeat' first
          | with_reducible apply M.free
          | with_reducible apply M.done
          | ((with_reducible apply F.move); exact rfl; exact rfl)
          | ((with_reducible apply F.load); exact rfl; exact rfl; exact rfl)
          | ((with_reducible apply F.cmp); exact rfl; exact rfl; exact rfl; exact rfl)
          | ((with_reducible apply F.assign); exact rfl; exact rfl)
          | ((with_reducible apply F.fieldAddr); exact rfl; exact rfl; exact rfl)
          | ((with_reducible apply F.len); exact rfl; exact rfl; exact rfl; exact rfl)
          | ((with_reducible apply F.nilCheck); exact rfl; exact rfl; exact rfl)
          | ((with_reducible apply F.pickT); exact rfl; exact rfl; exact rfl)
          | ((with_reducible apply F.pickF); exact rfl; exact rfl; exact rfl)
          | ((with_reducible apply F.cmpS); exact rfl; exact rfl; exact rfl; exact rfl)
          | ((first | ((with_reducible apply F.add); exact rfl; exact rfl; exact rfl) | ((with_reducible apply F.adds); exact rfl; exact rfl; exact rfl)); (focus (first | omega | (simp only [List.length_cons, List.length_nil, List.length_append, List.length_take, List.length_drop]; omega))))
          | ((with_reducible apply R.regs); exact rfl)
          | ((with_reducible apply F.call0); exact rfl; exact rfl; (focus (repeat' (first | exact Evs.nil | (apply Evs.cons; exact rfl)))); exact rfl; (focus (first | exact (letter_run _).fv | exact (digit_run _).fv)))
          | ((first | ((with_reducible apply F.call1); exact rfl; exact rfl; (focus (repeat' (first | exact Evs.nil | (apply Evs.cons; exact rfl))))) | ((with_reducible apply F.call1N); exact rfl; exact rfl; (focus (repeat' (first | exact Evs.nil | (apply Evs.cons; exact rfl))))) | ((with_reducible apply F.callC); exact rfl; exact rfl; (focus (repeat' (first | exact Evs.nil | (apply Evs.cons; exact rfl))))) | ((with_reducible apply F.callCN); exact rfl; exact rfl; (focus (repeat' (first | exact Evs.nil | (apply Evs.cons; exact rfl)))))); (focus (first | exact hr1 _ _ hr | exact hfail)))
          | ((first | (with_reducible apply R.cond) | ((with_reducible apply M.guard); exact rfl)); (focus (first | (refine Eq.trans (look_of rfl) ?_; first | (simp only [decide_true, decide_false, Bool.not_true, Bool.not_false, *, hc, hb, hi1] <;> rfl) | exact rfl) | exact look_of rfl)))
          | refine imp_yes rfl ?_
          | exact imp_no rfl
          | with_reducible apply R.seq
          | ((with_reducible apply R.region); exact rfl)
          | with_reducible apply E.seqN
          | with_reducible apply E.seqX
          | with_reducible apply E.seqR
          | with_reducible apply E.blkN
          | with_reducible apply E.blkR
          | ((with_reducible apply E.blkX); exact rfl)
          | ((with_reducible apply E.blkO); exact rfl)
          | with_reducible apply R.skip
          | with_reducible apply R.ret
          | with_reducible apply R.block
          | ((first | ((with_reducible apply F.store); exact rfl; exact rfl; exact rfl; exact rfl) | ((with_reducible apply F.loadS); exact rfl; exact rfl; exact rfl) | ((with_reducible apply F.load2); exact rfl; exact rfl; exact rfl)); (focus (simp (disch := first | assumption | omega | (simp only [List.length_cons, List.length_nil, List.length_append, List.length_take, List.length_drop]; omega)) only [LS, storeV, loadV, partV, partP, cut, over, mkAgg, allP, asP, V.cells, PC, elDiv, elMod, elDiv0, Nat.mul_mod_left, Int.toNat_zero, Int.reduceToNat, *, hc, hb, hi1] <;> rfl)))
          | ((first | ((with_reducible apply F.append3); exact rfl; exact rfl; exact rfl; exact rfl; exact rfl; exact rfl; exact rfl; exact rfl)); (focus (simp (disch := first | assumption | omega | (simp only [List.length_cons, List.length_nil, List.length_append, List.length_take, List.length_drop]; omega)) only [LS, buildV, fillV, over, buildSliceV, elemsOf, appendV, elems, arrAt, cut, roomy, mkAgg, allP, asP, V.cells, PC, Int.toNat_zero, Int.reduceToNat, *, hc, hb, hi1] <;> rfl)))
          | ((first | ((with_reducible apply F.len); exact rfl; exact rfl; exact rfl)); (focus (simp (disch := first | assumption | omega | (simp only [List.length_cons, List.length_nil, List.length_append, List.length_take, List.length_drop]; omega)) only [LS, lenV_L, idx_L, below_at, Int.toNat_zero, Int.reduceToNat, *, hc, hb, hi1] <;> rfl)))
          | ((first | ((with_reducible apply F.index); exact rfl; exact rfl; exact rfl; exact rfl) | ((with_reducible apply F.slice); exact rfl; exact rfl; exact rfl; exact rfl; exact rfl; exact rfl) | ((with_reducible apply F.fieldAddrS); exact rfl; exact rfl; exact rfl) | ((with_reducible apply F.bin); exact rfl; exact rfl; exact rfl; exact rfl)); (focus (simp (disch := first | assumption | omega | (simp only [List.length_cons, List.length_nil, List.length_append, List.length_take, List.length_drop]; omega)) only [LS, indexAddrV, indexV, below_at, fieldV, fieldAddrV, convP, bytesOf, sliceV, bounds, bMax, bHi, bLo, upTo_at, makeFuncV, partV, partP, cut, binI, binS, binV, binP, arith, strOp_add, strOp_eql, strOp_neq, eqn, wrap64, wrap8, mkAgg, allP, asP, Option.getD_none, Int.toNat_zero, Int.reduceToNat, *, hc, hb, hi1] <;> rfl)))
          | ((first | ((with_reducible apply F.assignF); exact rfl; exact rfl) | ((with_reducible apply F.append2); exact rfl; exact rfl; exact rfl; exact rfl; exact rfl; exact rfl; exact rfl; exact rfl)); (focus (simp (disch := first | assumption | omega | (simp only [List.length_cons, List.length_nil, List.length_append, List.length_take, List.length_drop]; omega)) only [LS, frzCells, frz, markCells, mark, elems, arrAt, cut, allP, asP, appendV, V.cells, PC, roomy, Int.toNat_zero, Int.reduceToNat, *, hc, hb, hi1] <;> rfl)); (focus (simp (disch := first | assumption | omega | (simp only [List.length_cons, List.length_nil, List.length_append, List.length_take, List.length_drop]; omega)) only [LS, frzCells, frz, markCells, mark, elems, arrAt, cut, allP, asP, appendV, V.cells, PC, roomy, Int.toNat_zero, Int.reduceToNat, *, hc, hb, hi1] <;> rfl)))
          | ((with_reducible apply F.not); exact rfl; exact rfl; exact rfl)
          | ((with_reducible apply F.pickT'); exact rfl; exact rfl; (focus (simp only [decide_true, decide_false, Bool.not_true, Bool.not_false, List.toList_toArray, *, hc, hb, hi1]; done)); exact rfl)
          | ((with_reducible apply F.pickF'); exact rfl; exact rfl; (focus (simp only [decide_true, decide_false, Bool.not_true, Bool.not_false, List.toList_toArray, *, hc, hb, hi1]; done)); exact rfl)
          | (intro hc; (try rw [hc]); (try simp only [decide_eq_true_eq, decide_eq_false_iff_not, Bool.not_eq_eq_eq_not, Bool.not_true, Bool.not_false] at hc); (try (exfalso; omega)))
          | ((with_reducible apply E.r0); exact rfl; exact rfl)
          | ((first | ((with_reducible apply E.r1); exact rfl; exact rfl; (focus (exact look_of rfl))) | ((with_reducible apply E.rF1); exact rfl; exact rfl; (focus (exact look_of rfl))) | ((with_reducible apply E.rP1); exact rfl; exact rfl; (focus (exact look_of rfl))) | ((with_reducible apply E.r2); exact rfl; exact rfl; (focus (exact look_of rfl)); (focus (exact look_of rfl))) | ((with_reducible apply E.rF2); exact rfl; exact rfl; (focus (exact look_of rfl)); (focus (exact look_of rfl))) | ((with_reducible apply E.rP2); exact rfl; exact rfl; (focus (exact look_of rfl)); (focus (exact look_of rfl))) | ((with_reducible apply E.r3); exact rfl; exact rfl; (focus (exact look_of rfl)); (focus (exact look_of rfl)); (focus (exact look_of rfl))) | ((with_reducible apply E.rF3); exact rfl; exact rfl; (focus (exact look_of rfl)); (focus (exact look_of rfl)); (focus (exact look_of rfl))) | ((with_reducible apply E.rP3); exact rfl; exact rfl; (focus (exact look_of rfl)); (focus (exact look_of rfl)); (focus (exact look_of rfl)))))
          | refine R.regs rfl ?_
          | refine R.regsL rfl ?_
          | refine R.regsT rfl ?_
          | refine R.seq ?_
          | refine R.region rfl ?_
          | refine R.block ?_
          | exact rfl
    · clear hh
      repeat' first
        | with_reducible apply M.free
        | with_reducible apply M.done
        | ((with_reducible apply F.move); exact rfl; exact rfl)
        | ((with_reducible apply F.load); exact rfl; exact rfl; exact rfl)
        | ((with_reducible apply F.cmp); exact rfl; exact rfl; exact rfl; exact rfl)
        | ((with_reducible apply F.assign); exact rfl; exact rfl)
        | ((with_reducible apply F.fieldAddr); exact rfl; exact rfl; exact rfl)
        | ((with_reducible apply F.len); exact rfl; exact rfl; exact rfl; exact rfl)
        | ((with_reducible apply F.nilCheck); exact rfl; exact rfl; exact rfl)
        | ((with_reducible apply F.pickT); exact rfl; exact rfl; exact rfl)
        | ((with_reducible apply F.pickF); exact rfl; exact rfl; exact rfl)
        | ((with_reducible apply F.cmpS); exact rfl; exact rfl; exact rfl; exact rfl)
        | ((first | ((with_reducible apply F.add); exact rfl; exact rfl; exact rfl) | ((with_reducible apply F.adds); exact rfl; exact rfl; exact rfl)); (focus (first | omega | (simp only [List.length_cons, List.length_nil, List.length_append, List.length_take, List.length_drop]; omega))))
        | ((with_reducible apply R.regs); exact rfl)
        | ((with_reducible apply F.call0); exact rfl; exact rfl; (focus (repeat' (first | exact Evs.nil | (apply Evs.cons; exact rfl)))); exact rfl; (focus (first | exact (letter_run _).fv | exact (digit_run _).fv)))
        | ((first | ((with_reducible apply F.call1); exact rfl; exact rfl; (focus (repeat' (first | exact Evs.nil | (apply Evs.cons; exact rfl))))) | ((with_reducible apply F.call1N); exact rfl; exact rfl; (focus (repeat' (first | exact Evs.nil | (apply Evs.cons; exact rfl))))) | ((with_reducible apply F.callC); exact rfl; exact rfl; (focus (repeat' (first | exact Evs.nil | (apply Evs.cons; exact rfl))))) | ((with_reducible apply F.callCN); exact rfl; exact rfl; (focus (repeat' (first | exact Evs.nil | (apply Evs.cons; exact rfl)))))); (focus (first | exact hr1 _ _ hr | exact hfail)))
        | ((first | (with_reducible apply R.cond) | ((with_reducible apply M.guard); exact rfl)); (focus (first | (refine Eq.trans (look_of rfl) ?_; first | (simp only [decide_true, decide_false, Bool.not_true, Bool.not_false, *, hc, hi1] <;> rfl) | exact rfl) | exact look_of rfl)))
        | refine imp_yes rfl ?_
        | exact imp_no rfl
        | with_reducible apply R.seq
        | ((with_reducible apply R.region); exact rfl)
        | with_reducible apply E.seqN
        | with_reducible apply E.seqX
        | with_reducible apply E.seqR
        | with_reducible apply E.blkN
        | with_reducible apply E.blkR
        | ((with_reducible apply E.blkX); exact rfl)
        | ((with_reducible apply E.blkO); exact rfl)
        | with_reducible apply R.skip
        | with_reducible apply R.ret
        | with_reducible apply R.block
        | ((first | ((with_reducible apply F.store); exact rfl; exact rfl; exact rfl; exact rfl) | ((with_reducible apply F.loadS); exact rfl; exact rfl; exact rfl) | ((with_reducible apply F.load2); exact rfl; exact rfl; exact rfl)); (focus (simp (disch := first | assumption | omega | (simp only [List.length_cons, List.length_nil, List.length_append, List.length_take, List.length_drop]; omega)) only [LS, storeV, loadV, partV, partP, cut, over, mkAgg, allP, asP, V.cells, PC, elDiv, elMod, elDiv0, Nat.mul_mod_left, Int.toNat_zero, Int.reduceToNat, *, hc, hi1] <;> rfl)))
        | ((first | ((with_reducible apply F.append3); exact rfl; exact rfl; exact rfl; exact rfl; exact rfl; exact rfl; exact rfl; exact rfl)); (focus (simp (disch := first | assumption | omega | (simp only [List.length_cons, List.length_nil, List.length_append, List.length_take, List.length_drop]; omega)) only [LS, buildV, fillV, over, buildSliceV, elemsOf, appendV, elems, arrAt, cut, roomy, mkAgg, allP, asP, V.cells, PC, Int.toNat_zero, Int.reduceToNat, *, hc, hi1] <;> rfl)))
        | ((first | ((with_reducible apply F.len); exact rfl; exact rfl; exact rfl)); (focus (simp (disch := first | assumption | omega | (simp only [List.length_cons, List.length_nil, List.length_append, List.length_take, List.length_drop]; omega)) only [LS, lenV_L, idx_L, below_at, Int.toNat_zero, Int.reduceToNat, *, hc, hi1] <;> rfl)))
        | ((first | ((with_reducible apply F.index); exact rfl; exact rfl; exact rfl; exact rfl) | ((with_reducible apply F.slice); exact rfl; exact rfl; exact rfl; exact rfl; exact rfl; exact rfl) | ((with_reducible apply F.fieldAddrS); exact rfl; exact rfl; exact rfl) | ((with_reducible apply F.bin); exact rfl; exact rfl; exact rfl; exact rfl)); (focus (simp (disch := first | assumption | omega | (simp only [List.length_cons, List.length_nil, List.length_append, List.length_take, List.length_drop]; omega)) only [LS, indexAddrV, indexV, below_at, fieldV, fieldAddrV, convP, bytesOf, sliceV, bounds, bMax, bHi, bLo, upTo_at, makeFuncV, partV, partP, cut, binI, binS, binV, binP, arith, strOp_add, strOp_eql, strOp_neq, eqn, wrap64, wrap8, mkAgg, allP, asP, Option.getD_none, Int.toNat_zero, Int.reduceToNat, *, hc, hi1] <;> rfl)))
        | ((first | ((with_reducible apply F.assignF); exact rfl; exact rfl) | ((with_reducible apply F.append2); exact rfl; exact rfl; exact rfl; exact rfl; exact rfl; exact rfl; exact rfl; exact rfl)); (focus (simp (disch := first | assumption | omega | (simp only [List.length_cons, List.length_nil, List.length_append, List.length_take, List.length_drop]; omega)) only [LS, frzCells, frz, markCells, mark, elems, arrAt, cut, allP, asP, appendV, V.cells, PC, roomy, Int.toNat_zero, Int.reduceToNat, *, hc, hi1] <;> rfl)); (focus (simp (disch := first | assumption | omega | (simp only [List.length_cons, List.length_nil, List.length_append, List.length_take, List.length_drop]; omega)) only [LS, frzCells, frz, markCells, mark, elems, arrAt, cut, allP, asP, appendV, V.cells, PC, roomy, Int.toNat_zero, Int.reduceToNat, *, hc, hi1] <;> rfl)))
        | ((with_reducible apply F.not); exact rfl; exact rfl; exact rfl)
        | ((with_reducible apply F.pickT'); exact rfl; exact rfl; (focus (simp only [decide_true, decide_false, Bool.not_true, Bool.not_false, List.toList_toArray, *, hc, hi1]; done)); exact rfl)
        | ((with_reducible apply F.pickF'); exact rfl; exact rfl; (focus (simp only [decide_true, decide_false, Bool.not_true, Bool.not_false, List.toList_toArray, *, hc, hi1]; done)); exact rfl)
        | (intro hc; (try rw [hc]); (try simp only [decide_eq_true_eq, decide_eq_false_iff_not, Bool.not_eq_eq_eq_not, Bool.not_true, Bool.not_false] at hc); (try (exfalso; omega)))
        | ((with_reducible apply E.r0); exact rfl; exact rfl)
        | ((first | ((with_reducible apply E.r1); exact rfl; exact rfl; (focus (exact look_of rfl))) | ((with_reducible apply E.rF1); exact rfl; exact rfl; (focus (exact look_of rfl))) | ((with_reducible apply E.rP1); exact rfl; exact rfl; (focus (exact look_of rfl))) | ((with_reducible apply E.r2); exact rfl; exact rfl; (focus (exact look_of rfl)); (focus (exact look_of rfl))) | ((with_reducible apply E.rF2); exact rfl; exact rfl; (focus (exact look_of rfl)); (focus (exact look_of rfl))) | ((with_reducible apply E.rP2); exact rfl; exact rfl; (focus (exact look_of rfl)); (focus (exact look_of rfl))) | ((with_reducible apply E.r3); exact rfl; exact rfl; (focus (exact look_of rfl)); (focus (exact look_of rfl)); (focus (exact look_of rfl))) | ((with_reducible apply E.rF3); exact rfl; exact rfl; (focus (exact look_of rfl)); (focus (exact look_of rfl)); (focus (exact look_of rfl))) | ((with_reducible apply E.rP3); exact rfl; exact rfl; (focus (exact look_of rfl)); (focus (exact look_of rfl)); (focus (exact look_of rfl)))))
        | refine R.regs rfl ?_
        | refine R.regsL rfl ?_
        | refine R.regsT rfl ?_
        | refine R.seq ?_
        | refine R.region rfl ?_
        | refine R.block ?_
        | exact rfl
  · have hw : wordEnd text i c = none := by simp only [wordEnd, h1, h2, Bool.false_eq_true, if_false, if_neg h3, if_neg h5, if_neg h6]
    simp only [hw, hf0]
    clear hw hf0 hh
    simp only [sym, Bool.or_eq_true, decide_eq_true_eq, not_or] at h6
    have h60 : ¬ (c.toNat : Int) = 60 := h6.2.2.2.2.2.2.1
    repeat' first
      | with_reducible apply M.free
      | with_reducible apply M.done
      | ((with_reducible apply F.move); exact rfl; exact rfl)
      | ((with_reducible apply F.load); exact rfl; exact rfl; exact rfl)
      | ((with_reducible apply F.cmp); exact rfl; exact rfl; exact rfl; exact rfl)
      | ((with_reducible apply F.assign); exact rfl; exact rfl)
      | ((with_reducible apply F.fieldAddr); exact rfl; exact rfl; exact rfl)
      | ((with_reducible apply F.len); exact rfl; exact rfl; exact rfl; exact rfl)
      | ((with_reducible apply F.nilCheck); exact rfl; exact rfl; exact rfl)
      | ((with_reducible apply F.pickT); exact rfl; exact rfl; exact rfl)
      | ((with_reducible apply F.pickF); exact rfl; exact rfl; exact rfl)
      | ((with_reducible apply F.cmpS); exact rfl; exact rfl; exact rfl; exact rfl)
      | ((first | ((with_reducible apply F.add); exact rfl; exact rfl; exact rfl) | ((with_reducible apply F.adds); exact rfl; exact rfl; exact rfl)); (focus (first | omega | (simp only [List.length_cons, List.length_nil, List.length_append, List.length_take, List.length_drop]; omega))))
      | ((with_reducible apply R.regs); exact rfl)
      | ((with_reducible apply F.call0); exact rfl; exact rfl; (focus (repeat' (first | exact Evs.nil | (apply Evs.cons; exact rfl)))); exact rfl; (focus (first | exact (letter_run _).fv | exact (digit_run _).fv)))
      | ((first | ((with_reducible apply F.call1); exact rfl; exact rfl; (focus (repeat' (first | exact Evs.nil | (apply Evs.cons; exact rfl))))) | ((with_reducible apply F.call1N); exact rfl; exact rfl; (focus (repeat' (first | exact Evs.nil | (apply Evs.cons; exact rfl))))) | ((with_reducible apply F.callC); exact rfl; exact rfl; (focus (repeat' (first | exact Evs.nil | (apply Evs.cons; exact rfl))))) | ((with_reducible apply F.callCN); exact rfl; exact rfl; (focus (repeat' (first | exact Evs.nil | (apply Evs.cons; exact rfl)))))); (focus (first | exact hr1 _ _ hr | exact hfail)))
      | ((first | (with_reducible apply R.cond) | ((with_reducible apply M.guard); exact rfl)); (focus (first | (refine Eq.trans (look_of rfl) ?_; first | (simp only [decide_true, decide_false, Bool.not_true, Bool.not_false, *, hc, hi1] <;> rfl) | exact rfl) | exact look_of rfl)))
      | refine imp_yes rfl ?_
      | exact imp_no rfl
      | with_reducible apply R.seq
      | ((with_reducible apply R.region); exact rfl)
      | with_reducible apply E.seqN
      | with_reducible apply E.seqX
      | with_reducible apply E.seqR
      | with_reducible apply E.blkN
      | with_reducible apply E.blkR
      | ((with_reducible apply E.blkX); exact rfl)
      | ((with_reducible apply E.blkO); exact rfl)
      | with_reducible apply R.skip
      | with_reducible apply R.ret
      | with_reducible apply R.block
      | ((first | ((with_reducible apply F.store); exact rfl; exact rfl; exact rfl; exact rfl) | ((with_reducible apply F.loadS); exact rfl; exact rfl; exact rfl) | ((with_reducible apply F.load2); exact rfl; exact rfl; exact rfl)); (focus (simp (disch := first | assumption | omega | (simp only [List.length_cons, List.length_nil, List.length_append, List.length_take, List.length_drop]; omega)) only [LS, storeV, loadV, partV, partP, cut, over, mkAgg, allP, asP, V.cells, PC, elDiv, elMod, elDiv0, Nat.mul_mod_left, Int.toNat_zero, Int.reduceToNat, *, hc, hi1] <;> rfl)))
      | ((first | ((with_reducible apply F.append3); exact rfl; exact rfl; exact rfl; exact rfl; exact rfl; exact rfl; exact rfl; exact rfl)); (focus (simp (disch := first | assumption | omega | (simp only [List.length_cons, List.length_nil, List.length_append, List.length_take, List.length_drop]; omega)) only [LS, buildV, fillV, over, buildSliceV, elemsOf, appendV, elems, arrAt, cut, roomy, mkAgg, allP, asP, V.cells, PC, Int.toNat_zero, Int.reduceToNat, *, hc, hi1] <;> rfl)))
      | ((first | ((with_reducible apply F.len); exact rfl; exact rfl; exact rfl)); (focus (simp (disch := first | assumption | omega | (simp only [List.length_cons, List.length_nil, List.length_append, List.length_take, List.length_drop]; omega)) only [LS, lenV_L, idx_L, below_at, Int.toNat_zero, Int.reduceToNat, *, hc, hi1] <;> rfl)))
      | ((first | ((with_reducible apply F.index); exact rfl; exact rfl; exact rfl; exact rfl) | ((with_reducible apply F.slice); exact rfl; exact rfl; exact rfl; exact rfl; exact rfl; exact rfl) | ((with_reducible apply F.fieldAddrS); exact rfl; exact rfl; exact rfl) | ((with_reducible apply F.bin); exact rfl; exact rfl; exact rfl; exact rfl)); (focus (simp (disch := first | assumption | omega | (simp only [List.length_cons, List.length_nil, List.length_append, List.length_take, List.length_drop]; omega)) only [LS, indexAddrV, indexV, below_at, fieldV, fieldAddrV, convP, bytesOf, sliceV, bounds, bMax, bHi, bLo, upTo_at, makeFuncV, partV, partP, cut, binI, binS, binV, binP, arith, strOp_add, strOp_eql, strOp_neq, eqn, wrap64, wrap8, mkAgg, allP, asP, Option.getD_none, Int.toNat_zero, Int.reduceToNat, *, hc, hi1] <;> rfl)))
      | ((first | ((with_reducible apply F.assignF); exact rfl; exact rfl) | ((with_reducible apply F.append2); exact rfl; exact rfl; exact rfl; exact rfl; exact rfl; exact rfl; exact rfl; exact rfl)); (focus (simp (disch := first | assumption | omega | (simp only [List.length_cons, List.length_nil, List.length_append, List.length_take, List.length_drop]; omega)) only [LS, frzCells, frz, markCells, mark, elems, arrAt, cut, allP, asP, appendV, V.cells, PC, roomy, Int.toNat_zero, Int.reduceToNat, *, hc, hi1] <;> rfl)); (focus (simp (disch := first | assumption | omega | (simp only [List.length_cons, List.length_nil, List.length_append, List.length_take, List.length_drop]; omega)) only [LS, frzCells, frz, markCells, mark, elems, arrAt, cut, allP, asP, appendV, V.cells, PC, roomy, Int.toNat_zero, Int.reduceToNat, *, hc, hi1] <;> rfl)))
      | ((with_reducible apply F.not); exact rfl; exact rfl; exact rfl)
      | ((with_reducible apply F.pickT'); exact rfl; exact rfl; (focus (simp only [decide_true, decide_false, Bool.not_true, Bool.not_false, List.toList_toArray, *, hc, hi1]; done)); exact rfl)
      | ((with_reducible apply F.pickF'); exact rfl; exact rfl; (focus (simp only [decide_true, decide_false, Bool.not_true, Bool.not_false, List.toList_toArray, *, hc, hi1]; done)); exact rfl)
      | (intro hc; (try rw [hc]); (try simp only [decide_eq_true_eq, decide_eq_false_iff_not, Bool.not_eq_eq_eq_not, Bool.not_true, Bool.not_false] at hc); (try (exfalso; omega)))
      | ((with_reducible apply E.r0); exact rfl; exact rfl)
      | ((first | ((with_reducible apply E.r1); exact rfl; exact rfl; (focus (exact look_of rfl))) | ((with_reducible apply E.rF1); exact rfl; exact rfl; (focus (exact look_of rfl))) | ((with_reducible apply E.rP1); exact rfl; exact rfl; (focus (exact look_of rfl))) | ((with_reducible apply E.r2); exact rfl; exact rfl; (focus (exact look_of rfl)); (focus (exact look_of rfl))) | ((with_reducible apply E.rF2); exact rfl; exact rfl; (focus (exact look_of rfl)); (focus (exact look_of rfl))) | ((with_reducible apply E.rP2); exact rfl; exact rfl; (focus (exact look_of rfl)); (focus (exact look_of rfl))) | ((with_reducible apply E.r3); exact rfl; exact rfl; (focus (exact look_of rfl)); (focus (exact look_of rfl)); (focus (exact look_of rfl))) | ((with_reducible apply E.rF3); exact rfl; exact rfl; (focus (exact look_of rfl)); (focus (exact look_of rfl)); (focus (exact look_of rfl))) | ((with_reducible apply E.rP3); exact rfl; exact rfl; (focus (exact look_of rfl)); (focus (exact look_of rfl)); (focus (exact look_of rfl)))))
      | refine R.regs rfl ?_
      | refine R.regsL rfl ?_
      | refine R.regsT rfl ?_
      | refine R.seq ?_
      | refine R.region rfl ?_
      | refine R.block ?_
      | exact rfl
end Go.Proofs.YtojpocfnjigmfaaDoor
