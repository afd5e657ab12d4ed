import Derived.Test.YtojpocfnjigmfaaDoorE4
set_option maxRecDepth 10000
set_option linter.unusedSimpArgs false
set_option linter.unusedVariables false
namespace Go.Proofs.YtojpocfnjigmfaaDoor
open Go Go.AX
theorem plain_un {x : Pv} {vars : List (List UInt8)} (i : Ins) (a : T) (hi : i.op = 4 ∨ i.op = 5) (hp : PV cx 30 [.p a.pv, .p x] (.str (plainF vars a))) (hl : (plainF vars a).length ≤ 100000) : PV cx 30 [.p (T.un i a).pv, .p x] (.str (plainF vars (.un i a))) := by
  refine PV.run cxF30 rfl ?_
  have hsh := (shown_run a hp (by omega) 6).fv
  have hr := (T.rank_run (.un i a)).fv
  have hp := hp.fv
  obtain ⟨op, n⟩ := i
  obtain ⟨l, e⟩ := node_pv a
  have hlen := held_len (plainF vars a) a.rank 6
  have e4 : plainF vars (.un ⟨4, n⟩ a) = if a.ins.op = 1 ∧ a.ins.n ≥ 0 then [45, 40] ++ plainF vars a ++ [41] else 45 :: heldF (plainF vars a) a.rank 6 := rfl
  have e5 : plainF vars (.un ⟨5, n⟩ a) = 33 :: heldF (plainF vars a) a.rank 6 := rfl
  simp only [T.pv, node, List.isEmpty_cons] at hr ⊢
  rw [e] at hp hsh hr ⊢
  generalize a.ins.op = aop at *
  generalize a.ins.n = an at *
  generalize heldF (plainF vars a) a.rank 6 = s6 at *
  generalize plainF vars a = s at *
  simp only [args0, Nat.zero_add, Nat.reduceAdd]
  clear e
  rcases hi with h | h
  · simp only at h
    subst h
    rw [e4]
    clear e4 e5
    by_cases ha : aop = 1
    · subst ha
      by_cases h1 : an ≥ 0
      · rw [if_pos ⟨rfl, h1⟩]
        repeat' first
          | with_reducible apply M.free
          | with_reducible apply M.done
          | ((with_reducible apply F.move); exact rfl; exact rfl)
          | ((with_reducible apply F.load); exact rfl; exact rfl; exact rfl)
          | ((with_reducible apply F.cmp); exact rfl; exact rfl; exact rfl; exact rfl)
          | ((with_reducible apply F.assign); exact rfl; exact rfl)
          | ((with_reducible apply F.fieldAddr); exact rfl; exact rfl; exact rfl)
          | ((with_reducible apply F.len); exact rfl; exact rfl; exact rfl; exact rfl)
          | ((with_reducible apply F.nilCheck); exact rfl; exact rfl; exact rfl)
          | ((with_reducible apply F.extract); exact rfl; exact rfl; exact rfl)
          | ((with_reducible apply F.pickT); exact rfl; exact rfl; exact rfl)
          | ((with_reducible apply F.pickF); exact rfl; exact rfl; exact rfl)
          | ((with_reducible apply F.cmpS); exact rfl; exact rfl; exact rfl; exact rfl)
          | ((first | ((with_reducible apply F.add); exact rfl; exact rfl; exact rfl) | ((with_reducible apply F.sub); exact rfl; exact rfl; exact rfl) | ((with_reducible apply F.adds); exact rfl; exact rfl; exact rfl) | ((with_reducible apply F.neg); exact rfl; exact rfl)); (focus (first | omega | (simp only [List.length_cons, List.length_nil, List.length_append, List.length_take, List.length_drop]; omega))))
          | ((with_reducible apply R.regs); exact rfl)
          | ((with_reducible apply R.regsL); exact rfl)
          | ((with_reducible apply R.regsT); exact rfl)
          | ((with_reducible apply Cut.of); (focus (repeat' (first | exact Kp.nil | (apply Kp.cons; exact rfl)))); (focus ((try simp only [List.take_succ_cons, List.take_zero, List.take_nil, Nat.zero_add, Nat.reduceAdd]) <;> rfl)); (focus (first | exact rfl | (simp [cutOk, lowOb, lowV, lowCell, low_map]; done))))
          | ((with_reducible apply Lv.of); (focus (repeat' (first | exact Kp.nil | (apply Kp.cons; exact rfl)))))
          | ((with_reducible apply F.call0); exact rfl; exact rfl; (focus (repeat' (first | exact Evs.nil | (apply Evs.cons; exact rfl)))); exact rfl; (focus (first | exact hr | exact hp | exact hsh)))
          | ((first | (with_reducible apply R.cond) | ((with_reducible apply M.guard); exact rfl)); (focus (first | (refine Eq.trans (look_of rfl) ?_; first | (simp only [decide_true, decide_false, Bool.not_true, Bool.not_false, *] <;> rfl) | exact rfl) | exact look_of rfl)))
          | refine imp_yes rfl ?_
          | exact imp_no rfl
          | with_reducible apply R.seq
          | ((with_reducible apply R.region); exact rfl)
          | ((with_reducible apply R.regionL); exact rfl)
          | ((with_reducible apply R.regionT); exact rfl)
          | with_reducible apply E.seqN
          | with_reducible apply E.seqX
          | with_reducible apply E.seqR
          | with_reducible apply E.blkN
          | with_reducible apply E.blkR
          | ((with_reducible apply E.blkX); exact rfl)
          | ((with_reducible apply E.blkO); exact rfl)
          | with_reducible apply R.skip
          | with_reducible apply R.ret
          | with_reducible apply R.block
          | with_reducible apply R.exit
          | ((first | ((with_reducible apply F.store); exact rfl; exact rfl; exact rfl; exact rfl) | ((with_reducible apply F.loadS); exact rfl; exact rfl; exact rfl) | ((with_reducible apply F.load2); exact rfl; exact rfl; exact rfl)); (focus (simp (disch := first | assumption | omega | (simp only [List.length_cons, List.length_nil, List.length_append, List.length_take, List.length_drop]; omega)) only [LS, storeV, loadV, partV, partP, cut, over, mkAgg, allP, asP, V.cells, Pv.cells, elDiv, elMod, elDiv0, Nat.mul_mod_left, Int.toNat_zero, Int.reduceToNat, *] <;> rfl)))
          | ((first | ((with_reducible apply F.alloc); exact rfl; exact rfl)); (focus (simp only [LS] <;> rfl)); (focus (simp only [LS] <;> rfl)))
          | ((first | ((with_reducible apply F.box); exact rfl; exact rfl; exact rfl)); (focus (simp (disch := first | assumption | omega | (simp only [List.length_cons, List.length_nil, List.length_append, List.length_take, List.length_drop]; omega)) only [LS, storeV, loadV, partV, partP, cut, over, mkAgg, allP, asP, V.cells, Pv.cells, elDiv, elMod, elDiv0, Nat.mul_mod_left, Int.toNat_zero, Int.reduceToNat, *] <;> rfl)); exact rfl; (focus (simp only [LS] <;> rfl)); (focus (simp only [LS] <;> rfl)))
          | ((first | ((with_reducible apply F.build); exact rfl; exact rfl; (focus (repeat' (first | exact Prs.nil | (apply Prs.cons; exact rfl))))) | ((with_reducible apply F.buildSlice); exact rfl; exact rfl; (focus (repeat' (first | exact Prs.nil | (apply Prs.cons; exact rfl))))) | ((with_reducible apply F.append); exact rfl; exact rfl; exact rfl; exact rfl; exact rfl; exact rfl; exact rfl; exact rfl) | ((with_reducible apply F.append3); exact rfl; exact rfl; exact rfl; exact rfl; exact rfl; exact rfl; exact rfl; exact rfl)); (focus (simp (disch := first | assumption | omega | (simp only [List.length_cons, List.length_nil, List.length_append, List.length_take, List.length_drop]; omega)) only [LS, buildV, fillV, over, buildSliceV, elemsOf, appendV, elems, arrAt, cut, roomy, mkAgg, allP, asP, V.cells, Pv.cells, Int.toNat_zero, Int.reduceToNat, *] <;> rfl)))
          | ((first | ((with_reducible apply F.indexAddr); exact rfl; exact rfl; exact rfl; exact rfl) | ((with_reducible apply F.len); exact rfl; exact rfl; exact rfl)); (focus (simp (disch := first | assumption | omega | (simp only [List.length_cons, List.length_nil, List.length_append, List.length_take, List.length_drop]; omega)) only [LS, lenV_L, idx_L, below_at, Int.toNat_zero, Int.reduceToNat, *] <;> rfl)))
          | ((first | ((with_reducible apply F.indexAddr); exact rfl; exact rfl; exact rfl; exact rfl) | ((with_reducible apply F.index); exact rfl; exact rfl; exact rfl; exact rfl) | ((with_reducible apply F.convert); exact rfl; exact rfl; exact rfl; exact rfl) | ((with_reducible apply F.slice); exact rfl; exact rfl; exact rfl; exact rfl; exact rfl; exact rfl) | ((with_reducible apply F.makeFunc); exact rfl; (focus (repeat' (first | exact Evs.nil | (apply Evs.cons; exact rfl)))); (focus (repeat' (first | exact Evs.nil | (apply Evs.cons; exact rfl))))) | ((with_reducible apply F.field); exact rfl; exact rfl; exact rfl) | ((with_reducible apply F.fieldAddrS); exact rfl; exact rfl; exact rfl) | ((with_reducible apply F.bin); exact rfl; exact rfl; exact rfl; exact rfl)); (focus (simp (disch := first | assumption | omega | (simp only [List.length_cons, List.length_nil, List.length_append, List.length_take, List.length_drop]; omega)) only [LS, indexAddrV, indexV, below_at, fieldV, fieldAddrV, convP, bytesOf, sliceV, bounds, bMax, bHi, bLo, upTo_at, makeFuncV, partV, partP, cut, binI, binS, binV, binP, arith, strOp_add, strOp_eql, strOp_neq, eqn, wrap64, wrap8, mkAgg, allP, asP, Option.getD_none, Int.toNat_zero, Int.reduceToNat, *] <;> rfl)))
          | ((first | ((with_reducible apply F.assignF); exact rfl; exact rfl) | ((with_reducible apply F.append2); exact rfl; exact rfl; exact rfl; exact rfl; exact rfl; exact rfl; exact rfl; exact rfl)); (focus (simp (disch := first | assumption | omega | (simp only [List.length_cons, List.length_nil, List.length_append, List.length_take, List.length_drop]; omega)) only [LS, frzCells, frz, markCells, mark, elems, arrAt, cut, allP, asP, appendV, V.cells, Pv.cells, roomy, Int.toNat_zero, Int.reduceToNat, *] <;> rfl)); (focus (simp (disch := first | assumption | omega | (simp only [List.length_cons, List.length_nil, List.length_append, List.length_take, List.length_drop]; omega)) only [LS, frzCells, frz, markCells, mark, elems, arrAt, cut, allP, asP, appendV, V.cells, Pv.cells, roomy, Int.toNat_zero, Int.reduceToNat, *] <;> rfl)))
          | ((with_reducible apply F.not); exact rfl; exact rfl; exact rfl)
          | ((with_reducible apply F.pickT'); exact rfl; exact rfl; (focus (simp only [decide_true, decide_false, *]; done)); exact rfl)
          | ((with_reducible apply F.pickF'); exact rfl; exact rfl; (focus (simp only [decide_true, decide_false, *]; done)); exact rfl)
          | (intro hc; (try rw [hc]); (try simp only [decide_eq_true_eq, decide_eq_false_iff_not, Bool.not_eq_eq_eq_not, Bool.not_true, Bool.not_false] at hc); (try (exfalso; omega)))
          | ((with_reducible apply E.r0); exact rfl; exact rfl)
          | ((first | ((with_reducible apply E.r1); exact rfl; exact rfl; (focus (exact look_of rfl))) | ((with_reducible apply E.rF1); exact rfl; exact rfl; (focus (exact look_of rfl))) | ((with_reducible apply E.rP1); exact rfl; exact rfl; (focus (exact look_of rfl))) | ((with_reducible apply E.r2); exact rfl; exact rfl; (focus (exact look_of rfl)); (focus (exact look_of rfl))) | ((with_reducible apply E.rF2); exact rfl; exact rfl; (focus (exact look_of rfl)); (focus (exact look_of rfl))) | ((with_reducible apply E.rP2); exact rfl; exact rfl; (focus (exact look_of rfl)); (focus (exact look_of rfl))) | ((with_reducible apply E.r3); exact rfl; exact rfl; (focus (exact look_of rfl)); (focus (exact look_of rfl)); (focus (exact look_of rfl))) | ((with_reducible apply E.rF3); exact rfl; exact rfl; (focus (exact look_of rfl)); (focus (exact look_of rfl)); (focus (exact look_of rfl))) | ((with_reducible apply E.rP3); exact rfl; exact rfl; (focus (exact look_of rfl)); (focus (exact look_of rfl)); (focus (exact look_of rfl)))))
          | ((first | ((with_reducible apply E.rc); exact rfl; exact rfl; (focus (exact look_of rfl)); exact rfl) | ((with_reducible apply E.rPc); exact rfl; exact rfl; (focus (exact look_of rfl)); exact rfl)); (focus (simp (disch := first | assumption | omega | (simp only [List.length_cons, List.length_nil, List.length_append, List.length_take, List.length_drop]; omega)) only [LS, storeV, loadV, partV, partP, cut, over, mkAgg, allP, asP, V.cells, Pv.cells, elDiv, elMod, elDiv0, Nat.mul_mod_left, Int.toNat_zero, Int.reduceToNat, *] <;> rfl)))
          | refine R.regs rfl ?_
          | refine R.regsL rfl ?_
          | refine R.regsT rfl ?_
          | exact rfl
      · rw [if_neg (fun h => h1 h.2)]
        repeat' first
          | with_reducible apply M.free
          | with_reducible apply M.done
          | ((with_reducible apply F.move); exact rfl; exact rfl)
          | ((with_reducible apply F.load); exact rfl; exact rfl; exact rfl)
          | ((with_reducible apply F.cmp); exact rfl; exact rfl; exact rfl; exact rfl)
          | ((with_reducible apply F.assign); exact rfl; exact rfl)
          | ((with_reducible apply F.fieldAddr); exact rfl; exact rfl; exact rfl)
          | ((with_reducible apply F.len); exact rfl; exact rfl; exact rfl; exact rfl)
          | ((with_reducible apply F.nilCheck); exact rfl; exact rfl; exact rfl)
          | ((with_reducible apply F.extract); exact rfl; exact rfl; exact rfl)
          | ((with_reducible apply F.pickT); exact rfl; exact rfl; exact rfl)
          | ((with_reducible apply F.pickF); exact rfl; exact rfl; exact rfl)
          | ((with_reducible apply F.cmpS); exact rfl; exact rfl; exact rfl; exact rfl)
          | ((first | ((with_reducible apply F.add); exact rfl; exact rfl; exact rfl) | ((with_reducible apply F.sub); exact rfl; exact rfl; exact rfl) | ((with_reducible apply F.adds); exact rfl; exact rfl; exact rfl) | ((with_reducible apply F.neg); exact rfl; exact rfl)); (focus (first | omega | (simp only [List.length_cons, List.length_nil, List.length_append, List.length_take, List.length_drop]; omega))))
          | ((with_reducible apply R.regs); exact rfl)
          | ((with_reducible apply R.regsL); exact rfl)
          | ((with_reducible apply R.regsT); exact rfl)
          | ((with_reducible apply Cut.of); (focus (repeat' (first | exact Kp.nil | (apply Kp.cons; exact rfl)))); (focus ((try simp only [List.take_succ_cons, List.take_zero, List.take_nil, Nat.zero_add, Nat.reduceAdd]) <;> rfl)); (focus (first | exact rfl | (simp [cutOk, lowOb, lowV, lowCell, low_map]; done))))
          | ((with_reducible apply Lv.of); (focus (repeat' (first | exact Kp.nil | (apply Kp.cons; exact rfl)))))
          | ((with_reducible apply F.call0); exact rfl; exact rfl; (focus (repeat' (first | exact Evs.nil | (apply Evs.cons; exact rfl)))); exact rfl; (focus (first | exact hr | exact hp | exact hsh)))
          | ((first | (with_reducible apply R.cond) | ((with_reducible apply M.guard); exact rfl)); (focus (first | (refine Eq.trans (look_of rfl) ?_; first | (simp only [decide_true, decide_false, Bool.not_true, Bool.not_false, *] <;> rfl) | exact rfl) | exact look_of rfl)))
          | refine imp_yes rfl ?_
          | exact imp_no rfl
          | with_reducible apply R.seq
          | ((with_reducible apply R.region); exact rfl)
          | ((with_reducible apply R.regionL); exact rfl)
          | ((with_reducible apply R.regionT); exact rfl)
          | with_reducible apply E.seqN
          | with_reducible apply E.seqX
          | with_reducible apply E.seqR
          | with_reducible apply E.blkN
          | with_reducible apply E.blkR
          | ((with_reducible apply E.blkX); exact rfl)
          | ((with_reducible apply E.blkO); exact rfl)
          | with_reducible apply R.skip
          | with_reducible apply R.ret
          | with_reducible apply R.block
          | with_reducible apply R.exit
          | ((first | ((with_reducible apply F.store); exact rfl; exact rfl; exact rfl; exact rfl) | ((with_reducible apply F.loadS); exact rfl; exact rfl; exact rfl) | ((with_reducible apply F.load2); exact rfl; exact rfl; exact rfl)); (focus (simp (disch := first | assumption | omega | (simp only [List.length_cons, List.length_nil, List.length_append, List.length_take, List.length_drop]; omega)) only [LS, storeV, loadV, partV, partP, cut, over, mkAgg, allP, asP, V.cells, Pv.cells, elDiv, elMod, elDiv0, Nat.mul_mod_left, Int.toNat_zero, Int.reduceToNat, *] <;> rfl)))
          | ((first | ((with_reducible apply F.alloc); exact rfl; exact rfl)); (focus (simp only [LS] <;> rfl)); (focus (simp only [LS] <;> rfl)))
          | ((first | ((with_reducible apply F.box); exact rfl; exact rfl; exact rfl)); (focus (simp (disch := first | assumption | omega | (simp only [List.length_cons, List.length_nil, List.length_append, List.length_take, List.length_drop]; omega)) only [LS, storeV, loadV, partV, partP, cut, over, mkAgg, allP, asP, V.cells, Pv.cells, elDiv, elMod, elDiv0, Nat.mul_mod_left, Int.toNat_zero, Int.reduceToNat, *] <;> rfl)); exact rfl; (focus (simp only [LS] <;> rfl)); (focus (simp only [LS] <;> rfl)))
          | ((first | ((with_reducible apply F.build); exact rfl; exact rfl; (focus (repeat' (first | exact Prs.nil | (apply Prs.cons; exact rfl))))) | ((with_reducible apply F.buildSlice); exact rfl; exact rfl; (focus (repeat' (first | exact Prs.nil | (apply Prs.cons; exact rfl))))) | ((with_reducible apply F.append); exact rfl; exact rfl; exact rfl; exact rfl; exact rfl; exact rfl; exact rfl; exact rfl) | ((with_reducible apply F.append3); exact rfl; exact rfl; exact rfl; exact rfl; exact rfl; exact rfl; exact rfl; exact rfl)); (focus (simp (disch := first | assumption | omega | (simp only [List.length_cons, List.length_nil, List.length_append, List.length_take, List.length_drop]; omega)) only [LS, buildV, fillV, over, buildSliceV, elemsOf, appendV, elems, arrAt, cut, roomy, mkAgg, allP, asP, V.cells, Pv.cells, Int.toNat_zero, Int.reduceToNat, *] <;> rfl)))
          | ((first | ((with_reducible apply F.indexAddr); exact rfl; exact rfl; exact rfl; exact rfl) | ((with_reducible apply F.len); exact rfl; exact rfl; exact rfl)); (focus (simp (disch := first | assumption | omega | (simp only [List.length_cons, List.length_nil, List.length_append, List.length_take, List.length_drop]; omega)) only [LS, lenV_L, idx_L, below_at, Int.toNat_zero, Int.reduceToNat, *] <;> rfl)))
          | ((first | ((with_reducible apply F.indexAddr); exact rfl; exact rfl; exact rfl; exact rfl) | ((with_reducible apply F.index); exact rfl; exact rfl; exact rfl; exact rfl) | ((with_reducible apply F.convert); exact rfl; exact rfl; exact rfl; exact rfl) | ((with_reducible apply F.slice); exact rfl; exact rfl; exact rfl; exact rfl; exact rfl; exact rfl) | ((with_reducible apply F.makeFunc); exact rfl; (focus (repeat' (first | exact Evs.nil | (apply Evs.cons; exact rfl)))); (focus (repeat' (first | exact Evs.nil | (apply Evs.cons; exact rfl))))) | ((with_reducible apply F.field); exact rfl; exact rfl; exact rfl) | ((with_reducible apply F.fieldAddrS); exact rfl; exact rfl; exact rfl) | ((with_reducible apply F.bin); exact rfl; exact rfl; exact rfl; exact rfl)); (focus (simp (disch := first | assumption | omega | (simp only [List.length_cons, List.length_nil, List.length_append, List.length_take, List.length_drop]; omega)) only [LS, indexAddrV, indexV, below_at, fieldV, fieldAddrV, convP, bytesOf, sliceV, bounds, bMax, bHi, bLo, upTo_at, makeFuncV, partV, partP, cut, binI, binS, binV, binP, arith, strOp_add, strOp_eql, strOp_neq, eqn, wrap64, wrap8, mkAgg, allP, asP, Option.getD_none, Int.toNat_zero, Int.reduceToNat, *] <;> rfl)))
          | ((first | ((with_reducible apply F.assignF); exact rfl; exact rfl) | ((with_reducible apply F.append2); exact rfl; exact rfl; exact rfl; exact rfl; exact rfl; exact rfl; exact rfl; exact rfl)); (focus (simp (disch := first | assumption | omega | (simp only [List.length_cons, List.length_nil, List.length_append, List.length_take, List.length_drop]; omega)) only [LS, frzCells, frz, markCells, mark, elems, arrAt, cut, allP, asP, appendV, V.cells, Pv.cells, roomy, Int.toNat_zero, Int.reduceToNat, *] <;> rfl)); (focus (simp (disch := first | assumption | omega | (simp only [List.length_cons, List.length_nil, List.length_append, List.length_take, List.length_drop]; omega)) only [LS, frzCells, frz, markCells, mark, elems, arrAt, cut, allP, asP, appendV, V.cells, Pv.cells, roomy, Int.toNat_zero, Int.reduceToNat, *] <;> rfl)))
          | ((with_reducible apply F.not); exact rfl; exact rfl; exact rfl)
          | ((with_reducible apply F.pickT'); exact rfl; exact rfl; (focus (simp only [decide_true, decide_false, *]; done)); exact rfl)
          | ((with_reducible apply F.pickF'); exact rfl; exact rfl; (focus (simp only [decide_true, decide_false, *]; done)); exact rfl)
          | (intro hc; (try rw [hc]); (try simp only [decide_eq_true_eq, decide_eq_false_iff_not, Bool.not_eq_eq_eq_not, Bool.not_true, Bool.not_false] at hc); (try (exfalso; omega)))
          | ((with_reducible apply E.r0); exact rfl; exact rfl)
          | ((first | ((with_reducible apply E.r1); exact rfl; exact rfl; (focus (exact look_of rfl))) | ((with_reducible apply E.rF1); exact rfl; exact rfl; (focus (exact look_of rfl))) | ((with_reducible apply E.rP1); exact rfl; exact rfl; (focus (exact look_of rfl))) | ((with_reducible apply E.r2); exact rfl; exact rfl; (focus (exact look_of rfl)); (focus (exact look_of rfl))) | ((with_reducible apply E.rF2); exact rfl; exact rfl; (focus (exact look_of rfl)); (focus (exact look_of rfl))) | ((with_reducible apply E.rP2); exact rfl; exact rfl; (focus (exact look_of rfl)); (focus (exact look_of rfl))) | ((with_reducible apply E.r3); exact rfl; exact rfl; (focus (exact look_of rfl)); (focus (exact look_of rfl)); (focus (exact look_of rfl))) | ((with_reducible apply E.rF3); exact rfl; exact rfl; (focus (exact look_of rfl)); (focus (exact look_of rfl)); (focus (exact look_of rfl))) | ((with_reducible apply E.rP3); exact rfl; exact rfl; (focus (exact look_of rfl)); (focus (exact look_of rfl)); (focus (exact look_of rfl)))))
          | ((first | ((with_reducible apply E.rc); exact rfl; exact rfl; (focus (exact look_of rfl)); exact rfl) | ((with_reducible apply E.rPc); exact rfl; exact rfl; (focus (exact look_of rfl)); exact rfl)); (focus (simp (disch := first | assumption | omega | (simp only [List.length_cons, List.length_nil, List.length_append, List.length_take, List.length_drop]; omega)) only [LS, storeV, loadV, partV, partP, cut, over, mkAgg, allP, asP, V.cells, Pv.cells, elDiv, elMod, elDiv0, Nat.mul_mod_left, Int.toNat_zero, Int.reduceToNat, *] <;> rfl)))
          | refine R.regs rfl ?_
          | refine R.regsL rfl ?_
          | refine R.regsT rfl ?_
          | exact rfl
    · rw [if_neg (fun h => ha h.1)]
      repeat' first
        | with_reducible apply M.free
        | with_reducible apply M.done
        | ((with_reducible apply F.move); exact rfl; exact rfl)
        | ((with_reducible apply F.load); exact rfl; exact rfl; exact rfl)
        | ((with_reducible apply F.cmp); exact rfl; exact rfl; exact rfl; exact rfl)
        | ((with_reducible apply F.assign); exact rfl; exact rfl)
        | ((with_reducible apply F.fieldAddr); exact rfl; exact rfl; exact rfl)
        | ((with_reducible apply F.len); exact rfl; exact rfl; exact rfl; exact rfl)
        | ((with_reducible apply F.nilCheck); exact rfl; exact rfl; exact rfl)
        | ((with_reducible apply F.extract); exact rfl; exact rfl; exact rfl)
        | ((with_reducible apply F.pickT); exact rfl; exact rfl; exact rfl)
        | ((with_reducible apply F.pickF); exact rfl; exact rfl; exact rfl)
        | ((with_reducible apply F.cmpS); exact rfl; exact rfl; exact rfl; exact rfl)
        | ((first | ((with_reducible apply F.add); exact rfl; exact rfl; exact rfl) | ((with_reducible apply F.sub); exact rfl; exact rfl; exact rfl) | ((with_reducible apply F.adds); exact rfl; exact rfl; exact rfl) | ((with_reducible apply F.neg); exact rfl; exact rfl)); (focus (first | omega | (simp only [List.length_cons, List.length_nil, List.length_append, List.length_take, List.length_drop]; omega))))
        | ((with_reducible apply R.regs); exact rfl)
        | ((with_reducible apply R.regsL); exact rfl)
        | ((with_reducible apply R.regsT); exact rfl)
        | ((with_reducible apply Cut.of); (focus (repeat' (first | exact Kp.nil | (apply Kp.cons; exact rfl)))); (focus ((try simp only [List.take_succ_cons, List.take_zero, List.take_nil, Nat.zero_add, Nat.reduceAdd]) <;> rfl)); (focus (first | exact rfl | (simp [cutOk, lowOb, lowV, lowCell, low_map]; done))))
        | ((with_reducible apply Lv.of); (focus (repeat' (first | exact Kp.nil | (apply Kp.cons; exact rfl)))))
        | ((with_reducible apply F.call0); exact rfl; exact rfl; (focus (repeat' (first | exact Evs.nil | (apply Evs.cons; exact rfl)))); exact rfl; (focus (first | exact hr | exact hp | exact hsh)))
        | ((first | (with_reducible apply R.cond) | ((with_reducible apply M.guard); exact rfl)); (focus (first | (refine Eq.trans (look_of rfl) ?_; first | (simp only [decide_true, decide_false, Bool.not_true, Bool.not_false, *] <;> rfl) | exact rfl) | exact look_of rfl)))
        | refine imp_yes rfl ?_
        | exact imp_no rfl
        | with_reducible apply R.seq
        | ((with_reducible apply R.region); exact rfl)
        | ((with_reducible apply R.regionL); exact rfl)
        | ((with_reducible apply R.regionT); exact rfl)
        | with_reducible apply E.seqN
        | with_reducible apply E.seqX
        | with_reducible apply E.seqR
        | with_reducible apply E.blkN
        | with_reducible apply E.blkR
        | ((with_reducible apply E.blkX); exact rfl)
        | ((with_reducible apply E.blkO); exact rfl)
        | with_reducible apply R.skip
        | with_reducible apply R.ret
        | with_reducible apply R.block
        | with_reducible apply R.exit
        | ((first | ((with_reducible apply F.store); exact rfl; exact rfl; exact rfl; exact rfl) | ((with_reducible apply F.loadS); exact rfl; exact rfl; exact rfl) | ((with_reducible apply F.load2); exact rfl; exact rfl; exact rfl)); (focus (simp (disch := first | assumption | omega | (simp only [List.length_cons, List.length_nil, List.length_append, List.length_take, List.length_drop]; omega)) only [LS, storeV, loadV, partV, partP, cut, over, mkAgg, allP, asP, V.cells, Pv.cells, elDiv, elMod, elDiv0, Nat.mul_mod_left, Int.toNat_zero, Int.reduceToNat, *] <;> rfl)))
        | ((first | ((with_reducible apply F.alloc); exact rfl; exact rfl)); (focus (simp only [LS] <;> rfl)); (focus (simp only [LS] <;> rfl)))
        | ((first | ((with_reducible apply F.box); exact rfl; exact rfl; exact rfl)); (focus (simp (disch := first | assumption | omega | (simp only [List.length_cons, List.length_nil, List.length_append, List.length_take, List.length_drop]; omega)) only [LS, storeV, loadV, partV, partP, cut, over, mkAgg, allP, asP, V.cells, Pv.cells, elDiv, elMod, elDiv0, Nat.mul_mod_left, Int.toNat_zero, Int.reduceToNat, *] <;> rfl)); exact rfl; (focus (simp only [LS] <;> rfl)); (focus (simp only [LS] <;> rfl)))
        | ((first | ((with_reducible apply F.build); exact rfl; exact rfl; (focus (repeat' (first | exact Prs.nil | (apply Prs.cons; exact rfl))))) | ((with_reducible apply F.buildSlice); exact rfl; exact rfl; (focus (repeat' (first | exact Prs.nil | (apply Prs.cons; exact rfl))))) | ((with_reducible apply F.append); exact rfl; exact rfl; exact rfl; exact rfl; exact rfl; exact rfl; exact rfl; exact rfl) | ((with_reducible apply F.append3); exact rfl; exact rfl; exact rfl; exact rfl; exact rfl; exact rfl; exact rfl; exact rfl)); (focus (simp (disch := first | assumption | omega | (simp only [List.length_cons, List.length_nil, List.length_append, List.length_take, List.length_drop]; omega)) only [LS, buildV, fillV, over, buildSliceV, elemsOf, appendV, elems, arrAt, cut, roomy, mkAgg, allP, asP, V.cells, Pv.cells, Int.toNat_zero, Int.reduceToNat, *] <;> rfl)))
        | ((first | ((with_reducible apply F.indexAddr); exact rfl; exact rfl; exact rfl; exact rfl) | ((with_reducible apply F.len); exact rfl; exact rfl; exact rfl)); (focus (simp (disch := first | assumption | omega | (simp only [List.length_cons, List.length_nil, List.length_append, List.length_take, List.length_drop]; omega)) only [LS, lenV_L, idx_L, below_at, Int.toNat_zero, Int.reduceToNat, *] <;> rfl)))
        | ((first | ((with_reducible apply F.indexAddr); exact rfl; exact rfl; exact rfl; exact rfl) | ((with_reducible apply F.index); exact rfl; exact rfl; exact rfl; exact rfl) | ((with_reducible apply F.convert); exact rfl; exact rfl; exact rfl; exact rfl) | ((with_reducible apply F.slice); exact rfl; exact rfl; exact rfl; exact rfl; exact rfl; exact rfl) | ((with_reducible apply F.makeFunc); exact rfl; (focus (repeat' (first | exact Evs.nil | (apply Evs.cons; exact rfl)))); (focus (repeat' (first | exact Evs.nil | (apply Evs.cons; exact rfl))))) | ((with_reducible apply F.field); exact rfl; exact rfl; exact rfl) | ((with_reducible apply F.fieldAddrS); exact rfl; exact rfl; exact rfl) | ((with_reducible apply F.bin); exact rfl; exact rfl; exact rfl; exact rfl)); (focus (simp (disch := first | assumption | omega | (simp only [List.length_cons, List.length_nil, List.length_append, List.length_take, List.length_drop]; omega)) only [LS, indexAddrV, indexV, below_at, fieldV, fieldAddrV, convP, bytesOf, sliceV, bounds, bMax, bHi, bLo, upTo_at, makeFuncV, partV, partP, cut, binI, binS, binV, binP, arith, strOp_add, strOp_eql, strOp_neq, eqn, wrap64, wrap8, mkAgg, allP, asP, Option.getD_none, Int.toNat_zero, Int.reduceToNat, *] <;> rfl)))
        | ((first | ((with_reducible apply F.assignF); exact rfl; exact rfl) | ((with_reducible apply F.append2); exact rfl; exact rfl; exact rfl; exact rfl; exact rfl; exact rfl; exact rfl; exact rfl)); (focus (simp (disch := first | assumption | omega | (simp only [List.length_cons, List.length_nil, List.length_append, List.length_take, List.length_drop]; omega)) only [LS, frzCells, frz, markCells, mark, elems, arrAt, cut, allP, asP, appendV, V.cells, Pv.cells, roomy, Int.toNat_zero, Int.reduceToNat, *] <;> rfl)); (focus (simp (disch := first | assumption | omega | (simp only [List.length_cons, List.length_nil, List.length_append, List.length_take, List.length_drop]; omega)) only [LS, frzCells, frz, markCells, mark, elems, arrAt, cut, allP, asP, appendV, V.cells, Pv.cells, roomy, Int.toNat_zero, Int.reduceToNat, *] <;> rfl)))
        | ((with_reducible apply F.not); exact rfl; exact rfl; exact rfl)
        | ((with_reducible apply F.pickT'); exact rfl; exact rfl; (focus (simp only [decide_true, decide_false, *]; done)); exact rfl)
        | ((with_reducible apply F.pickF'); exact rfl; exact rfl; (focus (simp only [decide_true, decide_false, *]; done)); exact rfl)
        | (intro hc; (try rw [hc]); (try simp only [decide_eq_true_eq, decide_eq_false_iff_not, Bool.not_eq_eq_eq_not, Bool.not_true, Bool.not_false] at hc); (try (exfalso; omega)))
        | ((with_reducible apply E.r0); exact rfl; exact rfl)
        | ((first | ((with_reducible apply E.r1); exact rfl; exact rfl; (focus (exact look_of rfl))) | ((with_reducible apply E.rF1); exact rfl; exact rfl; (focus (exact look_of rfl))) | ((with_reducible apply E.rP1); exact rfl; exact rfl; (focus (exact look_of rfl))) | ((with_reducible apply E.r2); exact rfl; exact rfl; (focus (exact look_of rfl)); (focus (exact look_of rfl))) | ((with_reducible apply E.rF2); exact rfl; exact rfl; (focus (exact look_of rfl)); (focus (exact look_of rfl))) | ((with_reducible apply E.rP2); exact rfl; exact rfl; (focus (exact look_of rfl)); (focus (exact look_of rfl))) | ((with_reducible apply E.r3); exact rfl; exact rfl; (focus (exact look_of rfl)); (focus (exact look_of rfl)); (focus (exact look_of rfl))) | ((with_reducible apply E.rF3); exact rfl; exact rfl; (focus (exact look_of rfl)); (focus (exact look_of rfl)); (focus (exact look_of rfl))) | ((with_reducible apply E.rP3); exact rfl; exact rfl; (focus (exact look_of rfl)); (focus (exact look_of rfl)); (focus (exact look_of rfl)))))
        | ((first | ((with_reducible apply E.rc); exact rfl; exact rfl; (focus (exact look_of rfl)); exact rfl) | ((with_reducible apply E.rPc); exact rfl; exact rfl; (focus (exact look_of rfl)); exact rfl)); (focus (simp (disch := first | assumption | omega | (simp only [List.length_cons, List.length_nil, List.length_append, List.length_take, List.length_drop]; omega)) only [LS, storeV, loadV, partV, partP, cut, over, mkAgg, allP, asP, V.cells, Pv.cells, elDiv, elMod, elDiv0, Nat.mul_mod_left, Int.toNat_zero, Int.reduceToNat, *] <;> rfl)))
        | refine R.regs rfl ?_
        | refine R.regsL rfl ?_
        | refine R.regsT rfl ?_
        | exact rfl
  · simp only at h
    subst h
    rw [e5]
    clear e4 e5
    repeat' first
      | with_reducible apply M.free
      | with_reducible apply M.done
      | ((with_reducible apply F.move); exact rfl; exact rfl)
      | ((with_reducible apply F.load); exact rfl; exact rfl; exact rfl)
      | ((with_reducible apply F.cmp); exact rfl; exact rfl; exact rfl; exact rfl)
      | ((with_reducible apply F.assign); exact rfl; exact rfl)
      | ((with_reducible apply F.fieldAddr); exact rfl; exact rfl; exact rfl)
      | ((with_reducible apply F.len); exact rfl; exact rfl; exact rfl; exact rfl)
      | ((with_reducible apply F.nilCheck); exact rfl; exact rfl; exact rfl)
      | ((with_reducible apply F.extract); exact rfl; exact rfl; exact rfl)
      | ((with_reducible apply F.pickT); exact rfl; exact rfl; exact rfl)
      | ((with_reducible apply F.pickF); exact rfl; exact rfl; exact rfl)
      | ((with_reducible apply F.cmpS); exact rfl; exact rfl; exact rfl; exact rfl)
      | ((first | ((with_reducible apply F.add); exact rfl; exact rfl; exact rfl) | ((with_reducible apply F.sub); exact rfl; exact rfl; exact rfl) | ((with_reducible apply F.adds); exact rfl; exact rfl; exact rfl) | ((with_reducible apply F.neg); exact rfl; exact rfl)); (focus (first | omega | (simp only [List.length_cons, List.length_nil, List.length_append, List.length_take, List.length_drop]; omega))))
      | ((with_reducible apply R.regs); exact rfl)
      | ((with_reducible apply R.regsL); exact rfl)
      | ((with_reducible apply R.regsT); exact rfl)
      | ((with_reducible apply Cut.of); (focus (repeat' (first | exact Kp.nil | (apply Kp.cons; exact rfl)))); (focus ((try simp only [List.take_succ_cons, List.take_zero, List.take_nil, Nat.zero_add, Nat.reduceAdd]) <;> rfl)); (focus (first | exact rfl | (simp [cutOk, lowOb, lowV, lowCell, low_map]; done))))
      | ((with_reducible apply Lv.of); (focus (repeat' (first | exact Kp.nil | (apply Kp.cons; exact rfl)))))
      | ((with_reducible apply F.call0); exact rfl; exact rfl; (focus (repeat' (first | exact Evs.nil | (apply Evs.cons; exact rfl)))); exact rfl; (focus (first | exact hr | exact hp | exact hsh)))
      | ((first | (with_reducible apply R.cond) | ((with_reducible apply M.guard); exact rfl)); (focus (first | (refine Eq.trans (look_of rfl) ?_; first | (simp only [decide_true, decide_false, Bool.not_true, Bool.not_false, *] <;> rfl) | exact rfl) | exact look_of rfl)))
      | refine imp_yes rfl ?_
      | exact imp_no rfl
      | with_reducible apply R.seq
      | ((with_reducible apply R.region); exact rfl)
      | ((with_reducible apply R.regionL); exact rfl)
      | ((with_reducible apply R.regionT); exact rfl)
      | with_reducible apply E.seqN
      | with_reducible apply E.seqX
      | with_reducible apply E.seqR
      | with_reducible apply E.blkN
      | with_reducible apply E.blkR
      | ((with_reducible apply E.blkX); exact rfl)
      | ((with_reducible apply E.blkO); exact rfl)
      | with_reducible apply R.skip
      | with_reducible apply R.ret
      | with_reducible apply R.block
      | with_reducible apply R.exit
      | ((first | ((with_reducible apply F.store); exact rfl; exact rfl; exact rfl; exact rfl) | ((with_reducible apply F.loadS); exact rfl; exact rfl; exact rfl) | ((with_reducible apply F.load2); exact rfl; exact rfl; exact rfl)); (focus (simp (disch := first | assumption | omega | (simp only [List.length_cons, List.length_nil, List.length_append, List.length_take, List.length_drop]; omega)) only [LS, storeV, loadV, partV, partP, cut, over, mkAgg, allP, asP, V.cells, Pv.cells, elDiv, elMod, elDiv0, Nat.mul_mod_left, Int.toNat_zero, Int.reduceToNat, *] <;> rfl)))
      | ((first | ((with_reducible apply F.alloc); exact rfl; exact rfl)); (focus (simp only [LS] <;> rfl)); (focus (simp only [LS] <;> rfl)))
      | ((first | ((with_reducible apply F.box); exact rfl; exact rfl; exact rfl)); (focus (simp (disch := first | assumption | omega | (simp only [List.length_cons, List.length_nil, List.length_append, List.length_take, List.length_drop]; omega)) only [LS, storeV, loadV, partV, partP, cut, over, mkAgg, allP, asP, V.cells, Pv.cells, elDiv, elMod, elDiv0, Nat.mul_mod_left, Int.toNat_zero, Int.reduceToNat, *] <;> rfl)); exact rfl; (focus (simp only [LS] <;> rfl)); (focus (simp only [LS] <;> rfl)))
      | ((first | ((with_reducible apply F.build); exact rfl; exact rfl; (focus (repeat' (first | exact Prs.nil | (apply Prs.cons; exact rfl))))) | ((with_reducible apply F.buildSlice); exact rfl; exact rfl; (focus (repeat' (first | exact Prs.nil | (apply Prs.cons; exact rfl))))) | ((with_reducible apply F.append); exact rfl; exact rfl; exact rfl; exact rfl; exact rfl; exact rfl; exact rfl; exact rfl) | ((with_reducible apply F.append3); exact rfl; exact rfl; exact rfl; exact rfl; exact rfl; exact rfl; exact rfl; exact rfl)); (focus (simp (disch := first | assumption | omega | (simp only [List.length_cons, List.length_nil, List.length_append, List.length_take, List.length_drop]; omega)) only [LS, buildV, fillV, over, buildSliceV, elemsOf, appendV, elems, arrAt, cut, roomy, mkAgg, allP, asP, V.cells, Pv.cells, Int.toNat_zero, Int.reduceToNat, *] <;> rfl)))
      | ((first | ((with_reducible apply F.indexAddr); exact rfl; exact rfl; exact rfl; exact rfl) | ((with_reducible apply F.len); exact rfl; exact rfl; exact rfl)); (focus (simp (disch := first | assumption | omega | (simp only [List.length_cons, List.length_nil, List.length_append, List.length_take, List.length_drop]; omega)) only [LS, lenV_L, idx_L, below_at, Int.toNat_zero, Int.reduceToNat, *] <;> rfl)))
      | ((first | ((with_reducible apply F.indexAddr); exact rfl; exact rfl; exact rfl; exact rfl) | ((with_reducible apply F.index); exact rfl; exact rfl; exact rfl; exact rfl) | ((with_reducible apply F.convert); exact rfl; exact rfl; exact rfl; exact rfl) | ((with_reducible apply F.slice); exact rfl; exact rfl; exact rfl; exact rfl; exact rfl; exact rfl) | ((with_reducible apply F.makeFunc); exact rfl; (focus (repeat' (first | exact Evs.nil | (apply Evs.cons; exact rfl)))); (focus (repeat' (first | exact Evs.nil | (apply Evs.cons; exact rfl))))) | ((with_reducible apply F.field); exact rfl; exact rfl; exact rfl) | ((with_reducible apply F.fieldAddrS); exact rfl; exact rfl; exact rfl) | ((with_reducible apply F.bin); exact rfl; exact rfl; exact rfl; exact rfl)); (focus (simp (disch := first | assumption | omega | (simp only [List.length_cons, List.length_nil, List.length_append, List.length_take, List.length_drop]; omega)) only [LS, indexAddrV, indexV, below_at, fieldV, fieldAddrV, convP, bytesOf, sliceV, bounds, bMax, bHi, bLo, upTo_at, makeFuncV, partV, partP, cut, binI, binS, binV, binP, arith, strOp_add, strOp_eql, strOp_neq, eqn, wrap64, wrap8, mkAgg, allP, asP, Option.getD_none, Int.toNat_zero, Int.reduceToNat, *] <;> rfl)))
      | ((first | ((with_reducible apply F.assignF); exact rfl; exact rfl) | ((with_reducible apply F.append2); exact rfl; exact rfl; exact rfl; exact rfl; exact rfl; exact rfl; exact rfl; exact rfl)); (focus (simp (disch := first | assumption | omega | (simp only [List.length_cons, List.length_nil, List.length_append, List.length_take, List.length_drop]; omega)) only [LS, frzCells, frz, markCells, mark, elems, arrAt, cut, allP, asP, appendV, V.cells, Pv.cells, roomy, Int.toNat_zero, Int.reduceToNat, *] <;> rfl)); (focus (simp (disch := first | assumption | omega | (simp only [List.length_cons, List.length_nil, List.length_append, List.length_take, List.length_drop]; omega)) only [LS, frzCells, frz, markCells, mark, elems, arrAt, cut, allP, asP, appendV, V.cells, Pv.cells, roomy, Int.toNat_zero, Int.reduceToNat, *] <;> rfl)))
      | ((with_reducible apply F.not); exact rfl; exact rfl; exact rfl)
      | ((with_reducible apply F.pickT'); exact rfl; exact rfl; (focus (simp only [decide_true, decide_false, *]; done)); exact rfl)
      | ((with_reducible apply F.pickF'); exact rfl; exact rfl; (focus (simp only [decide_true, decide_false, *]; done)); exact rfl)
      | (intro hc; (try rw [hc]); (try simp only [decide_eq_true_eq, decide_eq_false_iff_not, Bool.not_eq_eq_eq_not, Bool.not_true, Bool.not_false] at hc); (try (exfalso; omega)))
      | ((with_reducible apply E.r0); exact rfl; exact rfl)
      | ((first | ((with_reducible apply E.r1); exact rfl; exact rfl; (focus (exact look_of rfl))) | ((with_reducible apply E.rF1); exact rfl; exact rfl; (focus (exact look_of rfl))) | ((with_reducible apply E.rP1); exact rfl; exact rfl; (focus (exact look_of rfl))) | ((with_reducible apply E.r2); exact rfl; exact rfl; (focus (exact look_of rfl)); (focus (exact look_of rfl))) | ((with_reducible apply E.rF2); exact rfl; exact rfl; (focus (exact look_of rfl)); (focus (exact look_of rfl))) | ((with_reducible apply E.rP2); exact rfl; exact rfl; (focus (exact look_of rfl)); (focus (exact look_of rfl))) | ((with_reducible apply E.r3); exact rfl; exact rfl; (focus (exact look_of rfl)); (focus (exact look_of rfl)); (focus (exact look_of rfl))) | ((with_reducible apply E.rF3); exact rfl; exact rfl; (focus (exact look_of rfl)); (focus (exact look_of rfl)); (focus (exact look_of rfl))) | ((with_reducible apply E.rP3); exact rfl; exact rfl; (focus (exact look_of rfl)); (focus (exact look_of rfl)); (focus (exact look_of rfl)))))
      | ((first | ((with_reducible apply E.rc); exact rfl; exact rfl; (focus (exact look_of rfl)); exact rfl) | ((with_reducible apply E.rPc); exact rfl; exact rfl; (focus (exact look_of rfl)); exact rfl)); (focus (simp (disch := first | assumption | omega | (simp only [List.length_cons, List.length_nil, List.length_append, List.length_take, List.length_drop]; omega)) only [LS, storeV, loadV, partV, partP, cut, over, mkAgg, allP, asP, V.cells, Pv.cells, elDiv, elMod, elDiv0, Nat.mul_mod_left, Int.toNat_zero, Int.reduceToNat, *] <;> rfl)))
      | refine R.regs rfl ?_
      | refine R.regsL rfl ?_
      | refine R.regsT rfl ?_
      | exact rfl
theorem plain_tri {x : Pv} {vars : List (List UInt8)} (i : Ins) (a b c : T) (hi : i.op = 16) (hpa : PV cx 30 [.p a.pv, .p x] (.str (plainF vars a))) (hpb : PV cx 30 [.p b.pv, .p x] (.str (plainF vars b))) (hpc : PV cx 30 [.p c.pv, .p x] (.str (plainF vars c)))
    (hla : (plainF vars a).length ≤ 100000) (hlb : (plainF vars b).length ≤ 100000) (hlc : (plainF vars c).length ≤ 100000) : PV cx 30 [.p (T.tri i a b c).pv, .p x] (.str (plainF vars (.tri i a b c))) := by
  refine PV.run cxF30 rfl ?_
  have hr := (T.rank_run (.tri i a b c)).fv
  have hpa := hpa.fv
  have hpb := hpb.fv
  have hpc := hpc.fv
  obtain ⟨op, n⟩ := i
  simp only at hi
  subst hi
  obtain ⟨la, ea⟩ := node_pv a
  obtain ⟨lb, eb⟩ := node_pv b
  obtain ⟨lc, ec⟩ := node_pv c
  simp only [T.pv, node, List.isEmpty_cons, plainF] at hr ⊢
  rw [ea] at hpa
  rw [eb] at hpb
  rw [ec] at hpc
  rw [ea, eb, ec] at hr ⊢
  generalize plainF vars a = sa at *
  generalize plainF vars b = sb at *
  generalize plainF vars c = sc at *
  clear ea eb ec
  simp only [args0, Nat.zero_add, Nat.reduceAdd]
  repeat' first
    | with_reducible apply M.free
    | with_reducible apply M.done
    | ((with_reducible apply F.move); exact rfl; exact rfl)
    | ((with_reducible apply F.load); exact rfl; exact rfl; exact rfl)
    | ((with_reducible apply F.cmp); exact rfl; exact rfl; exact rfl; exact rfl)
    | ((with_reducible apply F.assign); exact rfl; exact rfl)
    | ((with_reducible apply F.fieldAddr); exact rfl; exact rfl; exact rfl)
    | ((with_reducible apply F.len); exact rfl; exact rfl; exact rfl; exact rfl)
    | ((with_reducible apply F.nilCheck); exact rfl; exact rfl; exact rfl)
    | ((with_reducible apply F.extract); exact rfl; exact rfl; exact rfl)
    | ((with_reducible apply F.pickT); exact rfl; exact rfl; exact rfl)
    | ((with_reducible apply F.pickF); exact rfl; exact rfl; exact rfl)
    | ((with_reducible apply F.cmpS); exact rfl; exact rfl; exact rfl; exact rfl)
    | ((first | ((with_reducible apply F.add); exact rfl; exact rfl; exact rfl) | ((with_reducible apply F.sub); exact rfl; exact rfl; exact rfl) | ((with_reducible apply F.adds); exact rfl; exact rfl; exact rfl) | ((with_reducible apply F.neg); exact rfl; exact rfl)); (focus (first | omega | (simp only [List.length_cons, List.length_nil, List.length_append, List.length_take, List.length_drop]; omega))))
    | ((with_reducible apply R.regs); exact rfl)
    | ((with_reducible apply R.regsL); exact rfl)
    | ((with_reducible apply R.regsT); exact rfl)
    | ((with_reducible apply Cut.of); (focus (repeat' (first | exact Kp.nil | (apply Kp.cons; exact rfl)))); (focus ((try simp only [List.take_succ_cons, List.take_zero, List.take_nil, Nat.zero_add, Nat.reduceAdd]) <;> rfl)); (focus (first | exact rfl | (simp [cutOk, lowOb, lowV, lowCell, low_map]; done))))
    | ((with_reducible apply Lv.of); (focus (repeat' (first | exact Kp.nil | (apply Kp.cons; exact rfl)))))
    | ((with_reducible apply F.call0); exact rfl; exact rfl; (focus (repeat' (first | exact Evs.nil | (apply Evs.cons; exact rfl)))); exact rfl; (focus (first | exact hr | exact hpa | exact hpb | exact hpc)))
    | ((first | (with_reducible apply R.cond) | ((with_reducible apply M.guard); exact rfl)); (focus (first | (refine Eq.trans (look_of rfl) ?_; first | (simp only [decide_true, decide_false, Bool.not_true, Bool.not_false, *] <;> rfl) | exact rfl) | exact look_of rfl)))
    | refine imp_yes rfl ?_
    | exact imp_no rfl
    | with_reducible apply R.seq
    | ((with_reducible apply R.region); exact rfl)
    | ((with_reducible apply R.regionL); exact rfl)
    | ((with_reducible apply R.regionT); exact rfl)
    | with_reducible apply E.seqN
    | with_reducible apply E.seqX
    | with_reducible apply E.seqR
    | with_reducible apply E.blkN
    | with_reducible apply E.blkR
    | ((with_reducible apply E.blkX); exact rfl)
    | ((with_reducible apply E.blkO); exact rfl)
    | with_reducible apply R.skip
    | with_reducible apply R.ret
    | with_reducible apply R.block
    | with_reducible apply R.exit
    | ((first | ((with_reducible apply F.store); exact rfl; exact rfl; exact rfl; exact rfl) | ((with_reducible apply F.loadS); exact rfl; exact rfl; exact rfl) | ((with_reducible apply F.load2); exact rfl; exact rfl; exact rfl)); (focus (simp (disch := first | assumption | omega | (simp only [List.length_cons, List.length_nil, List.length_append, List.length_take, List.length_drop]; omega)) only [LS, storeV, loadV, partV, partP, cut, over, mkAgg, allP, asP, V.cells, Pv.cells, elDiv, elMod, elDiv0, Nat.mul_mod_left, Int.toNat_zero, Int.reduceToNat, *] <;> rfl)))
    | ((first | ((with_reducible apply F.alloc); exact rfl; exact rfl)); (focus (simp only [LS] <;> rfl)); (focus (simp only [LS] <;> rfl)))
    | ((first | ((with_reducible apply F.box); exact rfl; exact rfl; exact rfl)); (focus (simp (disch := first | assumption | omega | (simp only [List.length_cons, List.length_nil, List.length_append, List.length_take, List.length_drop]; omega)) only [LS, storeV, loadV, partV, partP, cut, over, mkAgg, allP, asP, V.cells, Pv.cells, elDiv, elMod, elDiv0, Nat.mul_mod_left, Int.toNat_zero, Int.reduceToNat, *] <;> rfl)); exact rfl; (focus (simp only [LS] <;> rfl)); (focus (simp only [LS] <;> rfl)))
    | ((first | ((with_reducible apply F.build); exact rfl; exact rfl; (focus (repeat' (first | exact Prs.nil | (apply Prs.cons; exact rfl))))) | ((with_reducible apply F.buildSlice); exact rfl; exact rfl; (focus (repeat' (first | exact Prs.nil | (apply Prs.cons; exact rfl))))) | ((with_reducible apply F.append); exact rfl; exact rfl; exact rfl; exact rfl; exact rfl; exact rfl; exact rfl; exact rfl) | ((with_reducible apply F.append3); exact rfl; exact rfl; exact rfl; exact rfl; exact rfl; exact rfl; exact rfl; exact rfl)); (focus (simp (disch := first | assumption | omega | (simp only [List.length_cons, List.length_nil, List.length_append, List.length_take, List.length_drop]; omega)) only [LS, buildV, fillV, over, buildSliceV, elemsOf, appendV, elems, arrAt, cut, roomy, mkAgg, allP, asP, V.cells, Pv.cells, Int.toNat_zero, Int.reduceToNat, *] <;> rfl)))
    | ((first | ((with_reducible apply F.indexAddr); exact rfl; exact rfl; exact rfl; exact rfl) | ((with_reducible apply F.len); exact rfl; exact rfl; exact rfl)); (focus (simp (disch := first | assumption | omega | (simp only [List.length_cons, List.length_nil, List.length_append, List.length_take, List.length_drop]; omega)) only [LS, lenV_L, idx_L, below_at, Int.toNat_zero, Int.reduceToNat, *] <;> rfl)))
    | ((first | ((with_reducible apply F.indexAddr); exact rfl; exact rfl; exact rfl; exact rfl) | ((with_reducible apply F.index); exact rfl; exact rfl; exact rfl; exact rfl) | ((with_reducible apply F.convert); exact rfl; exact rfl; exact rfl; exact rfl) | ((with_reducible apply F.slice); exact rfl; exact rfl; exact rfl; exact rfl; exact rfl; exact rfl) | ((with_reducible apply F.makeFunc); exact rfl; (focus (repeat' (first | exact Evs.nil | (apply Evs.cons; exact rfl)))); (focus (repeat' (first | exact Evs.nil | (apply Evs.cons; exact rfl))))) | ((with_reducible apply F.field); exact rfl; exact rfl; exact rfl) | ((with_reducible apply F.fieldAddrS); exact rfl; exact rfl; exact rfl) | ((with_reducible apply F.bin); exact rfl; exact rfl; exact rfl; exact rfl)); (focus (simp (disch := first | assumption | omega | (simp only [List.length_cons, List.length_nil, List.length_append, List.length_take, List.length_drop]; omega)) only [LS, indexAddrV, indexV, below_at, fieldV, fieldAddrV, convP, bytesOf, sliceV, bounds, bMax, bHi, bLo, upTo_at, makeFuncV, partV, partP, cut, binI, binS, binV, binP, arith, strOp_add, strOp_eql, strOp_neq, eqn, wrap64, wrap8, mkAgg, allP, asP, Option.getD_none, Int.toNat_zero, Int.reduceToNat, *] <;> rfl)))
    | ((first | ((with_reducible apply F.assignF); exact rfl; exact rfl) | ((with_reducible apply F.append2); exact rfl; exact rfl; exact rfl; exact rfl; exact rfl; exact rfl; exact rfl; exact rfl)); (focus (simp (disch := first | assumption | omega | (simp only [List.length_cons, List.length_nil, List.length_append, List.length_take, List.length_drop]; omega)) only [LS, frzCells, frz, markCells, mark, elems, arrAt, cut, allP, asP, appendV, V.cells, Pv.cells, roomy, Int.toNat_zero, Int.reduceToNat, *] <;> rfl)); (focus (simp (disch := first | assumption | omega | (simp only [List.length_cons, List.length_nil, List.length_append, List.length_take, List.length_drop]; omega)) only [LS, frzCells, frz, markCells, mark, elems, arrAt, cut, allP, asP, appendV, V.cells, Pv.cells, roomy, Int.toNat_zero, Int.reduceToNat, *] <;> rfl)))
    | ((with_reducible apply F.not); exact rfl; exact rfl; exact rfl)
    | ((with_reducible apply F.pickT'); exact rfl; exact rfl; (focus (simp only [decide_true, decide_false, *]; done)); exact rfl)
    | ((with_reducible apply F.pickF'); exact rfl; exact rfl; (focus (simp only [decide_true, decide_false, *]; done)); exact rfl)
    | (intro hc; (try rw [hc]); (try simp only [decide_eq_true_eq, decide_eq_false_iff_not, Bool.not_eq_eq_eq_not, Bool.not_true, Bool.not_false] at hc); (try (exfalso; omega)))
    | ((with_reducible apply E.r0); exact rfl; exact rfl)
    | ((first | ((with_reducible apply E.r1); exact rfl; exact rfl; (focus (exact look_of rfl))) | ((with_reducible apply E.rF1); exact rfl; exact rfl; (focus (exact look_of rfl))) | ((with_reducible apply E.rP1); exact rfl; exact rfl; (focus (exact look_of rfl))) | ((with_reducible apply E.r2); exact rfl; exact rfl; (focus (exact look_of rfl)); (focus (exact look_of rfl))) | ((with_reducible apply E.rF2); exact rfl; exact rfl; (focus (exact look_of rfl)); (focus (exact look_of rfl))) | ((with_reducible apply E.rP2); exact rfl; exact rfl; (focus (exact look_of rfl)); (focus (exact look_of rfl))) | ((with_reducible apply E.r3); exact rfl; exact rfl; (focus (exact look_of rfl)); (focus (exact look_of rfl)); (focus (exact look_of rfl))) | ((with_reducible apply E.rF3); exact rfl; exact rfl; (focus (exact look_of rfl)); (focus (exact look_of rfl)); (focus (exact look_of rfl))) | ((with_reducible apply E.rP3); exact rfl; exact rfl; (focus (exact look_of rfl)); (focus (exact look_of rfl)); (focus (exact look_of rfl)))))
    | ((first | ((with_reducible apply E.rc); exact rfl; exact rfl; (focus (exact look_of rfl)); exact rfl) | ((with_reducible apply E.rPc); exact rfl; exact rfl; (focus (exact look_of rfl)); exact rfl)); (focus (simp (disch := first | assumption | omega | (simp only [List.length_cons, List.length_nil, List.length_append, List.length_take, List.length_drop]; omega)) only [LS, storeV, loadV, partV, partP, cut, over, mkAgg, allP, asP, V.cells, Pv.cells, elDiv, elMod, elDiv0, Nat.mul_mod_left, Int.toNat_zero, Int.reduceToNat, *] <;> rfl)))
    | refine R.regs rfl ?_
    | refine R.regsL rfl ?_
    | refine R.regsT rfl ?_
    | exact rfl
theorem plain_bin {x : Pv} {vars : List (List UInt8)} (i : Ins) (a b : T) (hi : 6 ≤ i.op ∧ i.op ≤ 15) (hpa : PV cx 30 [.p a.pv, .p x] (.str (plainF vars a))) (hpb : PV cx 30 [.p b.pv, .p x] (.str (plainF vars b)))
    (hla : (plainF vars a).length ≤ 100000) (hlb : (plainF vars b).length ≤ 100000) : PV cx 30 [.p (T.bin i a b).pv, .p x] (.str (plainF vars (.bin i a b))) := by
  refine PV.run cxF30 rfl ?_
  have hr := (T.rank_run (.bin i a b)).fv
  have ha := fun q => (shown_run a hpa (by omega) q).fv
  have hb := fun q => (shown_run b hpb (by omega) q).fv
  have hpa := hpa.fv
  have hpb := hpb.fv
  obtain ⟨op, n⟩ := i
  have hop : op = 6 ∨ op = 7 ∨ op = 8 ∨ op = 9 ∨ op = 10 ∨ op = 11 ∨ op = 12 ∨ op = 13 ∨ op = 14 ∨ op = 15 := by simp only at hi; omega
  obtain ⟨la, ea⟩ := node_pv a
  obtain ⟨lb, eb⟩ := node_pv b
  have l1 := held_len (plainF vars a) a.rank (leftF (rankF op n))
  have l2 := held_len (plainF vars b) b.rank (rankF op n + 1)
  have ha' := ha (leftF (rankF op n))
  have hb' := hb (rankF op n + 1)
  clear ha hb
  simp only [T.pv, node, List.isEmpty_cons, plainF] at hr ⊢
  rw [ea] at hpa ha'
  rw [eb] at hpb hb'
  rw [ea, eb] at hr ⊢
  generalize heldF (plainF vars a) a.rank (leftF (rankF op n)) = ha1 at *
  generalize heldF (plainF vars b) b.rank (rankF op n + 1) = hb1 at *
  generalize plainF vars a = sa at *
  generalize plainF vars b = sb at *
  clear ea eb hi
  simp only [args0, Nat.zero_add, Nat.reduceAdd]
  rcases hop with rfl | rfl | rfl | rfl | rfl | rfl | rfl | rfl | rfl | rfl
  repeat' first
    | with_reducible apply M.free
    | with_reducible apply M.done
    | ((with_reducible apply F.move); exact rfl; exact rfl)
    | ((with_reducible apply F.load); exact rfl; exact rfl; exact rfl)
    | ((with_reducible apply F.cmp); exact rfl; exact rfl; exact rfl; exact rfl)
    | ((with_reducible apply F.assign); exact rfl; exact rfl)
    | ((with_reducible apply F.fieldAddr); exact rfl; exact rfl; exact rfl)
    | ((with_reducible apply F.len); exact rfl; exact rfl; exact rfl; exact rfl)
    | ((with_reducible apply F.nilCheck); exact rfl; exact rfl; exact rfl)
    | ((with_reducible apply F.extract); exact rfl; exact rfl; exact rfl)
    | ((with_reducible apply F.pickT); exact rfl; exact rfl; exact rfl)
    | ((with_reducible apply F.pickF); exact rfl; exact rfl; exact rfl)
    | ((with_reducible apply F.cmpS); exact rfl; exact rfl; exact rfl; exact rfl)
    | ((first | ((with_reducible apply F.add); exact rfl; exact rfl; exact rfl) | ((with_reducible apply F.sub); exact rfl; exact rfl; exact rfl) | ((with_reducible apply F.adds); exact rfl; exact rfl; exact rfl) | ((with_reducible apply F.neg); exact rfl; exact rfl)); (focus (first | omega | (simp only [List.length_cons, List.length_nil, List.length_append, List.length_take, List.length_drop]; omega))))
    | ((with_reducible apply R.regs); exact rfl)
    | ((with_reducible apply R.regsL); exact rfl)
    | ((with_reducible apply R.regsT); exact rfl)
    | ((with_reducible apply Cut.of); (focus (repeat' (first | exact Kp.nil | (apply Kp.cons; exact rfl)))); (focus ((try simp only [List.take_succ_cons, List.take_zero, List.take_nil, Nat.zero_add, Nat.reduceAdd]) <;> rfl)); (focus (first | exact rfl | (simp [cutOk, lowOb, lowV, lowCell, low_map]; done))))
    | ((with_reducible apply Lv.of); (focus (repeat' (first | exact Kp.nil | (apply Kp.cons; exact rfl)))))
    | ((with_reducible apply F.call0); exact rfl; exact rfl; (focus (repeat' (first | exact Evs.nil | (apply Evs.cons; exact rfl)))); exact rfl; (focus (first | exact hr | exact hpa | exact hpb | exact ha' | exact hb')))
    | ((first | (with_reducible apply R.cond) | ((with_reducible apply M.guard); exact rfl)); (focus (first | (refine Eq.trans (look_of rfl) ?_; first | (simp only [decide_true, decide_false, Bool.not_true, Bool.not_false, *] <;> rfl) | exact rfl) | exact look_of rfl)))
    | refine imp_yes rfl ?_
    | exact imp_no rfl
    | with_reducible apply R.seq
    | ((with_reducible apply R.region); exact rfl)
    | ((with_reducible apply R.regionL); exact rfl)
    | ((with_reducible apply R.regionT); exact rfl)
    | with_reducible apply E.seqN
    | with_reducible apply E.seqX
    | with_reducible apply E.seqR
    | with_reducible apply E.blkN
    | with_reducible apply E.blkR
    | ((with_reducible apply E.blkX); exact rfl)
    | ((with_reducible apply E.blkO); exact rfl)
    | with_reducible apply R.skip
    | with_reducible apply R.ret
    | with_reducible apply R.block
    | with_reducible apply R.exit
    | ((first | ((with_reducible apply F.store); exact rfl; exact rfl; exact rfl; exact rfl) | ((with_reducible apply F.loadS); exact rfl; exact rfl; exact rfl) | ((with_reducible apply F.load2); exact rfl; exact rfl; exact rfl)); (focus (simp (disch := first | assumption | omega | (simp only [List.length_cons, List.length_nil, List.length_append, List.length_take, List.length_drop]; omega)) only [LS, storeV, loadV, partV, partP, cut, over, mkAgg, allP, asP, V.cells, Pv.cells, elDiv, elMod, elDiv0, Nat.mul_mod_left, Int.toNat_zero, Int.reduceToNat, *] <;> rfl)))
    | ((first | ((with_reducible apply F.alloc); exact rfl; exact rfl)); (focus (simp only [LS] <;> rfl)); (focus (simp only [LS] <;> rfl)))
    | ((first | ((with_reducible apply F.box); exact rfl; exact rfl; exact rfl)); (focus (simp (disch := first | assumption | omega | (simp only [List.length_cons, List.length_nil, List.length_append, List.length_take, List.length_drop]; omega)) only [LS, storeV, loadV, partV, partP, cut, over, mkAgg, allP, asP, V.cells, Pv.cells, elDiv, elMod, elDiv0, Nat.mul_mod_left, Int.toNat_zero, Int.reduceToNat, *] <;> rfl)); exact rfl; (focus (simp only [LS] <;> rfl)); (focus (simp only [LS] <;> rfl)))
    | ((first | ((with_reducible apply F.build); exact rfl; exact rfl; (focus (repeat' (first | exact Prs.nil | (apply Prs.cons; exact rfl))))) | ((with_reducible apply F.buildSlice); exact rfl; exact rfl; (focus (repeat' (first | exact Prs.nil | (apply Prs.cons; exact rfl))))) | ((with_reducible apply F.append); exact rfl; exact rfl; exact rfl; exact rfl; exact rfl; exact rfl; exact rfl; exact rfl) | ((with_reducible apply F.append3); exact rfl; exact rfl; exact rfl; exact rfl; exact rfl; exact rfl; exact rfl; exact rfl)); (focus (simp (disch := first | assumption | omega | (simp only [List.length_cons, List.length_nil, List.length_append, List.length_take, List.length_drop]; omega)) only [LS, buildV, fillV, over, buildSliceV, elemsOf, appendV, elems, arrAt, cut, roomy, mkAgg, allP, asP, V.cells, Pv.cells, Int.toNat_zero, Int.reduceToNat, *] <;> rfl)))
    | ((first | ((with_reducible apply F.indexAddr); exact rfl; exact rfl; exact rfl; exact rfl) | ((with_reducible apply F.len); exact rfl; exact rfl; exact rfl)); (focus (simp (disch := first | assumption | omega | (simp only [List.length_cons, List.length_nil, List.length_append, List.length_take, List.length_drop]; omega)) only [LS, lenV_L, idx_L, below_at, Int.toNat_zero, Int.reduceToNat, *] <;> rfl)))
    | ((first | ((with_reducible apply F.indexAddr); exact rfl; exact rfl; exact rfl; exact rfl) | ((with_reducible apply F.index); exact rfl; exact rfl; exact rfl; exact rfl) | ((with_reducible apply F.convert); exact rfl; exact rfl; exact rfl; exact rfl) | ((with_reducible apply F.slice); exact rfl; exact rfl; exact rfl; exact rfl; exact rfl; exact rfl) | ((with_reducible apply F.makeFunc); exact rfl; (focus (repeat' (first | exact Evs.nil | (apply Evs.cons; exact rfl)))); (focus (repeat' (first | exact Evs.nil | (apply Evs.cons; exact rfl))))) | ((with_reducible apply F.field); exact rfl; exact rfl; exact rfl) | ((with_reducible apply F.fieldAddrS); exact rfl; exact rfl; exact rfl) | ((with_reducible apply F.bin); exact rfl; exact rfl; exact rfl; exact rfl)); (focus (simp (disch := first | assumption | omega | (simp only [List.length_cons, List.length_nil, List.length_append, List.length_take, List.length_drop]; omega)) only [LS, indexAddrV, indexV, below_at, fieldV, fieldAddrV, convP, bytesOf, sliceV, bounds, bMax, bHi, bLo, upTo_at, makeFuncV, partV, partP, cut, binI, binS, binV, binP, arith, strOp_add, strOp_eql, strOp_neq, eqn, wrap64, wrap8, mkAgg, allP, asP, Option.getD_none, Int.toNat_zero, Int.reduceToNat, *] <;> rfl)))
    | ((first | ((with_reducible apply F.assignF); exact rfl; exact rfl) | ((with_reducible apply F.append2); exact rfl; exact rfl; exact rfl; exact rfl; exact rfl; exact rfl; exact rfl; exact rfl)); (focus (simp (disch := first | assumption | omega | (simp only [List.length_cons, List.length_nil, List.length_append, List.length_take, List.length_drop]; omega)) only [LS, frzCells, frz, markCells, mark, elems, arrAt, cut, allP, asP, appendV, V.cells, Pv.cells, roomy, Int.toNat_zero, Int.reduceToNat, *] <;> rfl)); (focus (simp (disch := first | assumption | omega | (simp only [List.length_cons, List.length_nil, List.length_append, List.length_take, List.length_drop]; omega)) only [LS, frzCells, frz, markCells, mark, elems, arrAt, cut, allP, asP, appendV, V.cells, Pv.cells, roomy, Int.toNat_zero, Int.reduceToNat, *] <;> rfl)))
    | ((with_reducible apply F.not); exact rfl; exact rfl; exact rfl)
    | ((with_reducible apply F.pickT'); exact rfl; exact rfl; (focus (simp only [decide_true, decide_false, *]; done)); exact rfl)
    | ((with_reducible apply F.pickF'); exact rfl; exact rfl; (focus (simp only [decide_true, decide_false, *]; done)); exact rfl)
    | (intro hc; (try rw [hc]); (try simp only [decide_eq_true_eq, decide_eq_false_iff_not, Bool.not_eq_eq_eq_not, Bool.not_true, Bool.not_false] at hc); (try (exfalso; omega)))
    | ((with_reducible apply E.r0); exact rfl; exact rfl)
    | ((first | ((with_reducible apply E.r1); exact rfl; exact rfl; (focus (exact look_of rfl))) | ((with_reducible apply E.rF1); exact rfl; exact rfl; (focus (exact look_of rfl))) | ((with_reducible apply E.rP1); exact rfl; exact rfl; (focus (exact look_of rfl))) | ((with_reducible apply E.r2); exact rfl; exact rfl; (focus (exact look_of rfl)); (focus (exact look_of rfl))) | ((with_reducible apply E.rF2); exact rfl; exact rfl; (focus (exact look_of rfl)); (focus (exact look_of rfl))) | ((with_reducible apply E.rP2); exact rfl; exact rfl; (focus (exact look_of rfl)); (focus (exact look_of rfl))) | ((with_reducible apply E.r3); exact rfl; exact rfl; (focus (exact look_of rfl)); (focus (exact look_of rfl)); (focus (exact look_of rfl))) | ((with_reducible apply E.rF3); exact rfl; exact rfl; (focus (exact look_of rfl)); (focus (exact look_of rfl)); (focus (exact look_of rfl))) | ((with_reducible apply E.rP3); exact rfl; exact rfl; (focus (exact look_of rfl)); (focus (exact look_of rfl)); (focus (exact look_of rfl)))))
    | ((first | ((with_reducible apply E.rc); exact rfl; exact rfl; (focus (exact look_of rfl)); exact rfl) | ((with_reducible apply E.rPc); exact rfl; exact rfl; (focus (exact look_of rfl)); exact rfl)); (focus (simp (disch := first | assumption | omega | (simp only [List.length_cons, List.length_nil, List.length_append, List.length_take, List.length_drop]; omega)) only [LS, storeV, loadV, partV, partP, cut, over, mkAgg, allP, asP, V.cells, Pv.cells, elDiv, elMod, elDiv0, Nat.mul_mod_left, Int.toNat_zero, Int.reduceToNat, *] <;> rfl)))
    | refine R.regs rfl ?_
    | refine R.regsL rfl ?_
    | refine R.regsT rfl ?_
    | exact rfl
end Go.Proofs.YtojpocfnjigmfaaDoor
