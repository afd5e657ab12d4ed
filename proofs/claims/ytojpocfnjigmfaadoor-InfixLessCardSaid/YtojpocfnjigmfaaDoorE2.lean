import Derived.Test.YtojpocfnjigmfaaDoorE1
set_option maxRecDepth 10000
set_option linter.unusedSimpArgs false
set_option linter.unusedVariables false
namespace Go.Proofs.YtojpocfnjigmfaaDoor
open Go Go.AX
def chk (vars args : Int) : Int → Nat → List Ins → Int × Int
  | row, k, [] => if row = 1 then (0, 0) else (k, 6)
  | row, k, i :: l => if takesF i.op < 0 then (k, 2) else if namedF vars args i = false then (k, 3) else if row < takesF i.op then (k, 5) else chk vars args (row + (1 - takesF i.op)) (k + 1) l
def checkF (code : List Ins) (vars args : Int) : Int × Int := if vars < 0 ∨ args < 0 then (0, 2) else if code.length > 31 then (0, 4) else chk vars args 0 0 code
def tup2 (p : Int × Int) : Pv := .tup [.int .i64 p.1, .int .i64 p.2]
theorem takesF_le (op : Int) : -1 ≤ takesF op ∧ takesF op ≤ 3 := by
  unfold takesF
  (repeat' split) <;> omega
theorem drop_at {α : Type} {l : List α} {i : Nat} {a : α} (h : l[i]? = some a) : l.drop i = a :: l.drop (i + 1) := by
  obtain ⟨hi, rfl⟩ := List.getElem?_eq_some_iff.1 h
  exact List.drop_eq_getElem_cons hi
theorem check_run (code : List Ins) (x : Pv) (hx : IsL 2 x) (hl : elemsP x = code.map Ins.pv) (vars args : Int) : PV cx 24 [.p x, .p (.int .i64 vars), .p (.int .i64 args)] (tup2 (checkF code vars args)) := by
  refine PV.run cxF24 rfl ?_
  simp only [args0, Nat.zero_add, Nat.reduceAdd]
  generalize hr : checkF code vars args = r
  repeat' first
    | with_reducible apply M.free
    | with_reducible apply M.done
    | ((with_reducible apply F.move); exact rfl; exact rfl)
    | ((with_reducible apply F.load); exact rfl; exact rfl; exact rfl)
    | ((with_reducible apply F.cmp); exact rfl; exact rfl; exact rfl; exact rfl)
    | ((with_reducible apply F.assign); exact rfl; exact rfl)
    | ((with_reducible apply F.fieldAddr); exact rfl; exact rfl; exact rfl)
    | ((with_reducible apply F.len); exact rfl; exact rfl; exact rfl; exact rfl)
    | ((with_reducible apply F.pickT); exact rfl; exact rfl; exact rfl)
    | ((with_reducible apply F.pickF); exact rfl; exact rfl; exact rfl)
    | ((with_reducible apply F.cmpS); exact rfl; exact rfl; exact rfl; exact rfl)
    | ((first | ((with_reducible apply F.add); exact rfl; exact rfl; exact rfl) | ((with_reducible apply F.sub); exact rfl; exact rfl; exact rfl) | ((with_reducible apply F.adds); exact rfl; exact rfl; exact rfl)); (focus (first | omega | (simp only [List.length_cons, List.length_nil, List.length_append, List.length_take, List.length_drop]; omega))))
    | ((with_reducible apply R.regs); exact rfl)
    | ((with_reducible apply R.regsL); exact rfl)
    | ((with_reducible apply R.regsT); exact rfl)
    | ((with_reducible apply Cut.of); (focus (repeat' (first | exact Kp.nil | (apply Kp.cons; exact rfl)))); (focus ((try simp only [List.take_succ_cons, List.take_zero, List.take_nil, Nat.zero_add, Nat.reduceAdd]) <;> rfl)); (focus (first | exact rfl | (simp [cutOk, lowOb, lowV, lowCell, low_map]; done))))
    | ((with_reducible apply Lv.of); (focus (repeat' (first | exact Kp.nil | (apply Kp.cons; exact rfl)))))
    | ((first | (with_reducible apply R.cond) | ((with_reducible apply M.guard); exact rfl)); (focus (first | (refine Eq.trans (look_of rfl) ?_; first | (simp only [decide_true, decide_false, Bool.not_true, Bool.not_false, *, hl, List.length_map] <;> rfl) | exact rfl) | exact look_of rfl)))
    | refine imp_yes rfl ?_
    | exact imp_no rfl
    | with_reducible apply R.seq
    | ((with_reducible apply R.region); exact rfl)
    | ((with_reducible apply R.regionL); exact rfl)
    | ((with_reducible apply R.regionT); exact rfl)
    | with_reducible apply E.seqN
    | with_reducible apply E.seqX
    | with_reducible apply E.seqR
    | with_reducible apply E.blkN
    | with_reducible apply E.blkR
    | ((with_reducible apply E.blkX); exact rfl)
    | ((with_reducible apply E.blkO); exact rfl)
    | with_reducible apply R.skip
    | with_reducible apply R.ret
    | with_reducible apply R.block
    | with_reducible apply R.exit
    | ((first | ((with_reducible apply F.store); exact rfl; exact rfl; exact rfl; exact rfl) | ((with_reducible apply F.loadS); exact rfl; exact rfl; exact rfl)); (focus (simp (disch := first | assumption | omega | (simp only [List.length_cons, List.length_nil, List.length_append, List.length_take, List.length_drop]; omega)) only [LS, storeV, loadV, partV, partP, cut, over, mkAgg, allP, asP, V.cells, PC, elDiv, elMod, elDiv0, Nat.mul_mod_left, Int.toNat_zero, Int.reduceToNat, *, hl, List.length_map] <;> rfl)))
    | ((first | ((with_reducible apply F.alloc); exact rfl; exact rfl)); (focus (simp only [LS] <;> rfl)); (focus (simp only [LS] <;> rfl)))
    | ((first | ((with_reducible apply F.indexAddr); exact rfl; exact rfl; exact rfl; exact rfl) | ((with_reducible apply F.len); exact rfl; exact rfl; exact rfl)); (focus (simp (disch := first | assumption | omega | (simp only [List.length_cons, List.length_nil, List.length_append, List.length_take, List.length_drop]; omega)) only [LS, lenV_L, idx_L, below_at, Int.toNat_zero, Int.reduceToNat, *, hl, List.length_map] <;> rfl)))
    | ((first | ((with_reducible apply F.indexAddr); exact rfl; exact rfl; exact rfl; exact rfl) | ((with_reducible apply F.fieldAddrS); exact rfl; exact rfl; exact rfl) | ((with_reducible apply F.bin); exact rfl; exact rfl; exact rfl; exact rfl)); (focus (simp (disch := first | assumption | omega | (simp only [List.length_cons, List.length_nil, List.length_append, List.length_take, List.length_drop]; omega)) only [LS, indexAddrV, indexV, below_at, fieldV, fieldAddrV, convP, bytesOf, sliceV, bounds, bMax, bHi, bLo, upTo_at, makeFuncV, partV, partP, cut, binI, binS, binV, binP, arith, strOp_add, strOp_eql, strOp_neq, eqn, wrap64, wrap8, mkAgg, allP, asP, Option.getD_none, Int.toNat_zero, Int.reduceToNat, *, hl, List.length_map] <;> rfl)))
    | ((with_reducible apply F.not); exact rfl; exact rfl; exact rfl)
    | ((with_reducible apply F.pickT'); exact rfl; exact rfl; (focus (simp only [decide_true, decide_false, Bool.not_true, Bool.not_false, List.toList_toArray, *, hl, List.length_map]; done)); exact rfl)
    | ((with_reducible apply F.pickF'); exact rfl; exact rfl; (focus (simp only [decide_true, decide_false, Bool.not_true, Bool.not_false, List.toList_toArray, *, hl, List.length_map]; done)); exact rfl)
    | (intro hc; (try rw [hc]); (try simp only [decide_eq_true_eq, decide_eq_false_iff_not, Bool.not_eq_eq_eq_not, Bool.not_true, Bool.not_false] at hc); (try (exfalso; omega)))
    | ((with_reducible apply E.r0); exact rfl; exact rfl)
    | ((first | ((with_reducible apply E.r1); exact rfl; exact rfl; (focus (exact look_of rfl))) | ((with_reducible apply E.rF1); exact rfl; exact rfl; (focus (exact look_of rfl))) | ((with_reducible apply E.rP1); exact rfl; exact rfl; (focus (exact look_of rfl))) | ((with_reducible apply E.r2); exact rfl; exact rfl; (focus (exact look_of rfl)); (focus (exact look_of rfl))) | ((with_reducible apply E.rF2); exact rfl; exact rfl; (focus (exact look_of rfl)); (focus (exact look_of rfl))) | ((with_reducible apply E.rP2); exact rfl; exact rfl; (focus (exact look_of rfl)); (focus (exact look_of rfl))) | ((with_reducible apply E.r3); exact rfl; exact rfl; (focus (exact look_of rfl)); (focus (exact look_of rfl)); (focus (exact look_of rfl))) | ((with_reducible apply E.rF3); exact rfl; exact rfl; (focus (exact look_of rfl)); (focus (exact look_of rfl)); (focus (exact look_of rfl))) | ((with_reducible apply E.rP3); exact rfl; exact rfl; (focus (exact look_of rfl)); (focus (exact look_of rfl)); (focus (exact look_of rfl)))))
    | refine R.regs rfl ?_
    | refine R.regsL rfl ?_
    | refine R.regsT rfl ?_
    | refine R.seq ?_
    | refine R.region rfl ?_
    | refine R.block ?_
    | exact rfl
  all_goals first | (subst hr; simp only [checkF, tup2]; (repeat' split) <;> first | rfl | omega) | skip
  have h31 : code.length ≤ 31 := by omega
  rw [checkF, if_neg (by omega), if_neg (by omega)] at hr
  refine R.loop (fun m e H => ∃ (i : Nat) (row : Int), e = [(0, .p x), (1, .p (.int .i64 vars)), (2, .p (.int .i64 args)), (8, .p (.int .i64 row)), (23, .p x), (24, .p (.int .i64 code.length)), (25, .p (.int .i64 i))] ∧ H = [] ∧ 0 ≤ row ∧ row ≤ i ∧ i ≤ code.length ∧ m = code.length - i ∧ chk vars args row i (code.drop i) = r) code.length
    ⟨0, 0, rfl, rfl, by omega, by omega, by omega, rfl, hr⟩ ?_
  clear hr
  rintro m e H ⟨i, row, rfl, rfl, h0, h1, h2, rfl, hr⟩
  by_cases hlt : (i : Int) < code.length
  · obtain ⟨a, hb⟩ : ∃ b, code[i]? = some b := ⟨code[i]'(by omega), by simp⟩
    rw [drop_at hb, chk] at hr
    have ht := takesF_le a.op
    repeat' first
      | with_reducible apply M.free
      | with_reducible apply M.done
      | ((with_reducible apply F.move); exact rfl; exact rfl)
      | ((with_reducible apply F.load); exact rfl; exact rfl; exact rfl)
      | ((with_reducible apply F.cmp); exact rfl; exact rfl; exact rfl; exact rfl)
      | ((with_reducible apply F.assign); exact rfl; exact rfl)
      | ((with_reducible apply F.fieldAddr); exact rfl; exact rfl; exact rfl)
      | ((with_reducible apply F.len); exact rfl; exact rfl; exact rfl; exact rfl)
      | ((with_reducible apply F.pickT); exact rfl; exact rfl; exact rfl)
      | ((with_reducible apply F.pickF); exact rfl; exact rfl; exact rfl)
      | ((with_reducible apply F.cmpS); exact rfl; exact rfl; exact rfl; exact rfl)
      | ((first | ((with_reducible apply F.add); exact rfl; exact rfl; exact rfl) | ((with_reducible apply F.sub); exact rfl; exact rfl; exact rfl) | ((with_reducible apply F.adds); exact rfl; exact rfl; exact rfl)); (focus (first | omega | (simp only [List.length_cons, List.length_nil, List.length_append, List.length_take, List.length_drop]; omega))))
      | ((with_reducible apply R.regs); exact rfl)
      | ((with_reducible apply R.regsL); exact rfl)
      | ((with_reducible apply R.regsT); exact rfl)
      | ((with_reducible apply Cut.of); (focus (repeat' (first | exact Kp.nil | (apply Kp.cons; exact rfl)))); (focus ((try simp only [List.take_succ_cons, List.take_zero, List.take_nil, Nat.zero_add, Nat.reduceAdd]) <;> rfl)); (focus (first | exact rfl | (simp [cutOk, lowOb, lowV, lowCell, low_map]; done))))
      | ((with_reducible apply Lv.of); (focus (repeat' (first | exact Kp.nil | (apply Kp.cons; exact rfl)))))
      | ((with_reducible apply F.call0); exact rfl; exact rfl; (focus (repeat' (first | exact Evs.nil | (apply Evs.cons; exact rfl)))); exact rfl; (focus (first | exact (takes_run _).fv | exact (named_run a _ _).fv)))
      | ((first | (with_reducible apply R.cond) | ((with_reducible apply M.guard); exact rfl)); (focus (first | (refine Eq.trans (look_of rfl) ?_; first | (simp only [decide_true, decide_false, Bool.not_true, Bool.not_false, *, hl, hb, List.length_map, List.getElem?_map, Ins.pv] <;> rfl) | exact rfl) | exact look_of rfl)))
      | refine imp_yes rfl ?_
      | exact imp_no rfl
      | with_reducible apply R.seq
      | ((with_reducible apply R.region); exact rfl)
      | ((with_reducible apply R.regionL); exact rfl)
      | ((with_reducible apply R.regionT); exact rfl)
      | with_reducible apply E.seqN
      | with_reducible apply E.seqX
      | with_reducible apply E.seqR
      | with_reducible apply E.blkN
      | with_reducible apply E.blkR
      | ((with_reducible apply E.blkX); exact rfl)
      | ((with_reducible apply E.blkO); exact rfl)
      | with_reducible apply R.skip
      | with_reducible apply R.ret
      | with_reducible apply R.block
      | with_reducible apply R.exit
      | ((first | ((with_reducible apply F.store); exact rfl; exact rfl; exact rfl; exact rfl) | ((with_reducible apply F.loadS); exact rfl; exact rfl; exact rfl)); (focus (simp (disch := first | assumption | omega | (simp only [List.length_cons, List.length_nil, List.length_append, List.length_take, List.length_drop]; omega)) only [LS, storeV, loadV, partV, partP, cut, over, mkAgg, allP, asP, V.cells, PC, elDiv, elMod, elDiv0, Nat.mul_mod_left, Int.toNat_zero, Int.reduceToNat, *, hl, hb, List.length_map, List.getElem?_map, Ins.pv] <;> rfl)))
      | ((first | ((with_reducible apply F.alloc); exact rfl; exact rfl)); (focus (simp only [LS] <;> rfl)); (focus (simp only [LS] <;> rfl)))
      | ((first | ((with_reducible apply F.indexAddr); exact rfl; exact rfl; exact rfl; exact rfl) | ((with_reducible apply F.len); exact rfl; exact rfl; exact rfl)); (focus (simp (disch := first | assumption | omega | (simp only [List.length_cons, List.length_nil, List.length_append, List.length_take, List.length_drop]; omega)) only [LS, lenV_L, idx_L, below_at, Int.toNat_zero, Int.reduceToNat, *, hl, hb, List.length_map, List.getElem?_map, Ins.pv] <;> rfl)))
      | ((first | ((with_reducible apply F.indexAddr); exact rfl; exact rfl; exact rfl; exact rfl) | ((with_reducible apply F.fieldAddrS); exact rfl; exact rfl; exact rfl) | ((with_reducible apply F.bin); exact rfl; exact rfl; exact rfl; exact rfl)); (focus (simp (disch := first | assumption | omega | (simp only [List.length_cons, List.length_nil, List.length_append, List.length_take, List.length_drop]; omega)) only [LS, indexAddrV, indexV, below_at, fieldV, fieldAddrV, convP, bytesOf, sliceV, bounds, bMax, bHi, bLo, upTo_at, makeFuncV, partV, partP, cut, binI, binS, binV, binP, arith, strOp_add, strOp_eql, strOp_neq, eqn, wrap64, wrap8, mkAgg, allP, asP, Option.getD_none, Int.toNat_zero, Int.reduceToNat, *, hl, hb, List.length_map, List.getElem?_map, Ins.pv] <;> rfl)))
      | ((with_reducible apply F.not); exact rfl; exact rfl; exact rfl)
      | ((with_reducible apply F.pickT'); exact rfl; exact rfl; (focus (simp only [decide_true, decide_false, Bool.not_true, Bool.not_false, List.toList_toArray, *, hl, hb, List.length_map, List.getElem?_map, Ins.pv]; done)); exact rfl)
      | ((with_reducible apply F.pickF'); exact rfl; exact rfl; (focus (simp only [decide_true, decide_false, Bool.not_true, Bool.not_false, List.toList_toArray, *, hl, hb, List.length_map, List.getElem?_map, Ins.pv]; done)); exact rfl)
      | (intro hc; (try rw [hc]); (try simp only [decide_eq_true_eq, decide_eq_false_iff_not, Bool.not_eq_eq_eq_not, Bool.not_true, Bool.not_false] at hc); (try (exfalso; omega)))
      | ((with_reducible apply E.r0); exact rfl; exact rfl)
      | ((first | ((with_reducible apply E.r1); exact rfl; exact rfl; (focus (exact look_of rfl))) | ((with_reducible apply E.rF1); exact rfl; exact rfl; (focus (exact look_of rfl))) | ((with_reducible apply E.rP1); exact rfl; exact rfl; (focus (exact look_of rfl))) | ((with_reducible apply E.r2); exact rfl; exact rfl; (focus (exact look_of rfl)); (focus (exact look_of rfl))) | ((with_reducible apply E.rF2); exact rfl; exact rfl; (focus (exact look_of rfl)); (focus (exact look_of rfl))) | ((with_reducible apply E.rP2); exact rfl; exact rfl; (focus (exact look_of rfl)); (focus (exact look_of rfl))) | ((with_reducible apply E.r3); exact rfl; exact rfl; (focus (exact look_of rfl)); (focus (exact look_of rfl)); (focus (exact look_of rfl))) | ((with_reducible apply E.rF3); exact rfl; exact rfl; (focus (exact look_of rfl)); (focus (exact look_of rfl)); (focus (exact look_of rfl))) | ((with_reducible apply E.rP3); exact rfl; exact rfl; (focus (exact look_of rfl)); (focus (exact look_of rfl)); (focus (exact look_of rfl)))))
      | refine R.regs rfl ?_
      | refine R.regsL rfl ?_
      | refine R.regsT rfl ?_
      | refine R.seq ?_
      | refine R.region rfl ?_
      | refine R.block ?_
      | exact rfl
    all_goals first
      | (subst hr; (repeat' split) <;> first | rfl | (exfalso; simp_all; done) | (exfalso; omega))
      | (rw [if_neg (by omega), if_neg (by simp_all), if_neg (by omega)] at hr; exact ⟨code.length - (i + 1), by omega, i + 1, row + (1 - takesF a.op), rfl, rfl, by omega, by omega, by omega, rfl, hr⟩)
  · have e : i = code.length := by omega
    subst e
    rw [List.drop_length, chk] at hr
    repeat' first
      | with_reducible apply M.free
      | with_reducible apply M.done
      | ((with_reducible apply F.move); exact rfl; exact rfl)
      | ((with_reducible apply F.load); exact rfl; exact rfl; exact rfl)
      | ((with_reducible apply F.cmp); exact rfl; exact rfl; exact rfl; exact rfl)
      | ((with_reducible apply F.assign); exact rfl; exact rfl)
      | ((with_reducible apply F.fieldAddr); exact rfl; exact rfl; exact rfl)
      | ((with_reducible apply F.len); exact rfl; exact rfl; exact rfl; exact rfl)
      | ((with_reducible apply F.pickT); exact rfl; exact rfl; exact rfl)
      | ((with_reducible apply F.pickF); exact rfl; exact rfl; exact rfl)
      | ((with_reducible apply F.cmpS); exact rfl; exact rfl; exact rfl; exact rfl)
      | ((first | ((with_reducible apply F.add); exact rfl; exact rfl; exact rfl) | ((with_reducible apply F.sub); exact rfl; exact rfl; exact rfl) | ((with_reducible apply F.adds); exact rfl; exact rfl; exact rfl)); (focus (first | omega | (simp only [List.length_cons, List.length_nil, List.length_append, List.length_take, List.length_drop]; omega))))
      | ((with_reducible apply R.regs); exact rfl)
      | ((with_reducible apply R.regsL); exact rfl)
      | ((with_reducible apply R.regsT); exact rfl)
      | ((with_reducible apply Cut.of); (focus (repeat' (first | exact Kp.nil | (apply Kp.cons; exact rfl)))); (focus ((try simp only [List.take_succ_cons, List.take_zero, List.take_nil, Nat.zero_add, Nat.reduceAdd]) <;> rfl)); (focus (first | exact rfl | (simp [cutOk, lowOb, lowV, lowCell, low_map]; done))))
      | ((with_reducible apply Lv.of); (focus (repeat' (first | exact Kp.nil | (apply Kp.cons; exact rfl)))))
      | ((first | (with_reducible apply R.cond) | ((with_reducible apply M.guard); exact rfl)); (focus (first | (refine Eq.trans (look_of rfl) ?_; first | (simp only [decide_true, decide_false, Bool.not_true, Bool.not_false, *, hl, List.length_map] <;> rfl) | exact rfl) | exact look_of rfl)))
      | refine imp_yes rfl ?_
      | exact imp_no rfl
      | with_reducible apply R.seq
      | ((with_reducible apply R.region); exact rfl)
      | ((with_reducible apply R.regionL); exact rfl)
      | ((with_reducible apply R.regionT); exact rfl)
      | with_reducible apply E.seqN
      | with_reducible apply E.seqX
      | with_reducible apply E.seqR
      | with_reducible apply E.blkN
      | with_reducible apply E.blkR
      | ((with_reducible apply E.blkX); exact rfl)
      | ((with_reducible apply E.blkO); exact rfl)
      | with_reducible apply R.skip
      | with_reducible apply R.ret
      | with_reducible apply R.block
      | with_reducible apply R.exit
      | ((first | ((with_reducible apply F.store); exact rfl; exact rfl; exact rfl; exact rfl) | ((with_reducible apply F.loadS); exact rfl; exact rfl; exact rfl)); (focus (simp (disch := first | assumption | omega | (simp only [List.length_cons, List.length_nil, List.length_append, List.length_take, List.length_drop]; omega)) only [LS, storeV, loadV, partV, partP, cut, over, mkAgg, allP, asP, V.cells, PC, elDiv, elMod, elDiv0, Nat.mul_mod_left, Int.toNat_zero, Int.reduceToNat, *, hl, List.length_map] <;> rfl)))
      | ((first | ((with_reducible apply F.alloc); exact rfl; exact rfl)); (focus (simp only [LS] <;> rfl)); (focus (simp only [LS] <;> rfl)))
      | ((first | ((with_reducible apply F.indexAddr); exact rfl; exact rfl; exact rfl; exact rfl) | ((with_reducible apply F.len); exact rfl; exact rfl; exact rfl)); (focus (simp (disch := first | assumption | omega | (simp only [List.length_cons, List.length_nil, List.length_append, List.length_take, List.length_drop]; omega)) only [LS, lenV_L, idx_L, below_at, Int.toNat_zero, Int.reduceToNat, *, hl, List.length_map] <;> rfl)))
      | ((first | ((with_reducible apply F.indexAddr); exact rfl; exact rfl; exact rfl; exact rfl) | ((with_reducible apply F.fieldAddrS); exact rfl; exact rfl; exact rfl) | ((with_reducible apply F.bin); exact rfl; exact rfl; exact rfl; exact rfl)); (focus (simp (disch := first | assumption | omega | (simp only [List.length_cons, List.length_nil, List.length_append, List.length_take, List.length_drop]; omega)) only [LS, indexAddrV, indexV, below_at, fieldV, fieldAddrV, convP, bytesOf, sliceV, bounds, bMax, bHi, bLo, upTo_at, makeFuncV, partV, partP, cut, binI, binS, binV, binP, arith, strOp_add, strOp_eql, strOp_neq, eqn, wrap64, wrap8, mkAgg, allP, asP, Option.getD_none, Int.toNat_zero, Int.reduceToNat, *, hl, List.length_map] <;> rfl)))
      | ((with_reducible apply F.not); exact rfl; exact rfl; exact rfl)
      | ((with_reducible apply F.pickT'); exact rfl; exact rfl; (focus (simp only [decide_true, decide_false, Bool.not_true, Bool.not_false, List.toList_toArray, *, hl, List.length_map]; done)); exact rfl)
      | ((with_reducible apply F.pickF'); exact rfl; exact rfl; (focus (simp only [decide_true, decide_false, Bool.not_true, Bool.not_false, List.toList_toArray, *, hl, List.length_map]; done)); exact rfl)
      | (intro hc; (try rw [hc]); (try simp only [decide_eq_true_eq, decide_eq_false_iff_not, Bool.not_eq_eq_eq_not, Bool.not_true, Bool.not_false] at hc); (try (exfalso; omega)))
      | ((with_reducible apply E.r0); exact rfl; exact rfl)
      | ((first | ((with_reducible apply E.r1); exact rfl; exact rfl; (focus (exact look_of rfl))) | ((with_reducible apply E.rF1); exact rfl; exact rfl; (focus (exact look_of rfl))) | ((with_reducible apply E.rP1); exact rfl; exact rfl; (focus (exact look_of rfl))) | ((with_reducible apply E.r2); exact rfl; exact rfl; (focus (exact look_of rfl)); (focus (exact look_of rfl))) | ((with_reducible apply E.rF2); exact rfl; exact rfl; (focus (exact look_of rfl)); (focus (exact look_of rfl))) | ((with_reducible apply E.rP2); exact rfl; exact rfl; (focus (exact look_of rfl)); (focus (exact look_of rfl))) | ((with_reducible apply E.r3); exact rfl; exact rfl; (focus (exact look_of rfl)); (focus (exact look_of rfl)); (focus (exact look_of rfl))) | ((with_reducible apply E.rF3); exact rfl; exact rfl; (focus (exact look_of rfl)); (focus (exact look_of rfl)); (focus (exact look_of rfl))) | ((with_reducible apply E.rP3); exact rfl; exact rfl; (focus (exact look_of rfl)); (focus (exact look_of rfl)); (focus (exact look_of rfl)))))
      | refine R.regs rfl ?_
      | refine R.regsL rfl ?_
      | refine R.regsT rfl ?_
      | refine R.seq ?_
      | refine R.region rfl ?_
      | refine R.block ?_
      | exact rfl
    all_goals (subst hr; simp_all [tup2])
end Go.Proofs.YtojpocfnjigmfaaDoor
