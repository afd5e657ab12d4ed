import Derived.Test.YtojpocfnjigmfaaDoorE6
import Derived.Test.YtojpocfnjigmfaaDoorAX19
set_option maxRecDepth 10000
set_option linter.unusedSimpArgs false
set_option linter.unusedVariables false
namespace Go.Proofs.YtojpocfnjigmfaaDoor
open Go Go.AX
def stP : List T → Pv
  | [] => .nils
  | t :: st => .sl 3 false (stL (t :: st))
theorem tree_run (code : List Ins) (x : Pv) (hx : IsL 2 x) (hl : elemsP x = code.map Ins.pv) (vars args : Int) (hc : chk vars args 0 0 code = (0, 0)) (h31 : code.length ≤ 31) (t : T) (hb : bld code [] = [t]) : PV cx 31 [.p x] t.pv := by
  refine PV.run cxF31 rfl ?_
  simp only [args0, Nat.zero_add, Nat.reduceAdd]
  repeat' first
    | with_reducible apply M.free
    | with_reducible apply M.done
    | ((with_reducible apply F.move); exact rfl; exact rfl)
    | ((with_reducible apply F.load); exact rfl; exact rfl; exact rfl)
    | ((with_reducible apply F.cmp); exact rfl; exact rfl; exact rfl; exact rfl)
    | ((with_reducible apply F.assign); exact rfl; exact rfl)
    | ((with_reducible apply F.fieldAddr); exact rfl; exact rfl; exact rfl)
    | ((with_reducible apply F.len); exact rfl; exact rfl; exact rfl; exact rfl)
    | ((with_reducible apply F.nilCheck); exact rfl; exact rfl; exact rfl)
    | ((with_reducible apply F.extract); exact rfl; exact rfl; exact rfl)
    | ((with_reducible apply F.pickT); exact rfl; exact rfl; exact rfl)
    | ((with_reducible apply F.pickF); exact rfl; exact rfl; exact rfl)
    | ((with_reducible apply F.cmpS); exact rfl; exact rfl; exact rfl; exact rfl)
    | ((first | ((with_reducible apply F.add); exact rfl; exact rfl; exact rfl) | ((with_reducible apply F.sub); exact rfl; exact rfl; exact rfl) | ((with_reducible apply F.adds); exact rfl; exact rfl; exact rfl) | ((with_reducible apply F.neg); exact rfl; exact rfl)); (focus (first | omega | (simp only [List.length_cons, List.length_nil, List.length_append, List.length_take, List.length_drop]; omega))))
    | ((with_reducible apply R.regs); exact rfl)
    | ((with_reducible apply R.regsL); exact rfl)
    | ((with_reducible apply R.regsT); exact rfl)
    | ((with_reducible apply Cut.of); (focus (repeat' (first | exact Kp.nil | (apply Kp.cons; exact rfl)))); (focus ((try simp only [List.take_succ_cons, List.take_zero, List.take_nil, Nat.zero_add, Nat.reduceAdd]) <;> rfl)); (focus (first | exact rfl | (simp [cutOk, lowOb, lowV, lowCell, low_map]; done))))
    | ((with_reducible apply Lv.of); (focus (repeat' (first | exact Kp.nil | (apply Kp.cons; exact rfl)))))
    | ((first | (with_reducible apply R.cond) | ((with_reducible apply M.guard); exact rfl)); (focus (first | (refine Eq.trans (look_of rfl) ?_; first | (simp only [decide_true, decide_false, Bool.not_true, Bool.not_false, *] <;> rfl) | exact rfl) | exact look_of rfl)))
    | refine imp_yes rfl ?_
    | exact imp_no rfl
    | with_reducible apply R.seq
    | ((with_reducible apply R.region); exact rfl)
    | ((with_reducible apply R.regionL); exact rfl)
    | ((with_reducible apply R.regionT); exact rfl)
    | with_reducible apply E.seqN
    | with_reducible apply E.seqX
    | with_reducible apply E.seqR
    | with_reducible apply E.blkN
    | with_reducible apply E.blkR
    | ((with_reducible apply E.blkX); exact rfl)
    | ((with_reducible apply E.blkO); exact rfl)
    | with_reducible apply R.skip
    | with_reducible apply R.ret
    | with_reducible apply R.block
    | with_reducible apply R.exit
    | ((first | ((with_reducible apply F.store); exact rfl; exact rfl; exact rfl; exact rfl) | ((with_reducible apply F.loadS); exact rfl; exact rfl; exact rfl) | ((with_reducible apply F.load2); exact rfl; exact rfl; exact rfl)); (focus (simp (disch := first | assumption | omega | (simp only [List.length_cons, List.length_nil, List.length_append, List.length_take, List.length_drop]; omega)) only [LS, storeV, loadV, partV, partP, cut, over, mkAgg, allP, asP, V.cells, Pv.cells, elDiv, elMod, elDiv0, Nat.mul_mod_left, Int.toNat_zero, Int.reduceToNat, *] <;> rfl)))
    | ((first | ((with_reducible apply F.alloc); exact rfl; exact rfl)); (focus (simp only [LS] <;> rfl)); (focus (simp only [LS] <;> rfl)))
    | ((first | ((with_reducible apply F.box); exact rfl; exact rfl; exact rfl)); (focus (simp (disch := first | assumption | omega | (simp only [List.length_cons, List.length_nil, List.length_append, List.length_take, List.length_drop]; omega)) only [LS, storeV, loadV, partV, partP, cut, over, mkAgg, allP, asP, V.cells, Pv.cells, elDiv, elMod, elDiv0, Nat.mul_mod_left, Int.toNat_zero, Int.reduceToNat, *] <;> rfl)); exact rfl; (focus (simp only [LS] <;> rfl)); (focus (simp only [LS] <;> rfl)))
    | ((first | ((with_reducible apply F.build); exact rfl; exact rfl; (focus (repeat' (first | exact Prs.nil | (apply Prs.cons; exact rfl))))) | ((with_reducible apply F.buildSlice); exact rfl; exact rfl; (focus (repeat' (first | exact Prs.nil | (apply Prs.cons; exact rfl))))) | ((with_reducible apply F.append); exact rfl; exact rfl; exact rfl; exact rfl; exact rfl; exact rfl; exact rfl; exact rfl) | ((with_reducible apply F.append3); exact rfl; exact rfl; exact rfl; exact rfl; exact rfl; exact rfl; exact rfl; exact rfl)); (focus (simp (disch := first | assumption | omega | (simp only [List.length_cons, List.length_nil, List.length_append, List.length_take, List.length_drop]; omega)) only [LS, buildV, fillV, over, buildSliceV, elemsOf, appendV, elems, arrAt, cut, roomy, mkAgg, allP, asP, V.cells, Pv.cells, Int.toNat_zero, Int.reduceToNat, *] <;> rfl)))
    | ((first | ((with_reducible apply F.indexAddr); exact rfl; exact rfl; exact rfl; exact rfl) | ((with_reducible apply F.len); exact rfl; exact rfl; exact rfl)); (focus (simp (disch := first | assumption | omega | (simp only [List.length_cons, List.length_nil, List.length_append, List.length_take, List.length_drop]; omega)) only [LS, lenV_L, idx_L, below_at, Int.toNat_zero, Int.reduceToNat, *] <;> rfl)))
    | ((first | ((with_reducible apply F.indexAddr); exact rfl; exact rfl; exact rfl; exact rfl) | ((with_reducible apply F.index); exact rfl; exact rfl; exact rfl; exact rfl) | ((with_reducible apply F.convert); exact rfl; exact rfl; exact rfl; exact rfl) | ((with_reducible apply F.slice); exact rfl; exact rfl; exact rfl; exact rfl; exact rfl; exact rfl) | ((with_reducible apply F.makeFunc); exact rfl; (focus (repeat' (first | exact Evs.nil | (apply Evs.cons; exact rfl)))); (focus (repeat' (first | exact Evs.nil | (apply Evs.cons; exact rfl))))) | ((with_reducible apply F.field); exact rfl; exact rfl; exact rfl) | ((with_reducible apply F.fieldAddrS); exact rfl; exact rfl; exact rfl) | ((with_reducible apply F.bin); exact rfl; exact rfl; exact rfl; exact rfl)); (focus (simp (disch := first | assumption | omega | (simp only [List.length_cons, List.length_nil, List.length_append, List.length_take, List.length_drop]; omega)) only [LS, indexAddrV, indexV, below_at, fieldV, fieldAddrV, convP, bytesOf, sliceV, bounds, bMax, bHi, bLo, upTo_at, makeFuncV, partV, partP, cut, binI, binS, binV, binP, arith, strOp_add, strOp_eql, strOp_neq, eqn, wrap64, wrap8, mkAgg, allP, asP, Option.getD_none, Int.toNat_zero, Int.reduceToNat, *] <;> rfl)))
    | ((first | ((with_reducible apply F.assignF); exact rfl; exact rfl) | ((with_reducible apply F.append2); exact rfl; exact rfl; exact rfl; exact rfl; exact rfl; exact rfl; exact rfl; exact rfl)); (focus (simp (disch := first | assumption | omega | (simp only [List.length_cons, List.length_nil, List.length_append, List.length_take, List.length_drop]; omega)) only [LS, frzCells, frz, markCells, mark, elems, arrAt, cut, allP, asP, appendV, V.cells, Pv.cells, roomy, Int.toNat_zero, Int.reduceToNat, *] <;> rfl)); (focus (simp (disch := first | assumption | omega | (simp only [List.length_cons, List.length_nil, List.length_append, List.length_take, List.length_drop]; omega)) only [LS, frzCells, frz, markCells, mark, elems, arrAt, cut, allP, asP, appendV, V.cells, Pv.cells, roomy, Int.toNat_zero, Int.reduceToNat, *] <;> rfl)))
    | ((with_reducible apply F.not); exact rfl; exact rfl; exact rfl)
    | ((with_reducible apply F.pickT'); exact rfl; exact rfl; (focus (simp only [decide_true, decide_false, *]; done)); exact rfl)
    | ((with_reducible apply F.pickF'); exact rfl; exact rfl; (focus (simp only [decide_true, decide_false, *]; done)); exact rfl)
    | (intro hc; (try rw [hc]); (try simp only [decide_eq_true_eq, decide_eq_false_iff_not, Bool.not_eq_eq_eq_not, Bool.not_true, Bool.not_false] at hc); (try (exfalso; omega)))
    | ((with_reducible apply E.r0); exact rfl; exact rfl)
    | ((first | ((with_reducible apply E.r1); exact rfl; exact rfl; (focus (exact look_of rfl))) | ((with_reducible apply E.rF1); exact rfl; exact rfl; (focus (exact look_of rfl))) | ((with_reducible apply E.rP1); exact rfl; exact rfl; (focus (exact look_of rfl))) | ((with_reducible apply E.r2); exact rfl; exact rfl; (focus (exact look_of rfl)); (focus (exact look_of rfl))) | ((with_reducible apply E.rF2); exact rfl; exact rfl; (focus (exact look_of rfl)); (focus (exact look_of rfl))) | ((with_reducible apply E.rP2); exact rfl; exact rfl; (focus (exact look_of rfl)); (focus (exact look_of rfl))) | ((with_reducible apply E.r3); exact rfl; exact rfl; (focus (exact look_of rfl)); (focus (exact look_of rfl)); (focus (exact look_of rfl))) | ((with_reducible apply E.rF3); exact rfl; exact rfl; (focus (exact look_of rfl)); (focus (exact look_of rfl)); (focus (exact look_of rfl))) | ((with_reducible apply E.rP3); exact rfl; exact rfl; (focus (exact look_of rfl)); (focus (exact look_of rfl)); (focus (exact look_of rfl)))))
    | ((first | ((with_reducible apply E.rc); exact rfl; exact rfl; (focus (exact look_of rfl)); exact rfl) | ((with_reducible apply E.rPc); exact rfl; exact rfl; (focus (exact look_of rfl)); exact rfl)); (focus (simp (disch := first | assumption | omega | (simp only [List.length_cons, List.length_nil, List.length_append, List.length_take, List.length_drop]; omega)) only [LS, storeV, loadV, partV, partP, cut, over, mkAgg, allP, asP, V.cells, Pv.cells, elDiv, elMod, elDiv0, Nat.mul_mod_left, Int.toNat_zero, Int.reduceToNat, *] <;> rfl)))
    | refine R.regs rfl ?_
    | refine R.regsL rfl ?_
    | refine R.regsT rfl ?_
    | exact rfl
  refine R.loop (fun m e H => ∃ (i : Nat) (st : List T), e = [(0, .p x), (2, .ptr 0 0 0), (3, .p (stP st)), (4, .p (.int .i64 i))] ∧ H = [.box 0 [.p (.int .i64 0), .p (.int .i64 0), .p .nils]] ∧ i ≤ code.length ∧ m = code.length - i ∧ st.length ≤ i ∧ chk vars args st.length i (code.drop i) = (0, 0) ∧ bld (code.drop i) st = [t]) code.length
    ⟨0, [], rfl, rfl, by omega, rfl, by simp, hc, hb⟩ ?_
  clear hc hb
  rintro m e H ⟨i, st, rfl, rfl, h2, rfl, hs, hc, hb⟩
  by_cases hlt : (i : Int) < code.length
  · obtain ⟨a, hcode⟩ : ∃ b, code[i]? = some b := ⟨code[i]'(by omega), by simp⟩
    rw [drop_at hcode] at hc hb
    obtain ⟨c1, c2, c3, c4⟩ := chk_step hc
    obtain ⟨base, kids, hk, hL, hL', hlen⟩ := push_split a st c1 c3
    have hpl := push_len a st c1 c3
    have hTk := (Takes_run a.op).fv
    have htl := takesF_le a.op
    simp only [bld] at hb
    have hend : ∀ st', st' = stP (pushT a st) → ∃ k, k < code.length - i ∧ ∃ (i' : Nat) (st'' : List T), ([(0, .p x), (2, .ptr 0 0 0), (3, .p st'), (4, .p (.int .i64 ((i : Int) + 1)))] : Env) = [(0, .p x), (2, .ptr 0 0 0), (3, .p (stP st'')), (4, .p (.int .i64 i'))] ∧ ([.box 0 [.p (.int .i64 0), .p (.int .i64 0), .p .nils]] : Hp) = [.box 0 [.p (.int .i64 0), .p (.int .i64 0), .p .nils]] ∧ i' ≤ code.length ∧ k = code.length - i' ∧ st''.length ≤ i' ∧ chk vars args st''.length i' (code.drop i') = (0, 0) ∧ bld (code.drop i') st'' = [t] :=
      fun st' e => ⟨code.length - (i + 1), by omega, i + 1, pushT a st, by rw [e]; rfl, rfl, by omega, rfl, by omega, by rw [hpl]; exact c4, hb⟩
    have hst : stP st = if st = [] then .nils else .sl 3 false (base ++ kids) := by
      cases st with
      | nil => rfl
      | cons t r => rw [if_neg (by simp), ← hL]; rfl
    have hst' : stP (pushT a st) = .sl 3 false (base ++ [node a kids]) := by
      cases hp : pushT a st with
      | nil => rw [hp] at hL'; simp [stL] at hL'
      | cons t r => rw [← hL', hp]; rfl
    have hkn : takesF a.op = kids.length := hk.symm
    rw [hkn] at hTk
    obtain ⟨op, n⟩ := a
    have hb1 : List.drop base.length (base ++ kids) = kids := by simp
    have hb2 : List.take base.length (base ++ kids) = base := by simp
    by_cases hnil : st = []
    · have h0 : base = [] ∧ kids = [] := by
        rw [hnil] at hlen
        simpa using hlen
      obtain ⟨rfl, rfl⟩ := h0
      rw [hst, if_pos hnil]
      have hfin := fun st' (e : st' = Pv.sl 3 false ([] ++ [node ⟨op, n⟩ []])) => hend st' (e.trans hst'.symm)
      clear hend hst hst' hL hL' hb c1 c2 c3 c4 hc hpl hk htl hs hkn
      repeat' first
        | with_reducible apply M.free
        | with_reducible apply M.done
        | ((with_reducible apply F.move); exact rfl; exact rfl)
        | ((with_reducible apply F.load); exact rfl; exact rfl; exact rfl)
        | ((with_reducible apply F.cmp); exact rfl; exact rfl; exact rfl; exact rfl)
        | ((with_reducible apply F.assign); exact rfl; exact rfl)
        | ((with_reducible apply F.fieldAddr); exact rfl; exact rfl; exact rfl)
        | ((with_reducible apply F.len); exact rfl; exact rfl; exact rfl; exact rfl)
        | ((with_reducible apply F.nilCheck); exact rfl; exact rfl; exact rfl)
        | ((with_reducible apply F.extract); exact rfl; exact rfl; exact rfl)
        | ((with_reducible apply F.pickT); exact rfl; exact rfl; exact rfl)
        | ((with_reducible apply F.pickF); exact rfl; exact rfl; exact rfl)
        | ((with_reducible apply F.cmpS); exact rfl; exact rfl; exact rfl; exact rfl)
        | ((first | ((with_reducible apply F.add); exact rfl; exact rfl; exact rfl) | ((with_reducible apply F.sub); exact rfl; exact rfl; exact rfl) | ((with_reducible apply F.adds); exact rfl; exact rfl; exact rfl) | ((with_reducible apply F.neg); exact rfl; exact rfl)); (focus (first | omega | (simp only [List.length_cons, List.length_nil, List.length_append, List.length_take, List.length_drop]; omega))))
        | ((with_reducible apply R.regs); exact rfl)
        | ((with_reducible apply R.regsL); exact rfl)
        | ((with_reducible apply R.regsT); exact rfl)
        | ((with_reducible apply Cut.of); (focus (repeat' (first | exact Kp.nil | (apply Kp.cons; exact rfl)))); (focus ((try simp only [List.take_succ_cons, List.take_zero, List.take_nil, Nat.zero_add, Nat.reduceAdd]) <;> rfl)); (focus (first | exact rfl | (simp [cutOk, lowOb, lowV, lowCell, low_map]; done))))
        | ((with_reducible apply Lv.of); (focus (repeat' (first | exact Kp.nil | (apply Kp.cons; exact rfl)))))
        | ((with_reducible apply F.call0); exact rfl; exact rfl; (focus (repeat' (first | exact Evs.nil | (apply Evs.cons; exact rfl)))); exact rfl; (focus (first | exact hTk)))
        | ((first | (with_reducible apply R.cond) | ((with_reducible apply M.guard); exact rfl)); (focus (first | (refine Eq.trans (look_of rfl) ?_; first | (simp only [decide_true, decide_false, Bool.not_true, Bool.not_false, *, hl, hcode, List.length_map, List.getElem?_map, Ins.pv] <;> rfl) | exact rfl) | exact look_of rfl)))
        | refine imp_yes rfl ?_
        | exact imp_no rfl
        | with_reducible apply R.seq
        | ((with_reducible apply R.region); exact rfl)
        | ((with_reducible apply R.regionL); exact rfl)
        | ((with_reducible apply R.regionT); exact rfl)
        | with_reducible apply E.seqN
        | with_reducible apply E.seqX
        | with_reducible apply E.seqR
        | with_reducible apply E.blkN
        | with_reducible apply E.blkR
        | ((with_reducible apply E.blkX); exact rfl)
        | ((with_reducible apply E.blkO); exact rfl)
        | with_reducible apply R.skip
        | with_reducible apply R.ret
        | with_reducible apply R.block
        | with_reducible apply R.exit
        | ((first | ((with_reducible apply F.store); exact rfl; exact rfl; exact rfl; exact rfl) | ((with_reducible apply F.loadS); exact rfl; exact rfl; exact rfl) | ((with_reducible apply F.load2); exact rfl; exact rfl; exact rfl)); (focus (simp (disch := first | assumption | omega | (simp only [List.length_cons, List.length_nil, List.length_append, List.length_take, List.length_drop]; omega)) only [LS, storeV, loadV, partV, partP, cut, over, mkAgg, allP, asP, V.cells, Pv.cells, elDiv, elMod, elDiv0, Nat.mul_mod_left, Int.toNat_zero, Int.reduceToNat, *, hl, hcode, List.length_map, List.getElem?_map, Ins.pv] <;> rfl)))
        | ((first | ((with_reducible apply F.alloc); exact rfl; exact rfl)); (focus (simp only [LS] <;> rfl)); (focus (simp only [LS] <;> rfl)))
        | ((first | ((with_reducible apply F.box); exact rfl; exact rfl; exact rfl)); (focus (simp (disch := first | assumption | omega | (simp only [List.length_cons, List.length_nil, List.length_append, List.length_take, List.length_drop]; omega)) only [LS, storeV, loadV, partV, partP, cut, over, mkAgg, allP, asP, V.cells, Pv.cells, elDiv, elMod, elDiv0, Nat.mul_mod_left, Int.toNat_zero, Int.reduceToNat, *, hl, hcode, List.length_map, List.getElem?_map, Ins.pv] <;> rfl)); exact rfl; (focus (simp only [LS] <;> rfl)); (focus (simp only [LS] <;> rfl)))
        | ((first | ((with_reducible apply F.build); exact rfl; exact rfl; (focus (repeat' (first | exact Prs.nil | (apply Prs.cons; exact rfl))))) | ((with_reducible apply F.buildSlice); exact rfl; exact rfl; (focus (repeat' (first | exact Prs.nil | (apply Prs.cons; exact rfl))))) | ((with_reducible apply F.append); exact rfl; exact rfl; exact rfl; exact rfl; exact rfl; exact rfl; exact rfl; exact rfl) | ((with_reducible apply F.append3); exact rfl; exact rfl; exact rfl; exact rfl; exact rfl; exact rfl; exact rfl; exact rfl)); (focus (simp (disch := first | assumption | omega | (simp only [List.length_cons, List.length_nil, List.length_append, List.length_take, List.length_drop]; omega)) only [LS, buildV, fillV, over, buildSliceV, elemsOf, appendV, elems, arrAt, cut, roomy, mkAgg, allP, asP, V.cells, Pv.cells, Int.toNat_zero, Int.reduceToNat, *, hl, hcode, List.length_map, List.getElem?_map, Ins.pv] <;> rfl)))
        | ((first | ((with_reducible apply F.indexAddr); exact rfl; exact rfl; exact rfl; exact rfl) | ((with_reducible apply F.len); exact rfl; exact rfl; exact rfl)); (focus (simp (disch := first | assumption | omega | (simp only [List.length_cons, List.length_nil, List.length_append, List.length_take, List.length_drop]; omega)) only [LS, lenV_L, idx_L, below_at, Int.toNat_zero, Int.reduceToNat, *, hl, hcode, List.length_map, List.getElem?_map, Ins.pv] <;> rfl)))
        | ((first | ((with_reducible apply F.indexAddr); exact rfl; exact rfl; exact rfl; exact rfl) | ((with_reducible apply F.index); exact rfl; exact rfl; exact rfl; exact rfl) | ((with_reducible apply F.convert); exact rfl; exact rfl; exact rfl; exact rfl) | ((with_reducible apply F.slice); exact rfl; exact rfl; exact rfl; exact rfl; exact rfl; exact rfl) | ((with_reducible apply F.makeFunc); exact rfl; (focus (repeat' (first | exact Evs.nil | (apply Evs.cons; exact rfl)))); (focus (repeat' (first | exact Evs.nil | (apply Evs.cons; exact rfl))))) | ((with_reducible apply F.field); exact rfl; exact rfl; exact rfl) | ((with_reducible apply F.fieldAddrS); exact rfl; exact rfl; exact rfl) | ((with_reducible apply F.bin); exact rfl; exact rfl; exact rfl; exact rfl)); (focus (simp (disch := first | assumption | omega | (simp only [List.length_cons, List.length_nil, List.length_append, List.length_take, List.length_drop]; omega)) only [LS, indexAddrV, indexV, below_at, fieldV, fieldAddrV, convP, bytesOf, sliceV, bounds, bMax, bHi, bLo, upTo_at, makeFuncV, partV, partP, cut, binI, binS, binV, binP, arith, strOp_add, strOp_eql, strOp_neq, eqn, wrap64, wrap8, mkAgg, allP, asP, Option.getD_none, Int.toNat_zero, Int.reduceToNat, *, hl, hcode, List.length_map, List.getElem?_map, Ins.pv] <;> rfl)))
        | ((first | ((with_reducible apply F.assignF); exact rfl; exact rfl) | ((with_reducible apply F.append2); exact rfl; exact rfl; exact rfl; exact rfl; exact rfl; exact rfl; exact rfl; exact rfl)); (focus (simp (disch := first | assumption | omega | (simp only [List.length_cons, List.length_nil, List.length_append, List.length_take, List.length_drop]; omega)) only [LS, frzCells, frz, markCells, mark, elems, arrAt, cut, allP, asP, appendV, V.cells, Pv.cells, roomy, Int.toNat_zero, Int.reduceToNat, *, hl, hcode, List.length_map, List.getElem?_map, Ins.pv] <;> rfl)); (focus (simp (disch := first | assumption | omega | (simp only [List.length_cons, List.length_nil, List.length_append, List.length_take, List.length_drop]; omega)) only [LS, frzCells, frz, markCells, mark, elems, arrAt, cut, allP, asP, appendV, V.cells, Pv.cells, roomy, Int.toNat_zero, Int.reduceToNat, *, hl, hcode, List.length_map, List.getElem?_map, Ins.pv] <;> rfl)))
        | ((with_reducible apply F.not); exact rfl; exact rfl; exact rfl)
        | ((with_reducible apply F.pickT'); exact rfl; exact rfl; (focus (simp only [decide_true, decide_false, *, hl, hcode, List.length_map, List.getElem?_map, Ins.pv]; done)); exact rfl)
        | ((with_reducible apply F.pickF'); exact rfl; exact rfl; (focus (simp only [decide_true, decide_false, *, hl, hcode, List.length_map, List.getElem?_map, Ins.pv]; done)); exact rfl)
        | (intro hc; (try rw [hc]); (try simp only [decide_eq_true_eq, decide_eq_false_iff_not, Bool.not_eq_eq_eq_not, Bool.not_true, Bool.not_false] at hc); (try (exfalso; omega)))
        | ((with_reducible apply E.r0); exact rfl; exact rfl)
        | ((first | ((with_reducible apply E.r1); exact rfl; exact rfl; (focus (exact look_of rfl))) | ((with_reducible apply E.rF1); exact rfl; exact rfl; (focus (exact look_of rfl))) | ((with_reducible apply E.rP1); exact rfl; exact rfl; (focus (exact look_of rfl))) | ((with_reducible apply E.r2); exact rfl; exact rfl; (focus (exact look_of rfl)); (focus (exact look_of rfl))) | ((with_reducible apply E.rF2); exact rfl; exact rfl; (focus (exact look_of rfl)); (focus (exact look_of rfl))) | ((with_reducible apply E.rP2); exact rfl; exact rfl; (focus (exact look_of rfl)); (focus (exact look_of rfl))) | ((with_reducible apply E.r3); exact rfl; exact rfl; (focus (exact look_of rfl)); (focus (exact look_of rfl)); (focus (exact look_of rfl))) | ((with_reducible apply E.rF3); exact rfl; exact rfl; (focus (exact look_of rfl)); (focus (exact look_of rfl)); (focus (exact look_of rfl))) | ((with_reducible apply E.rP3); exact rfl; exact rfl; (focus (exact look_of rfl)); (focus (exact look_of rfl)); (focus (exact look_of rfl)))))
        | ((first | ((with_reducible apply E.rc); exact rfl; exact rfl; (focus (exact look_of rfl)); exact rfl) | ((with_reducible apply E.rPc); exact rfl; exact rfl; (focus (exact look_of rfl)); exact rfl)); (focus (simp (disch := first | assumption | omega | (simp only [List.length_cons, List.length_nil, List.length_append, List.length_take, List.length_drop]; omega)) only [LS, storeV, loadV, partV, partP, cut, over, mkAgg, allP, asP, V.cells, Pv.cells, elDiv, elMod, elDiv0, Nat.mul_mod_left, Int.toNat_zero, Int.reduceToNat, *, hl, hcode, List.length_map, List.getElem?_map, Ins.pv] <;> rfl)))
        | refine R.regs rfl ?_
        | refine R.regsL rfl ?_
        | refine R.regsT rfl ?_
        | exact rfl
      all_goals exact hfin _ rfl
    · rw [hst, if_neg hnil]
      have hfin := fun st' (e : st' = Pv.sl 3 false (base ++ [node ⟨op, n⟩ kids])) => hend st' (e.trans hst'.symm)
      have hcells : Sz 3 (stL st) := by
        intro p hp
        simp only [stL, List.mem_map] at hp
        obtain ⟨t, _, rfl⟩ := hp
        cases t <;> rfl
      rw [hL] at hcells
      have hsk : Sz 3 kids := fun p hp => hcells p (by simp [hp])
      have hsb : Sz 3 base := fun p hp => hcells p (by simp [hp])
      have e1 : (((base ++ kids).length : Nat) : Int) - (kids.length : Int) = (base.length : Int) := by simp
      have hlt1 : base.length ≤ (base ++ kids).length := by simp
      have e2 : (base ++ kids).length - base.length = kids.length := by simp
      have e3 : List.take kids.length kids = kids := by simp
      have hkl : kids.length ≤ 3 := by omega
      have hbl : base.length ≤ 31 := by omega
      have hne : base = [] → kids ≠ [] := fun h1 h2 => by
        rw [h1, h2] at hlen
        exact hnil (List.length_eq_zero_iff.1 hlen.symm)
      clear hend hst hst' hL hL' hb c1 c2 c3 c4 hc hpl hk htl hs hkn hcells hlen
      generalize hLL : base ++ kids = L at *
      clear hLL
      generalize hnb : base.length = nb at *
      generalize hnk : kids.length = nk at *
      by_cases hk0 : kids = []
      · have hb0 : base ≠ [] := fun h => hne h hk0
        have hbl2 : base.length ≤ 31 := by omega
        clear hnb hnk hsk hne
        repeat' first
          | with_reducible apply M.free
          | with_reducible apply M.done
          | ((with_reducible apply F.move); exact rfl; exact rfl)
          | ((with_reducible apply F.load); exact rfl; exact rfl; exact rfl)
          | ((with_reducible apply F.cmp); exact rfl; exact rfl; exact rfl; exact rfl)
          | ((with_reducible apply F.assign); exact rfl; exact rfl)
          | ((with_reducible apply F.fieldAddr); exact rfl; exact rfl; exact rfl)
          | ((with_reducible apply F.len); exact rfl; exact rfl; exact rfl; exact rfl)
          | ((with_reducible apply F.nilCheck); exact rfl; exact rfl; exact rfl)
          | ((with_reducible apply F.extract); exact rfl; exact rfl; exact rfl)
          | ((with_reducible apply F.pickT); exact rfl; exact rfl; exact rfl)
          | ((with_reducible apply F.pickF); exact rfl; exact rfl; exact rfl)
          | ((with_reducible apply F.cmpS); exact rfl; exact rfl; exact rfl; exact rfl)
          | ((first | ((with_reducible apply F.add); exact rfl; exact rfl; exact rfl) | ((with_reducible apply F.sub); exact rfl; exact rfl; exact rfl) | ((with_reducible apply F.adds); exact rfl; exact rfl; exact rfl) | ((with_reducible apply F.neg); exact rfl; exact rfl)); (focus (first | omega | (simp only [List.length_cons, List.length_nil, List.length_append, List.length_take, List.length_drop]; omega))))
          | ((with_reducible apply R.regs); exact rfl)
          | ((with_reducible apply R.regsL); exact rfl)
          | ((with_reducible apply R.regsT); exact rfl)
          | ((with_reducible apply Cut.of); (focus (repeat' (first | exact Kp.nil | (apply Kp.cons; exact rfl)))); (focus ((try simp only [List.take_succ_cons, List.take_zero, List.take_nil, Nat.zero_add, Nat.reduceAdd]) <;> rfl)); (focus (first | exact rfl | (simp [cutOk, lowOb, lowV, lowCell, low_map]; done))))
          | ((with_reducible apply Lv.of); (focus (repeat' (first | exact Kp.nil | (apply Kp.cons; exact rfl)))))
          | ((with_reducible apply F.call0); exact rfl; exact rfl; (focus (repeat' (first | exact Evs.nil | (apply Evs.cons; exact rfl)))); exact rfl; (focus (first | exact hTk)))
          | ((first | (with_reducible apply R.cond) | ((with_reducible apply M.guard); exact rfl)); (focus (first | (refine Eq.trans (look_of rfl) ?_; first | (simp only [decide_true, decide_false, Bool.not_true, Bool.not_false, *, hl, hcode, List.length_map, List.getElem?_map, Ins.pv, List.take_nil, Nat.sub_zero] <;> rfl) | exact rfl) | exact look_of rfl)))
          | refine imp_yes rfl ?_
          | exact imp_no rfl
          | with_reducible apply R.seq
          | ((with_reducible apply R.region); exact rfl)
          | ((with_reducible apply R.regionL); exact rfl)
          | ((with_reducible apply R.regionT); exact rfl)
          | with_reducible apply E.seqN
          | with_reducible apply E.seqX
          | with_reducible apply E.seqR
          | with_reducible apply E.blkN
          | with_reducible apply E.blkR
          | ((with_reducible apply E.blkX); exact rfl)
          | ((with_reducible apply E.blkO); exact rfl)
          | with_reducible apply R.skip
          | with_reducible apply R.ret
          | with_reducible apply R.block
          | with_reducible apply R.exit
          | ((with_reducible apply F.append3); exact rfl; exact rfl; exact rfl; exact rfl; exact rfl; exact rfl; exact rfl; exact rfl; (focus (refine Eq.trans (append_sl hb0 (by decide) hsb (by simp only [List.length_nil]; omega) (by decide)) ?_; simp only [List.length_cons, List.length_nil, List.cons_append, List.nil_append, List.set_cons_zero, List.set_cons_succ, List.map_cons, List.map_nil, Nat.zero_add, Nat.reduceAdd, Nat.sub_zero]; rfl)))
          | ((with_reducible apply F.append); exact rfl; exact rfl; exact rfl; exact rfl; exact rfl; exact rfl; exact rfl; exact rfl; (focus (refine Eq.trans (append_arr (by simp) (by decide) (fun p hp => by simp only [List.mem_singleton] at hp; subst hp; rfl) rfl (cut_all (by simp)) (Nat.zero_le _) (by simp only [List.length_cons, List.length_nil]; omega) (by decide)) ?_; simp only [List.length_cons, List.length_nil, List.cons_append, List.nil_append, List.set_cons_zero, List.set_cons_succ, List.map_cons, List.map_nil, Nat.zero_add, Nat.reduceAdd, Nat.sub_zero]; rfl)))
          | ((with_reducible apply F.assignF); exact rfl; exact rfl; (focus (exact frz_arr (l := base ++ [.agg [.int .i64 op, .int .i64 n, .sl 3 true []]]) rfl ((cut_all (by simp)).trans (congrArg some (by simp))))); (focus (apply Eq.trans (mark_arr rfl); simp only [List.length_cons, List.length_nil, List.cons_append, List.nil_append, List.set_cons_zero, List.set_cons_succ, List.map_cons, List.map_nil, Nat.zero_add, Nat.reduceAdd, Nat.sub_zero]; rfl)))
          | ((first | ((with_reducible apply F.store); exact rfl; exact rfl; exact rfl; exact rfl) | ((with_reducible apply F.loadS); exact rfl; exact rfl; exact rfl) | ((with_reducible apply F.load2); exact rfl; exact rfl; exact rfl)); (focus (simp (disch := first | assumption | omega | (simp only [List.length_cons, List.length_nil, List.length_append, List.length_take, List.length_drop]; omega)) only [LS, storeV, loadV, partV, partP, cut, over, mkAgg, allP, asP, V.cells, Pv.cells, elDiv, elMod, elDiv0, Nat.mul_mod_left, Int.toNat_zero, Int.reduceToNat, *, hl, hcode, List.length_map, List.getElem?_map, Ins.pv, List.take_nil, Nat.sub_zero] <;> rfl)))
          | ((first | ((with_reducible apply F.alloc); exact rfl; exact rfl)); (focus (simp only [LS] <;> rfl)); (focus (simp only [LS] <;> rfl)))
          | ((first | ((with_reducible apply F.box); exact rfl; exact rfl; exact rfl)); (focus (simp (disch := first | assumption | omega | (simp only [List.length_cons, List.length_nil, List.length_append, List.length_take, List.length_drop]; omega)) only [LS, storeV, loadV, partV, partP, cut, over, mkAgg, allP, asP, V.cells, Pv.cells, elDiv, elMod, elDiv0, Nat.mul_mod_left, Int.toNat_zero, Int.reduceToNat, *, hl, hcode, List.length_map, List.getElem?_map, Ins.pv, List.take_nil, Nat.sub_zero] <;> rfl)); exact rfl; (focus (simp only [LS] <;> rfl)); (focus (simp only [LS] <;> rfl)))
          | ((first | ((with_reducible apply F.build); exact rfl; exact rfl; (focus (repeat' (first | exact Prs.nil | (apply Prs.cons; exact rfl))))) | ((with_reducible apply F.buildSlice); exact rfl; exact rfl; (focus (repeat' (first | exact Prs.nil | (apply Prs.cons; exact rfl))))) | ((with_reducible apply F.append); exact rfl; exact rfl; exact rfl; exact rfl; exact rfl; exact rfl; exact rfl; exact rfl) | ((with_reducible apply F.append3); exact rfl; exact rfl; exact rfl; exact rfl; exact rfl; exact rfl; exact rfl; exact rfl)); (focus (simp (disch := first | assumption | omega | (simp only [List.length_cons, List.length_nil, List.length_append, List.length_take, List.length_drop]; omega)) only [LS, buildV, fillV, over, buildSliceV, elemsOf, appendV, elems, arrAt, cut, roomy, mkAgg, allP, asP, V.cells, Pv.cells, Int.toNat_zero, Int.reduceToNat, *, hl, hcode, List.length_map, List.getElem?_map, Ins.pv, List.take_nil, Nat.sub_zero] <;> rfl)))
          | ((first | ((with_reducible apply F.indexAddr); exact rfl; exact rfl; exact rfl; exact rfl) | ((with_reducible apply F.len); exact rfl; exact rfl; exact rfl)); (focus (simp (disch := first | assumption | omega | (simp only [List.length_cons, List.length_nil, List.length_append, List.length_take, List.length_drop]; omega)) only [LS, lenV_L, idx_L, below_at, Int.toNat_zero, Int.reduceToNat, *, hl, hcode, List.length_map, List.getElem?_map, Ins.pv, List.take_nil, Nat.sub_zero] <;> rfl)))
          | ((first | ((with_reducible apply F.indexAddr); exact rfl; exact rfl; exact rfl; exact rfl) | ((with_reducible apply F.index); exact rfl; exact rfl; exact rfl; exact rfl) | ((with_reducible apply F.convert); exact rfl; exact rfl; exact rfl; exact rfl) | ((with_reducible apply F.slice); exact rfl; exact rfl; exact rfl; exact rfl; exact rfl; exact rfl) | ((with_reducible apply F.makeFunc); exact rfl; (focus (repeat' (first | exact Evs.nil | (apply Evs.cons; exact rfl)))); (focus (repeat' (first | exact Evs.nil | (apply Evs.cons; exact rfl))))) | ((with_reducible apply F.field); exact rfl; exact rfl; exact rfl) | ((with_reducible apply F.fieldAddrS); exact rfl; exact rfl; exact rfl) | ((with_reducible apply F.bin); exact rfl; exact rfl; exact rfl; exact rfl)); (focus (simp (disch := first | assumption | omega | (simp only [List.length_cons, List.length_nil, List.length_append, List.length_take, List.length_drop]; omega)) only [LS, indexAddrV, indexV, below_at, fieldV, fieldAddrV, convP, bytesOf, sliceV, bounds, bMax, bHi, bLo, upTo_at, makeFuncV, partV, partP, cut, binI, binS, binV, binP, arith, strOp_add, strOp_eql, strOp_neq, eqn, wrap64, wrap8, mkAgg, allP, asP, Option.getD_none, Int.toNat_zero, Int.reduceToNat, *, hl, hcode, List.length_map, List.getElem?_map, Ins.pv, List.take_nil, Nat.sub_zero] <;> rfl)))
          | ((first | ((with_reducible apply F.assignF); exact rfl; exact rfl) | ((with_reducible apply F.append2); exact rfl; exact rfl; exact rfl; exact rfl; exact rfl; exact rfl; exact rfl; exact rfl)); (focus (simp (disch := first | assumption | omega | (simp only [List.length_cons, List.length_nil, List.length_append, List.length_take, List.length_drop]; omega)) only [LS, frzCells, frz, markCells, mark, elems, arrAt, cut, allP, asP, appendV, V.cells, Pv.cells, roomy, Int.toNat_zero, Int.reduceToNat, *, hl, hcode, List.length_map, List.getElem?_map, Ins.pv, List.take_nil, Nat.sub_zero] <;> rfl)); (focus (simp (disch := first | assumption | omega | (simp only [List.length_cons, List.length_nil, List.length_append, List.length_take, List.length_drop]; omega)) only [LS, frzCells, frz, markCells, mark, elems, arrAt, cut, allP, asP, appendV, V.cells, Pv.cells, roomy, Int.toNat_zero, Int.reduceToNat, *, hl, hcode, List.length_map, List.getElem?_map, Ins.pv, List.take_nil, Nat.sub_zero] <;> rfl)))
          | ((with_reducible apply F.not); exact rfl; exact rfl; exact rfl)
          | ((with_reducible apply F.pickT'); exact rfl; exact rfl; (focus (simp only [decide_true, decide_false, *, hl, hcode, List.length_map, List.getElem?_map, Ins.pv, List.take_nil, Nat.sub_zero]; done)); exact rfl)
          | ((with_reducible apply F.pickF'); exact rfl; exact rfl; (focus (simp only [decide_true, decide_false, *, hl, hcode, List.length_map, List.getElem?_map, Ins.pv, List.take_nil, Nat.sub_zero]; done)); exact rfl)
          | (intro hc; (try rw [hc]); (try simp only [decide_eq_true_eq, decide_eq_false_iff_not, Bool.not_eq_eq_eq_not, Bool.not_true, Bool.not_false] at hc); (try (exfalso; omega)))
          | ((with_reducible apply E.r0); exact rfl; exact rfl)
          | ((first | ((with_reducible apply E.r1); exact rfl; exact rfl; (focus (exact look_of rfl))) | ((with_reducible apply E.rF1); exact rfl; exact rfl; (focus (exact look_of rfl))) | ((with_reducible apply E.rP1); exact rfl; exact rfl; (focus (exact look_of rfl))) | ((with_reducible apply E.r2); exact rfl; exact rfl; (focus (exact look_of rfl)); (focus (exact look_of rfl))) | ((with_reducible apply E.rF2); exact rfl; exact rfl; (focus (exact look_of rfl)); (focus (exact look_of rfl))) | ((with_reducible apply E.rP2); exact rfl; exact rfl; (focus (exact look_of rfl)); (focus (exact look_of rfl))) | ((with_reducible apply E.r3); exact rfl; exact rfl; (focus (exact look_of rfl)); (focus (exact look_of rfl)); (focus (exact look_of rfl))) | ((with_reducible apply E.rF3); exact rfl; exact rfl; (focus (exact look_of rfl)); (focus (exact look_of rfl)); (focus (exact look_of rfl))) | ((with_reducible apply E.rP3); exact rfl; exact rfl; (focus (exact look_of rfl)); (focus (exact look_of rfl)); (focus (exact look_of rfl)))))
          | ((first | ((with_reducible apply E.rc); exact rfl; exact rfl; (focus (exact look_of rfl)); exact rfl) | ((with_reducible apply E.rPc); exact rfl; exact rfl; (focus (exact look_of rfl)); exact rfl)); (focus (simp (disch := first | assumption | omega | (simp only [List.length_cons, List.length_nil, List.length_append, List.length_take, List.length_drop]; omega)) only [LS, storeV, loadV, partV, partP, cut, over, mkAgg, allP, asP, V.cells, Pv.cells, elDiv, elMod, elDiv0, Nat.mul_mod_left, Int.toNat_zero, Int.reduceToNat, *, hl, hcode, List.length_map, List.getElem?_map, Ins.pv, List.take_nil, Nat.sub_zero] <;> rfl)))
          | refine R.regs rfl ?_
          | refine R.regsL rfl ?_
          | refine R.regsT rfl ?_
          | exact rfl
        all_goals (refine hfin _ ?_)
        all_goals (simp only [node, *]; first | rfl | (cases kids with | nil => exact absurd rfl hk0 | cons => rfl) | trace_state)
      · have hbl2 : base.length ≤ 31 := by omega
        have hkl2 : kids.length ≤ 3 := by omega
        clear hnb hnk hne
        by_cases hb0 : base = []
        · repeat' first
            | with_reducible apply M.free
            | with_reducible apply M.done
            | ((with_reducible apply F.move); exact rfl; exact rfl)
            | ((with_reducible apply F.load); exact rfl; exact rfl; exact rfl)
            | ((with_reducible apply F.cmp); exact rfl; exact rfl; exact rfl; exact rfl)
            | ((with_reducible apply F.assign); exact rfl; exact rfl)
            | ((with_reducible apply F.fieldAddr); exact rfl; exact rfl; exact rfl)
            | ((with_reducible apply F.len); exact rfl; exact rfl; exact rfl; exact rfl)
            | ((with_reducible apply F.nilCheck); exact rfl; exact rfl; exact rfl)
            | ((with_reducible apply F.extract); exact rfl; exact rfl; exact rfl)
            | ((with_reducible apply F.pickT); exact rfl; exact rfl; exact rfl)
            | ((with_reducible apply F.pickF); exact rfl; exact rfl; exact rfl)
            | ((with_reducible apply F.cmpS); exact rfl; exact rfl; exact rfl; exact rfl)
            | ((first | ((with_reducible apply F.add); exact rfl; exact rfl; exact rfl) | ((with_reducible apply F.sub); exact rfl; exact rfl; exact rfl) | ((with_reducible apply F.adds); exact rfl; exact rfl; exact rfl) | ((with_reducible apply F.neg); exact rfl; exact rfl)); (focus (first | omega | (simp only [List.length_cons, List.length_nil, List.length_append, List.length_take, List.length_drop]; omega))))
            | ((with_reducible apply R.regs); exact rfl)
            | ((with_reducible apply R.regsL); exact rfl)
            | ((with_reducible apply R.regsT); exact rfl)
            | ((with_reducible apply Cut.of); (focus (repeat' (first | exact Kp.nil | (apply Kp.cons; exact rfl)))); (focus ((try simp only [List.take_succ_cons, List.take_zero, List.take_nil, Nat.zero_add, Nat.reduceAdd]) <;> rfl)); (focus (first | exact rfl | (simp [cutOk, lowOb, lowV, lowCell, low_map]; done))))
            | ((with_reducible apply Lv.of); (focus (repeat' (first | exact Kp.nil | (apply Kp.cons; exact rfl)))))
            | ((with_reducible apply F.call0); exact rfl; exact rfl; (focus (repeat' (first | exact Evs.nil | (apply Evs.cons; exact rfl)))); exact rfl; (focus (first | exact hTk)))
            | ((first | (with_reducible apply R.cond) | ((with_reducible apply M.guard); exact rfl)); (focus (first | (refine Eq.trans (look_of rfl) ?_; first | (simp only [decide_true, decide_false, Bool.not_true, Bool.not_false, *, hl, hcode, List.length_map, List.getElem?_map, Ins.pv, List.take_nil, Nat.sub_zero] <;> rfl) | exact rfl) | exact look_of rfl)))
            | refine imp_yes rfl ?_
            | exact imp_no rfl
            | with_reducible apply R.seq
            | ((with_reducible apply R.region); exact rfl)
            | ((with_reducible apply R.regionL); exact rfl)
            | ((with_reducible apply R.regionT); exact rfl)
            | with_reducible apply E.seqN
            | with_reducible apply E.seqX
            | with_reducible apply E.seqR
            | with_reducible apply E.blkN
            | with_reducible apply E.blkR
            | ((with_reducible apply E.blkX); exact rfl)
            | ((with_reducible apply E.blkO); exact rfl)
            | with_reducible apply R.skip
            | with_reducible apply R.ret
            | with_reducible apply R.block
            | with_reducible apply R.exit
            | ((with_reducible apply F.append2); exact rfl; exact rfl; exact rfl; exact rfl; exact rfl; exact rfl; exact rfl; exact rfl; (focus (exact append_sl hk0 (by decide) hsk (by simp only [List.length_nil]; omega) (by decide))); (focus (exact frz_arr (l := kids) rfl ((cut_all (by simp)).trans (congrArg some (by simp))))))
            | ((first | ((with_reducible apply F.store); exact rfl; exact rfl; exact rfl; exact rfl) | ((with_reducible apply F.loadS); exact rfl; exact rfl; exact rfl) | ((with_reducible apply F.load2); exact rfl; exact rfl; exact rfl)); (focus (simp (disch := first | assumption | omega | (simp only [List.length_cons, List.length_nil, List.length_append, List.length_take, List.length_drop]; omega)) only [LS, storeV, loadV, partV, partP, cut, over, mkAgg, allP, asP, V.cells, Pv.cells, elDiv, elMod, elDiv0, Nat.mul_mod_left, Int.toNat_zero, Int.reduceToNat, *, hl, hcode, List.length_map, List.getElem?_map, Ins.pv, List.take_nil, Nat.sub_zero] <;> rfl)))
            | ((first | ((with_reducible apply F.alloc); exact rfl; exact rfl)); (focus (simp only [LS] <;> rfl)); (focus (simp only [LS] <;> rfl)))
            | ((first | ((with_reducible apply F.box); exact rfl; exact rfl; exact rfl)); (focus (simp (disch := first | assumption | omega | (simp only [List.length_cons, List.length_nil, List.length_append, List.length_take, List.length_drop]; omega)) only [LS, storeV, loadV, partV, partP, cut, over, mkAgg, allP, asP, V.cells, Pv.cells, elDiv, elMod, elDiv0, Nat.mul_mod_left, Int.toNat_zero, Int.reduceToNat, *, hl, hcode, List.length_map, List.getElem?_map, Ins.pv, List.take_nil, Nat.sub_zero] <;> rfl)); exact rfl; (focus (simp only [LS] <;> rfl)); (focus (simp only [LS] <;> rfl)))
            | ((first | ((with_reducible apply F.build); exact rfl; exact rfl; (focus (repeat' (first | exact Prs.nil | (apply Prs.cons; exact rfl))))) | ((with_reducible apply F.buildSlice); exact rfl; exact rfl; (focus (repeat' (first | exact Prs.nil | (apply Prs.cons; exact rfl))))) | ((with_reducible apply F.append); exact rfl; exact rfl; exact rfl; exact rfl; exact rfl; exact rfl; exact rfl; exact rfl) | ((with_reducible apply F.append3); exact rfl; exact rfl; exact rfl; exact rfl; exact rfl; exact rfl; exact rfl; exact rfl)); (focus (simp (disch := first | assumption | omega | (simp only [List.length_cons, List.length_nil, List.length_append, List.length_take, List.length_drop]; omega)) only [LS, buildV, fillV, over, buildSliceV, elemsOf, appendV, elems, arrAt, cut, roomy, mkAgg, allP, asP, V.cells, Pv.cells, Int.toNat_zero, Int.reduceToNat, *, hl, hcode, List.length_map, List.getElem?_map, Ins.pv, List.take_nil, Nat.sub_zero] <;> rfl)))
            | ((first | ((with_reducible apply F.indexAddr); exact rfl; exact rfl; exact rfl; exact rfl) | ((with_reducible apply F.len); exact rfl; exact rfl; exact rfl)); (focus (simp (disch := first | assumption | omega | (simp only [List.length_cons, List.length_nil, List.length_append, List.length_take, List.length_drop]; omega)) only [LS, lenV_L, idx_L, below_at, Int.toNat_zero, Int.reduceToNat, *, hl, hcode, List.length_map, List.getElem?_map, Ins.pv, List.take_nil, Nat.sub_zero] <;> rfl)))
            | ((first | ((with_reducible apply F.indexAddr); exact rfl; exact rfl; exact rfl; exact rfl) | ((with_reducible apply F.index); exact rfl; exact rfl; exact rfl; exact rfl) | ((with_reducible apply F.convert); exact rfl; exact rfl; exact rfl; exact rfl) | ((with_reducible apply F.slice); exact rfl; exact rfl; exact rfl; exact rfl; exact rfl; exact rfl) | ((with_reducible apply F.makeFunc); exact rfl; (focus (repeat' (first | exact Evs.nil | (apply Evs.cons; exact rfl)))); (focus (repeat' (first | exact Evs.nil | (apply Evs.cons; exact rfl))))) | ((with_reducible apply F.field); exact rfl; exact rfl; exact rfl) | ((with_reducible apply F.fieldAddrS); exact rfl; exact rfl; exact rfl) | ((with_reducible apply F.bin); exact rfl; exact rfl; exact rfl; exact rfl)); (focus (simp (disch := first | assumption | omega | (simp only [List.length_cons, List.length_nil, List.length_append, List.length_take, List.length_drop]; omega)) only [LS, indexAddrV, indexV, below_at, fieldV, fieldAddrV, convP, bytesOf, sliceV, bounds, bMax, bHi, bLo, upTo_at, makeFuncV, partV, partP, cut, binI, binS, binV, binP, arith, strOp_add, strOp_eql, strOp_neq, eqn, wrap64, wrap8, mkAgg, allP, asP, Option.getD_none, Int.toNat_zero, Int.reduceToNat, *, hl, hcode, List.length_map, List.getElem?_map, Ins.pv, List.take_nil, Nat.sub_zero] <;> rfl)))
            | ((first | ((with_reducible apply F.assignF); exact rfl; exact rfl) | ((with_reducible apply F.append2); exact rfl; exact rfl; exact rfl; exact rfl; exact rfl; exact rfl; exact rfl; exact rfl)); (focus (simp (disch := first | assumption | omega | (simp only [List.length_cons, List.length_nil, List.length_append, List.length_take, List.length_drop]; omega)) only [LS, frzCells, frz, markCells, mark, elems, arrAt, cut, allP, asP, appendV, V.cells, Pv.cells, roomy, Int.toNat_zero, Int.reduceToNat, *, hl, hcode, List.length_map, List.getElem?_map, Ins.pv, List.take_nil, Nat.sub_zero] <;> rfl)); (focus (simp (disch := first | assumption | omega | (simp only [List.length_cons, List.length_nil, List.length_append, List.length_take, List.length_drop]; omega)) only [LS, frzCells, frz, markCells, mark, elems, arrAt, cut, allP, asP, appendV, V.cells, Pv.cells, roomy, Int.toNat_zero, Int.reduceToNat, *, hl, hcode, List.length_map, List.getElem?_map, Ins.pv, List.take_nil, Nat.sub_zero] <;> rfl)))
            | ((with_reducible apply F.not); exact rfl; exact rfl; exact rfl)
            | ((with_reducible apply F.pickT'); exact rfl; exact rfl; (focus (simp only [decide_true, decide_false, *, hl, hcode, List.length_map, List.getElem?_map, Ins.pv, List.take_nil, Nat.sub_zero]; done)); exact rfl)
            | ((with_reducible apply F.pickF'); exact rfl; exact rfl; (focus (simp only [decide_true, decide_false, *, hl, hcode, List.length_map, List.getElem?_map, Ins.pv, List.take_nil, Nat.sub_zero]; done)); exact rfl)
            | (intro hc; (try rw [hc]); (try simp only [decide_eq_true_eq, decide_eq_false_iff_not, Bool.not_eq_eq_eq_not, Bool.not_true, Bool.not_false] at hc); (try (exfalso; omega)))
            | ((with_reducible apply E.r0); exact rfl; exact rfl)
            | ((first | ((with_reducible apply E.r1); exact rfl; exact rfl; (focus (exact look_of rfl))) | ((with_reducible apply E.rF1); exact rfl; exact rfl; (focus (exact look_of rfl))) | ((with_reducible apply E.rP1); exact rfl; exact rfl; (focus (exact look_of rfl))) | ((with_reducible apply E.r2); exact rfl; exact rfl; (focus (exact look_of rfl)); (focus (exact look_of rfl))) | ((with_reducible apply E.rF2); exact rfl; exact rfl; (focus (exact look_of rfl)); (focus (exact look_of rfl))) | ((with_reducible apply E.rP2); exact rfl; exact rfl; (focus (exact look_of rfl)); (focus (exact look_of rfl))) | ((with_reducible apply E.r3); exact rfl; exact rfl; (focus (exact look_of rfl)); (focus (exact look_of rfl)); (focus (exact look_of rfl))) | ((with_reducible apply E.rF3); exact rfl; exact rfl; (focus (exact look_of rfl)); (focus (exact look_of rfl)); (focus (exact look_of rfl))) | ((with_reducible apply E.rP3); exact rfl; exact rfl; (focus (exact look_of rfl)); (focus (exact look_of rfl)); (focus (exact look_of rfl)))))
            | ((first | ((with_reducible apply E.rc); exact rfl; exact rfl; (focus (exact look_of rfl)); exact rfl) | ((with_reducible apply E.rPc); exact rfl; exact rfl; (focus (exact look_of rfl)); exact rfl)); (focus (simp (disch := first | assumption | omega | (simp only [List.length_cons, List.length_nil, List.length_append, List.length_take, List.length_drop]; omega)) only [LS, storeV, loadV, partV, partP, cut, over, mkAgg, allP, asP, V.cells, Pv.cells, elDiv, elMod, elDiv0, Nat.mul_mod_left, Int.toNat_zero, Int.reduceToNat, *, hl, hcode, List.length_map, List.getElem?_map, Ins.pv, List.take_nil, Nat.sub_zero] <;> rfl)))
            | refine R.regs rfl ?_
            | refine R.regsL rfl ?_
            | refine R.regsT rfl ?_
            | exact rfl
          all_goals (refine hfin _ ?_)
          all_goals (simp only [node, *]; first | rfl | (cases kids with | nil => exact absurd rfl hk0 | cons => rfl) | trace_state)
        · repeat' first
            | with_reducible apply M.free
            | with_reducible apply M.done
            | ((with_reducible apply F.move); exact rfl; exact rfl)
            | ((with_reducible apply F.load); exact rfl; exact rfl; exact rfl)
            | ((with_reducible apply F.cmp); exact rfl; exact rfl; exact rfl; exact rfl)
            | ((with_reducible apply F.assign); exact rfl; exact rfl)
            | ((with_reducible apply F.fieldAddr); exact rfl; exact rfl; exact rfl)
            | ((with_reducible apply F.len); exact rfl; exact rfl; exact rfl; exact rfl)
            | ((with_reducible apply F.nilCheck); exact rfl; exact rfl; exact rfl)
            | ((with_reducible apply F.extract); exact rfl; exact rfl; exact rfl)
            | ((with_reducible apply F.pickT); exact rfl; exact rfl; exact rfl)
            | ((with_reducible apply F.pickF); exact rfl; exact rfl; exact rfl)
            | ((with_reducible apply F.cmpS); exact rfl; exact rfl; exact rfl; exact rfl)
            | ((first | ((with_reducible apply F.add); exact rfl; exact rfl; exact rfl) | ((with_reducible apply F.sub); exact rfl; exact rfl; exact rfl) | ((with_reducible apply F.adds); exact rfl; exact rfl; exact rfl) | ((with_reducible apply F.neg); exact rfl; exact rfl)); (focus (first | omega | (simp only [List.length_cons, List.length_nil, List.length_append, List.length_take, List.length_drop]; omega))))
            | ((with_reducible apply R.regs); exact rfl)
            | ((with_reducible apply R.regsL); exact rfl)
            | ((with_reducible apply R.regsT); exact rfl)
            | ((with_reducible apply Cut.of); (focus (repeat' (first | exact Kp.nil | (apply Kp.cons; exact rfl)))); (focus ((try simp only [List.take_succ_cons, List.take_zero, List.take_nil, Nat.zero_add, Nat.reduceAdd]) <;> rfl)); (focus (first | exact rfl | (simp [cutOk, lowOb, lowV, lowCell, low_map]; done))))
            | ((with_reducible apply Lv.of); (focus (repeat' (first | exact Kp.nil | (apply Kp.cons; exact rfl)))))
            | ((with_reducible apply F.call0); exact rfl; exact rfl; (focus (repeat' (first | exact Evs.nil | (apply Evs.cons; exact rfl)))); exact rfl; (focus (first | exact hTk)))
            | ((first | (with_reducible apply R.cond) | ((with_reducible apply M.guard); exact rfl)); (focus (first | (refine Eq.trans (look_of rfl) ?_; first | (simp only [decide_true, decide_false, Bool.not_true, Bool.not_false, *, hl, hcode, List.length_map, List.getElem?_map, Ins.pv, List.take_nil, Nat.sub_zero] <;> rfl) | exact rfl) | exact look_of rfl)))
            | refine imp_yes rfl ?_
            | exact imp_no rfl
            | with_reducible apply R.seq
            | ((with_reducible apply R.region); exact rfl)
            | ((with_reducible apply R.regionL); exact rfl)
            | ((with_reducible apply R.regionT); exact rfl)
            | with_reducible apply E.seqN
            | with_reducible apply E.seqX
            | with_reducible apply E.seqR
            | with_reducible apply E.blkN
            | with_reducible apply E.blkR
            | ((with_reducible apply E.blkX); exact rfl)
            | ((with_reducible apply E.blkO); exact rfl)
            | with_reducible apply R.skip
            | with_reducible apply R.ret
            | with_reducible apply R.block
            | with_reducible apply R.exit
            | ((with_reducible apply F.append2); exact rfl; exact rfl; exact rfl; exact rfl; exact rfl; exact rfl; exact rfl; exact rfl; (focus (exact append_sl hk0 (by decide) hsk (by simp only [List.length_nil]; omega) (by decide))); (focus (exact frz_arr (l := kids) rfl ((cut_all (by simp)).trans (congrArg some (by simp))))))
            | ((with_reducible apply F.append3); exact rfl; exact rfl; exact rfl; exact rfl; exact rfl; exact rfl; exact rfl; exact rfl; (focus (refine Eq.trans (append_sl hb0 (by decide) hsb (by simp only [List.length_nil]; omega) (by decide)) ?_; simp only [List.length_cons, List.length_nil, List.cons_append, List.nil_append, List.set_cons_zero, List.set_cons_succ, List.map_cons, List.map_nil, Nat.zero_add, Nat.reduceAdd, Nat.sub_zero]; rfl)))
            | ((with_reducible apply F.append); exact rfl; exact rfl; exact rfl; exact rfl; exact rfl; exact rfl; exact rfl; exact rfl; (focus (refine Eq.trans (append_arr (by simp) (by decide) (fun p hp => by simp only [List.mem_singleton] at hp; subst hp; rfl) rfl (cut_all (by simp)) (Nat.zero_le _) (by simp only [List.length_cons, List.length_nil]; omega) (by decide)) ?_; simp only [List.length_cons, List.length_nil, List.cons_append, List.nil_append, List.set_cons_zero, List.set_cons_succ, List.map_cons, List.map_nil, Nat.zero_add, Nat.reduceAdd, Nat.sub_zero]; rfl)))
            | ((with_reducible apply F.assignF); exact rfl; exact rfl; (focus (exact frz_arr (l := base ++ [.agg [.int .i64 op, .int .i64 n, .sl 3 false kids]]) rfl ((cut_all (by simp)).trans (congrArg some (by simp))))); (focus (apply Eq.trans (mark_arr rfl); simp only [List.length_cons, List.length_nil, List.cons_append, List.nil_append, List.set_cons_zero, List.set_cons_succ, List.map_cons, List.map_nil, Nat.zero_add, Nat.reduceAdd, Nat.sub_zero]; rfl)))
            | ((first | ((with_reducible apply F.store); exact rfl; exact rfl; exact rfl; exact rfl) | ((with_reducible apply F.loadS); exact rfl; exact rfl; exact rfl) | ((with_reducible apply F.load2); exact rfl; exact rfl; exact rfl)); (focus (simp (disch := first | assumption | omega | (simp only [List.length_cons, List.length_nil, List.length_append, List.length_take, List.length_drop]; omega)) only [LS, storeV, loadV, partV, partP, cut, over, mkAgg, allP, asP, V.cells, Pv.cells, elDiv, elMod, elDiv0, Nat.mul_mod_left, Int.toNat_zero, Int.reduceToNat, *, hl, hcode, List.length_map, List.getElem?_map, Ins.pv, List.take_nil, Nat.sub_zero] <;> rfl)))
            | ((first | ((with_reducible apply F.alloc); exact rfl; exact rfl)); (focus (simp only [LS] <;> rfl)); (focus (simp only [LS] <;> rfl)))
            | ((first | ((with_reducible apply F.box); exact rfl; exact rfl; exact rfl)); (focus (simp (disch := first | assumption | omega | (simp only [List.length_cons, List.length_nil, List.length_append, List.length_take, List.length_drop]; omega)) only [LS, storeV, loadV, partV, partP, cut, over, mkAgg, allP, asP, V.cells, Pv.cells, elDiv, elMod, elDiv0, Nat.mul_mod_left, Int.toNat_zero, Int.reduceToNat, *, hl, hcode, List.length_map, List.getElem?_map, Ins.pv, List.take_nil, Nat.sub_zero] <;> rfl)); exact rfl; (focus (simp only [LS] <;> rfl)); (focus (simp only [LS] <;> rfl)))
            | ((first | ((with_reducible apply F.build); exact rfl; exact rfl; (focus (repeat' (first | exact Prs.nil | (apply Prs.cons; exact rfl))))) | ((with_reducible apply F.buildSlice); exact rfl; exact rfl; (focus (repeat' (first | exact Prs.nil | (apply Prs.cons; exact rfl))))) | ((with_reducible apply F.append); exact rfl; exact rfl; exact rfl; exact rfl; exact rfl; exact rfl; exact rfl; exact rfl) | ((with_reducible apply F.append3); exact rfl; exact rfl; exact rfl; exact rfl; exact rfl; exact rfl; exact rfl; exact rfl)); (focus (simp (disch := first | assumption | omega | (simp only [List.length_cons, List.length_nil, List.length_append, List.length_take, List.length_drop]; omega)) only [LS, buildV, fillV, over, buildSliceV, elemsOf, appendV, elems, arrAt, cut, roomy, mkAgg, allP, asP, V.cells, Pv.cells, Int.toNat_zero, Int.reduceToNat, *, hl, hcode, List.length_map, List.getElem?_map, Ins.pv, List.take_nil, Nat.sub_zero] <;> rfl)))
            | ((first | ((with_reducible apply F.indexAddr); exact rfl; exact rfl; exact rfl; exact rfl) | ((with_reducible apply F.len); exact rfl; exact rfl; exact rfl)); (focus (simp (disch := first | assumption | omega | (simp only [List.length_cons, List.length_nil, List.length_append, List.length_take, List.length_drop]; omega)) only [LS, lenV_L, idx_L, below_at, Int.toNat_zero, Int.reduceToNat, *, hl, hcode, List.length_map, List.getElem?_map, Ins.pv, List.take_nil, Nat.sub_zero] <;> rfl)))
            | ((first | ((with_reducible apply F.indexAddr); exact rfl; exact rfl; exact rfl; exact rfl) | ((with_reducible apply F.index); exact rfl; exact rfl; exact rfl; exact rfl) | ((with_reducible apply F.convert); exact rfl; exact rfl; exact rfl; exact rfl) | ((with_reducible apply F.slice); exact rfl; exact rfl; exact rfl; exact rfl; exact rfl; exact rfl) | ((with_reducible apply F.makeFunc); exact rfl; (focus (repeat' (first | exact Evs.nil | (apply Evs.cons; exact rfl)))); (focus (repeat' (first | exact Evs.nil | (apply Evs.cons; exact rfl))))) | ((with_reducible apply F.field); exact rfl; exact rfl; exact rfl) | ((with_reducible apply F.fieldAddrS); exact rfl; exact rfl; exact rfl) | ((with_reducible apply F.bin); exact rfl; exact rfl; exact rfl; exact rfl)); (focus (simp (disch := first | assumption | omega | (simp only [List.length_cons, List.length_nil, List.length_append, List.length_take, List.length_drop]; omega)) only [LS, indexAddrV, indexV, below_at, fieldV, fieldAddrV, convP, bytesOf, sliceV, bounds, bMax, bHi, bLo, upTo_at, makeFuncV, partV, partP, cut, binI, binS, binV, binP, arith, strOp_add, strOp_eql, strOp_neq, eqn, wrap64, wrap8, mkAgg, allP, asP, Option.getD_none, Int.toNat_zero, Int.reduceToNat, *, hl, hcode, List.length_map, List.getElem?_map, Ins.pv, List.take_nil, Nat.sub_zero] <;> rfl)))
            | ((first | ((with_reducible apply F.assignF); exact rfl; exact rfl) | ((with_reducible apply F.append2); exact rfl; exact rfl; exact rfl; exact rfl; exact rfl; exact rfl; exact rfl; exact rfl)); (focus (simp (disch := first | assumption | omega | (simp only [List.length_cons, List.length_nil, List.length_append, List.length_take, List.length_drop]; omega)) only [LS, frzCells, frz, markCells, mark, elems, arrAt, cut, allP, asP, appendV, V.cells, Pv.cells, roomy, Int.toNat_zero, Int.reduceToNat, *, hl, hcode, List.length_map, List.getElem?_map, Ins.pv, List.take_nil, Nat.sub_zero] <;> rfl)); (focus (simp (disch := first | assumption | omega | (simp only [List.length_cons, List.length_nil, List.length_append, List.length_take, List.length_drop]; omega)) only [LS, frzCells, frz, markCells, mark, elems, arrAt, cut, allP, asP, appendV, V.cells, Pv.cells, roomy, Int.toNat_zero, Int.reduceToNat, *, hl, hcode, List.length_map, List.getElem?_map, Ins.pv, List.take_nil, Nat.sub_zero] <;> rfl)))
            | ((with_reducible apply F.not); exact rfl; exact rfl; exact rfl)
            | ((with_reducible apply F.pickT'); exact rfl; exact rfl; (focus (simp only [decide_true, decide_false, *, hl, hcode, List.length_map, List.getElem?_map, Ins.pv, List.take_nil, Nat.sub_zero]; done)); exact rfl)
            | ((with_reducible apply F.pickF'); exact rfl; exact rfl; (focus (simp only [decide_true, decide_false, *, hl, hcode, List.length_map, List.getElem?_map, Ins.pv, List.take_nil, Nat.sub_zero]; done)); exact rfl)
            | (intro hc; (try rw [hc]); (try simp only [decide_eq_true_eq, decide_eq_false_iff_not, Bool.not_eq_eq_eq_not, Bool.not_true, Bool.not_false] at hc); (try (exfalso; omega)))
            | ((with_reducible apply E.r0); exact rfl; exact rfl)
            | ((first | ((with_reducible apply E.r1); exact rfl; exact rfl; (focus (exact look_of rfl))) | ((with_reducible apply E.rF1); exact rfl; exact rfl; (focus (exact look_of rfl))) | ((with_reducible apply E.rP1); exact rfl; exact rfl; (focus (exact look_of rfl))) | ((with_reducible apply E.r2); exact rfl; exact rfl; (focus (exact look_of rfl)); (focus (exact look_of rfl))) | ((with_reducible apply E.rF2); exact rfl; exact rfl; (focus (exact look_of rfl)); (focus (exact look_of rfl))) | ((with_reducible apply E.rP2); exact rfl; exact rfl; (focus (exact look_of rfl)); (focus (exact look_of rfl))) | ((with_reducible apply E.r3); exact rfl; exact rfl; (focus (exact look_of rfl)); (focus (exact look_of rfl)); (focus (exact look_of rfl))) | ((with_reducible apply E.rF3); exact rfl; exact rfl; (focus (exact look_of rfl)); (focus (exact look_of rfl)); (focus (exact look_of rfl))) | ((with_reducible apply E.rP3); exact rfl; exact rfl; (focus (exact look_of rfl)); (focus (exact look_of rfl)); (focus (exact look_of rfl)))))
            | ((first | ((with_reducible apply E.rc); exact rfl; exact rfl; (focus (exact look_of rfl)); exact rfl) | ((with_reducible apply E.rPc); exact rfl; exact rfl; (focus (exact look_of rfl)); exact rfl)); (focus (simp (disch := first | assumption | omega | (simp only [List.length_cons, List.length_nil, List.length_append, List.length_take, List.length_drop]; omega)) only [LS, storeV, loadV, partV, partP, cut, over, mkAgg, allP, asP, V.cells, Pv.cells, elDiv, elMod, elDiv0, Nat.mul_mod_left, Int.toNat_zero, Int.reduceToNat, *, hl, hcode, List.length_map, List.getElem?_map, Ins.pv, List.take_nil, Nat.sub_zero] <;> rfl)))
            | refine R.regs rfl ?_
            | refine R.regsL rfl ?_
            | refine R.regsT rfl ?_
            | exact rfl
          all_goals (refine hfin _ ?_)
          all_goals (simp only [node, *]; first | rfl | (cases kids with | nil => exact absurd rfl hk0 | cons => rfl) | trace_state)
  · have e : i = code.length := by omega
    subst e
    rw [List.drop_length] at hb
    simp only [bld] at hb
    subst hb
    obtain ⟨l, e⟩ := node_pv t
    have es : stP [t] = .sl 3 false [t.pv] := rfl
    rw [es, e]
    repeat' first
      | with_reducible apply M.free
      | with_reducible apply M.done
      | ((with_reducible apply F.move); exact rfl; exact rfl)
      | ((with_reducible apply F.load); exact rfl; exact rfl; exact rfl)
      | ((with_reducible apply F.cmp); exact rfl; exact rfl; exact rfl; exact rfl)
      | ((with_reducible apply F.assign); exact rfl; exact rfl)
      | ((with_reducible apply F.fieldAddr); exact rfl; exact rfl; exact rfl)
      | ((with_reducible apply F.len); exact rfl; exact rfl; exact rfl; exact rfl)
      | ((with_reducible apply F.nilCheck); exact rfl; exact rfl; exact rfl)
      | ((with_reducible apply F.extract); exact rfl; exact rfl; exact rfl)
      | ((with_reducible apply F.pickT); exact rfl; exact rfl; exact rfl)
      | ((with_reducible apply F.pickF); exact rfl; exact rfl; exact rfl)
      | ((with_reducible apply F.cmpS); exact rfl; exact rfl; exact rfl; exact rfl)
      | ((first | ((with_reducible apply F.add); exact rfl; exact rfl; exact rfl) | ((with_reducible apply F.sub); exact rfl; exact rfl; exact rfl) | ((with_reducible apply F.adds); exact rfl; exact rfl; exact rfl) | ((with_reducible apply F.neg); exact rfl; exact rfl)); (focus (first | omega | (simp only [List.length_cons, List.length_nil, List.length_append, List.length_take, List.length_drop]; omega))))
      | ((with_reducible apply R.regs); exact rfl)
      | ((with_reducible apply R.regsL); exact rfl)
      | ((with_reducible apply R.regsT); exact rfl)
      | ((with_reducible apply Cut.of); (focus (repeat' (first | exact Kp.nil | (apply Kp.cons; exact rfl)))); (focus ((try simp only [List.take_succ_cons, List.take_zero, List.take_nil, Nat.zero_add, Nat.reduceAdd]) <;> rfl)); (focus (first | exact rfl | (simp [cutOk, lowOb, lowV, lowCell, low_map]; done))))
      | ((with_reducible apply Lv.of); (focus (repeat' (first | exact Kp.nil | (apply Kp.cons; exact rfl)))))
      | ((first | (with_reducible apply R.cond) | ((with_reducible apply M.guard); exact rfl)); (focus (first | (refine Eq.trans (look_of rfl) ?_; first | (simp only [decide_true, decide_false, Bool.not_true, Bool.not_false, *, hl, List.length_map] <;> rfl) | exact rfl) | exact look_of rfl)))
      | refine imp_yes rfl ?_
      | exact imp_no rfl
      | with_reducible apply R.seq
      | ((with_reducible apply R.region); exact rfl)
      | ((with_reducible apply R.regionL); exact rfl)
      | ((with_reducible apply R.regionT); exact rfl)
      | with_reducible apply E.seqN
      | with_reducible apply E.seqX
      | with_reducible apply E.seqR
      | with_reducible apply E.blkN
      | with_reducible apply E.blkR
      | ((with_reducible apply E.blkX); exact rfl)
      | ((with_reducible apply E.blkO); exact rfl)
      | with_reducible apply R.skip
      | with_reducible apply R.ret
      | with_reducible apply R.block
      | with_reducible apply R.exit
      | ((first | ((with_reducible apply F.store); exact rfl; exact rfl; exact rfl; exact rfl) | ((with_reducible apply F.loadS); exact rfl; exact rfl; exact rfl) | ((with_reducible apply F.load2); exact rfl; exact rfl; exact rfl)); (focus (simp (disch := first | assumption | omega | (simp only [List.length_cons, List.length_nil, List.length_append, List.length_take, List.length_drop]; omega)) only [LS, storeV, loadV, partV, partP, cut, over, mkAgg, allP, asP, V.cells, Pv.cells, elDiv, elMod, elDiv0, Nat.mul_mod_left, Int.toNat_zero, Int.reduceToNat, *, hl, List.length_map] <;> rfl)))
      | ((first | ((with_reducible apply F.alloc); exact rfl; exact rfl)); (focus (simp only [LS] <;> rfl)); (focus (simp only [LS] <;> rfl)))
      | ((first | ((with_reducible apply F.box); exact rfl; exact rfl; exact rfl)); (focus (simp (disch := first | assumption | omega | (simp only [List.length_cons, List.length_nil, List.length_append, List.length_take, List.length_drop]; omega)) only [LS, storeV, loadV, partV, partP, cut, over, mkAgg, allP, asP, V.cells, Pv.cells, elDiv, elMod, elDiv0, Nat.mul_mod_left, Int.toNat_zero, Int.reduceToNat, *, hl, List.length_map] <;> rfl)); exact rfl; (focus (simp only [LS] <;> rfl)); (focus (simp only [LS] <;> rfl)))
      | ((first | ((with_reducible apply F.build); exact rfl; exact rfl; (focus (repeat' (first | exact Prs.nil | (apply Prs.cons; exact rfl))))) | ((with_reducible apply F.buildSlice); exact rfl; exact rfl; (focus (repeat' (first | exact Prs.nil | (apply Prs.cons; exact rfl))))) | ((with_reducible apply F.append); exact rfl; exact rfl; exact rfl; exact rfl; exact rfl; exact rfl; exact rfl; exact rfl) | ((with_reducible apply F.append3); exact rfl; exact rfl; exact rfl; exact rfl; exact rfl; exact rfl; exact rfl; exact rfl)); (focus (simp (disch := first | assumption | omega | (simp only [List.length_cons, List.length_nil, List.length_append, List.length_take, List.length_drop]; omega)) only [LS, buildV, fillV, over, buildSliceV, elemsOf, appendV, elems, arrAt, cut, roomy, mkAgg, allP, asP, V.cells, Pv.cells, Int.toNat_zero, Int.reduceToNat, *, hl, List.length_map] <;> rfl)))
      | ((first | ((with_reducible apply F.indexAddr); exact rfl; exact rfl; exact rfl; exact rfl) | ((with_reducible apply F.len); exact rfl; exact rfl; exact rfl)); (focus (simp (disch := first | assumption | omega | (simp only [List.length_cons, List.length_nil, List.length_append, List.length_take, List.length_drop]; omega)) only [LS, lenV_L, idx_L, below_at, Int.toNat_zero, Int.reduceToNat, *, hl, List.length_map] <;> rfl)))
      | ((first | ((with_reducible apply F.indexAddr); exact rfl; exact rfl; exact rfl; exact rfl) | ((with_reducible apply F.index); exact rfl; exact rfl; exact rfl; exact rfl) | ((with_reducible apply F.convert); exact rfl; exact rfl; exact rfl; exact rfl) | ((with_reducible apply F.slice); exact rfl; exact rfl; exact rfl; exact rfl; exact rfl; exact rfl) | ((with_reducible apply F.makeFunc); exact rfl; (focus (repeat' (first | exact Evs.nil | (apply Evs.cons; exact rfl)))); (focus (repeat' (first | exact Evs.nil | (apply Evs.cons; exact rfl))))) | ((with_reducible apply F.field); exact rfl; exact rfl; exact rfl) | ((with_reducible apply F.fieldAddrS); exact rfl; exact rfl; exact rfl) | ((with_reducible apply F.bin); exact rfl; exact rfl; exact rfl; exact rfl)); (focus (simp (disch := first | assumption | omega | (simp only [List.length_cons, List.length_nil, List.length_append, List.length_take, List.length_drop]; omega)) only [LS, indexAddrV, indexV, below_at, fieldV, fieldAddrV, convP, bytesOf, sliceV, bounds, bMax, bHi, bLo, upTo_at, makeFuncV, partV, partP, cut, binI, binS, binV, binP, arith, strOp_add, strOp_eql, strOp_neq, eqn, wrap64, wrap8, mkAgg, allP, asP, Option.getD_none, Int.toNat_zero, Int.reduceToNat, *, hl, List.length_map] <;> rfl)))
      | ((first | ((with_reducible apply F.assignF); exact rfl; exact rfl) | ((with_reducible apply F.append2); exact rfl; exact rfl; exact rfl; exact rfl; exact rfl; exact rfl; exact rfl; exact rfl)); (focus (simp (disch := first | assumption | omega | (simp only [List.length_cons, List.length_nil, List.length_append, List.length_take, List.length_drop]; omega)) only [LS, frzCells, frz, markCells, mark, elems, arrAt, cut, allP, asP, appendV, V.cells, Pv.cells, roomy, Int.toNat_zero, Int.reduceToNat, *, hl, List.length_map] <;> rfl)); (focus (simp (disch := first | assumption | omega | (simp only [List.length_cons, List.length_nil, List.length_append, List.length_take, List.length_drop]; omega)) only [LS, frzCells, frz, markCells, mark, elems, arrAt, cut, allP, asP, appendV, V.cells, Pv.cells, roomy, Int.toNat_zero, Int.reduceToNat, *, hl, List.length_map] <;> rfl)))
      | ((with_reducible apply F.not); exact rfl; exact rfl; exact rfl)
      | ((with_reducible apply F.pickT'); exact rfl; exact rfl; (focus (simp only [decide_true, decide_false, *, hl, List.length_map]; done)); exact rfl)
      | ((with_reducible apply F.pickF'); exact rfl; exact rfl; (focus (simp only [decide_true, decide_false, *, hl, List.length_map]; done)); exact rfl)
      | (intro hc; (try rw [hc]); (try simp only [decide_eq_true_eq, decide_eq_false_iff_not, Bool.not_eq_eq_eq_not, Bool.not_true, Bool.not_false] at hc); (try (exfalso; omega)))
      | ((with_reducible apply E.r0); exact rfl; exact rfl)
      | ((first | ((with_reducible apply E.r1); exact rfl; exact rfl; (focus (exact look_of rfl))) | ((with_reducible apply E.rF1); exact rfl; exact rfl; (focus (exact look_of rfl))) | ((with_reducible apply E.rP1); exact rfl; exact rfl; (focus (exact look_of rfl))) | ((with_reducible apply E.r2); exact rfl; exact rfl; (focus (exact look_of rfl)); (focus (exact look_of rfl))) | ((with_reducible apply E.rF2); exact rfl; exact rfl; (focus (exact look_of rfl)); (focus (exact look_of rfl))) | ((with_reducible apply E.rP2); exact rfl; exact rfl; (focus (exact look_of rfl)); (focus (exact look_of rfl))) | ((with_reducible apply E.r3); exact rfl; exact rfl; (focus (exact look_of rfl)); (focus (exact look_of rfl)); (focus (exact look_of rfl))) | ((with_reducible apply E.rF3); exact rfl; exact rfl; (focus (exact look_of rfl)); (focus (exact look_of rfl)); (focus (exact look_of rfl))) | ((with_reducible apply E.rP3); exact rfl; exact rfl; (focus (exact look_of rfl)); (focus (exact look_of rfl)); (focus (exact look_of rfl)))))
      | ((first | ((with_reducible apply E.rc); exact rfl; exact rfl; (focus (exact look_of rfl)); exact rfl) | ((with_reducible apply E.rPc); exact rfl; exact rfl; (focus (exact look_of rfl)); exact rfl)); (focus (simp (disch := first | assumption | omega | (simp only [List.length_cons, List.length_nil, List.length_append, List.length_take, List.length_drop]; omega)) only [LS, storeV, loadV, partV, partP, cut, over, mkAgg, allP, asP, V.cells, Pv.cells, elDiv, elMod, elDiv0, Nat.mul_mod_left, Int.toNat_zero, Int.reduceToNat, *, hl, List.length_map] <;> rfl)))
      | refine R.regs rfl ?_
      | refine R.regsL rfl ?_
      | refine R.regsT rfl ?_
      | exact rfl
end Go.Proofs.YtojpocfnjigmfaaDoor
