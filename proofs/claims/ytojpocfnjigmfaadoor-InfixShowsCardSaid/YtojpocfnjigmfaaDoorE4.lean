import Derived.Test.YtojpocfnjigmfaaDoorE3
set_option maxRecDepth 10000
set_option linter.unusedSimpArgs false
set_option linter.unusedVariables false
namespace Go.Proofs.YtojpocfnjigmfaaDoor
open Go Go.AX
noncomputable def fi60 : FnI := { body := (Tryd.f60.body).getD .skip, ntmps := 32, results := Tryd.f60.results.toList, hints := [] }
theorem cxF60 : cx.F 60 = some fi60 := by kernel_rfl
noncomputable def fi30 : FnI := { body := (Tryd.f30.body).getD .skip, ntmps := 177, results := Tryd.f30.results.toList, hints := [] }
theorem cxF30 : cx.F 30 = some fi30 := by kernel_rfl
noncomputable def fi62 : FnI := { body := (Tryd.f62.body).getD .skip, ntmps := 19, results := Tryd.f62.results.toList, hints := [] }
theorem cxF62 : cx.F 62 = some fi62 := by kernel_rfl
noncomputable def fi31 : FnI := { body := (Tryd.f31.body).getD .skip, ntmps := 46, results := Tryd.f31.results.toList, hints := [(2, { live := some [0, 2, 3, 4] }), (4, { live := some [0, 2, 3, 4], trunc := some 1 }), (6, { ops := [(3, 2), (11, 2)] }), (7, { ops := [(7, 3), (11, 4)] })] }
theorem cxF31 : cx.F 31 = some fi31 := by kernel_rfl
/-- An expression as a tree. -/
inductive T where
  | leaf (i : Ins)
  | un (i : Ins) (a : T)
  | bin (i : Ins) (a b : T)
  | tri (i : Ins) (a b c : T)
def T.ins : T → Ins
  | .leaf i | .un i _ | .bin i _ _ | .tri i _ _ _ => i
def node (i : Ins) (kids : List Pv) : Pv := .agg [.int .i64 i.op, .int .i64 i.n, .sl 3 kids.isEmpty kids]
def T.pv : T → Pv
  | .leaf i => node i []
  | .un i a => node i [a.pv]
  | .bin i a b => node i [a.pv, b.pv]
  | .tri i a b c => node i [a.pv, b.pv, c.pv]
def rankF (op n : Int) : Int := if op = 15 then 1 else if op = 14 then 2 else if op = 11 ∨ op = 12 ∨ op = 13 then 3 else if op = 6 ∨ op = 7 then 4 else if op = 8 then 5 else if op = 4 ∨ op = 5 then 6 else if op = 1 ∧ n < 0 then 6 else 7
def T.rank (t : T) : Int := rankF t.ins.op t.ins.n
def leftF (k : Int) : Int := if k = 3 then 4 else k
def plainF (vars : List (List UInt8)) : T → List UInt8
  | .leaf i => if i.op = 1 then (if i.n < 0 then 45 :: dec (-i.n).toNat else dec i.n.toNat) else if i.op = 2 then vars.getD i.n.toNat [] else 36 :: dec i.n.toNat
  | .un i a => if i.op = 4 then (if a.ins.op = 1 ∧ a.ins.n ≥ 0 then [45, 40] ++ plainF vars a ++ [41] else 45 :: heldF (plainF vars a) a.rank 6) else 33 :: heldF (plainF vars a) a.rank 6
  | .bin i a b => if i.op = 9 then [109, 105, 110, 40] ++ plainF vars a ++ [44, 32] ++ plainF vars b ++ [41] else if i.op = 10 then [109, 97, 120, 40] ++ plainF vars a ++ [44, 32] ++ plainF vars b ++ [41]
    else heldF (plainF vars a) a.rank (leftF (rankF i.op i.n)) ++ [32] ++ sgnOf i.op.toNat ++ [32] ++ heldF (plainF vars b) b.rank (rankF i.op i.n + 1)
  | .tri _ a b c => [105, 102, 40] ++ plainF vars a ++ [44, 32] ++ plainF vars b ++ [44, 32] ++ plainF vars c ++ [41]
def okT (vars : List (List UInt8)) : T → Prop
  | .leaf i => (i.op = 1 ∧ -1099511627776 ≤ i.n ∧ i.n ≤ 1099511627776) ∨ (i.op = 2 ∧ 0 ≤ i.n ∧ i.n < vars.length) ∨ (i.op = 3 ∧ 0 ≤ i.n ∧ i.n < 9223372036854775808)
  | .un i a => (i.op = 4 ∨ i.op = 5) ∧ okT vars a
  | .bin i a b => 6 ≤ i.op ∧ i.op ≤ 15 ∧ okT vars a ∧ okT vars b
  | .tri i a b c => i.op = 16 ∧ okT vars a ∧ okT vars b ∧ okT vars c
def wt : T → Nat
  | .leaf _ => 100
  | .un _ a => wt a + 20
  | .bin _ a b => wt a + wt b + 20
  | .tri _ a b c => wt a + wt b + wt c + 20
theorem held_len (s : List UInt8) (k q : Int) : (heldF s k q).length ≤ s.length + 2 := by
  unfold heldF
  split
  · simp only [List.length_cons, List.length_append, List.length_nil]; omega
  · omega
theorem sgn_len : ∀ (op : Nat), op ≤ 15 → (sgnOf op).length ≤ 2 := by decide
theorem dec_14 {n : Nat} (h : n ≤ 1099511627776) : (dec n).length ≤ 14 := dec_short 13 n (by omega)
theorem plain_len {vars : List (List UInt8)} (hv : ∀ v ∈ vars, v.length ≤ 100) : ∀ (t : T), okT vars t → (plainF vars t).length ≤ wt t
  | .leaf i, h => by
    simp only [okT] at h
    simp only [plainF, wt]
    split
    · split
      · have := dec_14 (n := (-i.n).toNat) (by omega); simp only [List.length_cons]; omega
      · have := dec_14 (n := (i.n).toNat) (by omega); omega
    · split
      · rename_i h2
        have : i.n.toNat < vars.length := by omega
        rw [List.getD_eq_getElem?_getD, List.getElem?_eq_getElem this, Option.getD_some]
        exact hv _ (List.getElem_mem this)
      · have := dec_20 (n := (i.n).toNat) (by omega); simp only [List.length_cons]; omega
  | .un i a, h => by
    have := plain_len hv a h.2
    have := held_len (plainF vars a) a.rank 6
    simp only [plainF, wt]
    (repeat' split) <;> simp only [List.length_cons, List.length_append, List.length_nil] <;> omega
  | .bin i a b, h => by
    have := plain_len hv a h.2.2.1
    have := plain_len hv b h.2.2.2
    have := held_len (plainF vars a) a.rank (leftF (rankF i.op i.n))
    have := held_len (plainF vars b) b.rank (rankF i.op i.n + 1)
    have := sgn_len i.op.toNat (by have := h.2.1; omega)
    simp only [plainF, wt]
    (repeat' split) <;> simp only [List.length_cons, List.length_append, List.length_nil] <;> omega
  | .tri i a b c, h => by
    have := plain_len hv a h.2.1
    have := plain_len hv b h.2.2.1
    have := plain_len hv c h.2.2.2
    simp only [plainF, wt, List.length_cons, List.length_append, List.length_nil]; omega
theorem rank_run (op n : Int) (k : Pv) (hk : ∀ l, k ≠ .agg l) : PV cx 60 [.p (.agg [.int .i64 op, .int .i64 n, k])] (.int .i64 (rankF op n)) := by
  refine PV.run cxF60 rfl ?_
  simp only [args0, Nat.zero_add, Nat.reduceAdd]
  repeat' first
    | with_reducible apply M.free
    | with_reducible apply M.done
    | ((with_reducible apply F.move); exact rfl; exact rfl)
    | ((with_reducible apply F.load); exact rfl; exact rfl; exact rfl)
    | ((with_reducible apply F.cmp); exact rfl; exact rfl; exact rfl; exact rfl)
    | ((with_reducible apply F.assign); exact rfl; exact rfl)
    | ((with_reducible apply F.fieldAddr); exact rfl; exact rfl; exact rfl)
    | ((with_reducible apply F.len); exact rfl; exact rfl; exact rfl; exact rfl)
    | ((with_reducible apply F.nilCheck); exact rfl; exact rfl; exact rfl)
    | ((with_reducible apply F.extract); exact rfl; exact rfl; exact rfl)
    | ((with_reducible apply F.pickT); exact rfl; exact rfl; exact rfl)
    | ((with_reducible apply F.pickF); exact rfl; exact rfl; exact rfl)
    | ((with_reducible apply F.cmpS); exact rfl; exact rfl; exact rfl; exact rfl)
    | ((first | ((with_reducible apply F.add); exact rfl; exact rfl; exact rfl) | ((with_reducible apply F.sub); exact rfl; exact rfl; exact rfl) | ((with_reducible apply F.adds); exact rfl; exact rfl; exact rfl) | ((with_reducible apply F.neg); exact rfl; exact rfl)); (focus (first | omega | (simp only [List.length_cons, List.length_nil, List.length_append, List.length_take, List.length_drop]; omega))))
    | ((with_reducible apply R.regs); exact rfl)
    | ((with_reducible apply R.regsL); exact rfl)
    | ((with_reducible apply R.regsT); exact rfl)
    | ((with_reducible apply Cut.of); (focus (repeat' (first | exact Kp.nil | (apply Kp.cons; exact rfl)))); (focus ((try simp only [List.take_succ_cons, List.take_zero, List.take_nil, Nat.zero_add, Nat.reduceAdd]) <;> rfl)); (focus (first | exact rfl | (simp [cutOk, lowOb, lowV, lowCell, low_map]; done))))
    | ((with_reducible apply Lv.of); (focus (repeat' (first | exact Kp.nil | (apply Kp.cons; exact rfl)))))
    | ((first | (with_reducible apply R.cond) | ((with_reducible apply M.guard); exact rfl)); (focus (first | (refine Eq.trans (look_of rfl) ?_; first | (simp only [decide_true, decide_false, Bool.not_true, Bool.not_false, *] <;> rfl) | exact rfl) | exact look_of rfl)))
    | refine imp_yes rfl ?_
    | exact imp_no rfl
    | with_reducible apply R.seq
    | ((with_reducible apply R.region); exact rfl)
    | ((with_reducible apply R.regionL); exact rfl)
    | ((with_reducible apply R.regionT); exact rfl)
    | with_reducible apply E.seqN
    | with_reducible apply E.seqX
    | with_reducible apply E.seqR
    | with_reducible apply E.blkN
    | with_reducible apply E.blkR
    | ((with_reducible apply E.blkX); exact rfl)
    | ((with_reducible apply E.blkO); exact rfl)
    | with_reducible apply R.skip
    | with_reducible apply R.ret
    | with_reducible apply R.block
    | with_reducible apply R.exit
    | ((first | ((with_reducible apply F.store); exact rfl; exact rfl; exact rfl; exact rfl) | ((with_reducible apply F.loadS); exact rfl; exact rfl; exact rfl) | ((with_reducible apply F.load2); exact rfl; exact rfl; exact rfl)); (focus (simp (disch := first | assumption | omega | (simp only [List.length_cons, List.length_nil, List.length_append, List.length_take, List.length_drop]; omega)) only [LS, storeV, loadV, partV, partP, cut, over, mkAgg, allP, asP, V.cells, Pv.cells, elDiv, elMod, elDiv0, Nat.mul_mod_left, Int.toNat_zero, Int.reduceToNat, *] <;> rfl)))
    | ((first | ((with_reducible apply F.alloc); exact rfl; exact rfl)); (focus (simp only [LS] <;> rfl)); (focus (simp only [LS] <;> rfl)))
    | ((first | ((with_reducible apply F.box); exact rfl; exact rfl; exact rfl)); (focus (simp (disch := first | assumption | omega | (simp only [List.length_cons, List.length_nil, List.length_append, List.length_take, List.length_drop]; omega)) only [LS, storeV, loadV, partV, partP, cut, over, mkAgg, allP, asP, V.cells, Pv.cells, elDiv, elMod, elDiv0, Nat.mul_mod_left, Int.toNat_zero, Int.reduceToNat, *] <;> rfl)); exact rfl; (focus (simp only [LS] <;> rfl)); (focus (simp only [LS] <;> rfl)))
    | ((first | ((with_reducible apply F.build); exact rfl; exact rfl; (focus (repeat' (first | exact Prs.nil | (apply Prs.cons; exact rfl))))) | ((with_reducible apply F.buildSlice); exact rfl; exact rfl; (focus (repeat' (first | exact Prs.nil | (apply Prs.cons; exact rfl))))) | ((with_reducible apply F.append); exact rfl; exact rfl; exact rfl; exact rfl; exact rfl; exact rfl; exact rfl; exact rfl) | ((with_reducible apply F.append3); exact rfl; exact rfl; exact rfl; exact rfl; exact rfl; exact rfl; exact rfl; exact rfl)); (focus (simp (disch := first | assumption | omega | (simp only [List.length_cons, List.length_nil, List.length_append, List.length_take, List.length_drop]; omega)) only [LS, buildV, fillV, over, buildSliceV, elemsOf, appendV, elems, arrAt, cut, roomy, mkAgg, allP, asP, V.cells, Pv.cells, Int.toNat_zero, Int.reduceToNat, *] <;> rfl)))
    | ((first | ((with_reducible apply F.indexAddr); exact rfl; exact rfl; exact rfl; exact rfl) | ((with_reducible apply F.len); exact rfl; exact rfl; exact rfl)); (focus (simp (disch := first | assumption | omega | (simp only [List.length_cons, List.length_nil, List.length_append, List.length_take, List.length_drop]; omega)) only [LS, lenV_L, idx_L, below_at, Int.toNat_zero, Int.reduceToNat, *] <;> rfl)))
    | ((first | ((with_reducible apply F.indexAddr); exact rfl; exact rfl; exact rfl; exact rfl) | ((with_reducible apply F.index); exact rfl; exact rfl; exact rfl; exact rfl) | ((with_reducible apply F.convert); exact rfl; exact rfl; exact rfl; exact rfl) | ((with_reducible apply F.slice); exact rfl; exact rfl; exact rfl; exact rfl; exact rfl; exact rfl) | ((with_reducible apply F.makeFunc); exact rfl; (focus (repeat' (first | exact Evs.nil | (apply Evs.cons; exact rfl)))); (focus (repeat' (first | exact Evs.nil | (apply Evs.cons; exact rfl))))) | ((with_reducible apply F.field); exact rfl; exact rfl; exact rfl) | ((with_reducible apply F.fieldAddrS); exact rfl; exact rfl; exact rfl) | ((with_reducible apply F.bin); exact rfl; exact rfl; exact rfl; exact rfl)); (focus (simp (disch := first | assumption | omega | (simp only [List.length_cons, List.length_nil, List.length_append, List.length_take, List.length_drop]; omega)) only [LS, indexAddrV, indexV, below_at, fieldV, fieldAddrV, convP, bytesOf, sliceV, bounds, bMax, bHi, bLo, upTo_at, makeFuncV, partV, partP, cut, binI, binS, binV, binP, arith, strOp_add, strOp_eql, strOp_neq, eqn, wrap64, wrap8, mkAgg, allP, asP, Option.getD_none, Int.toNat_zero, Int.reduceToNat, *] <;> rfl)))
    | ((first | ((with_reducible apply F.assignF); exact rfl; exact rfl) | ((with_reducible apply F.append2); exact rfl; exact rfl; exact rfl; exact rfl; exact rfl; exact rfl; exact rfl; exact rfl)); (focus (simp (disch := first | assumption | omega | (simp only [List.length_cons, List.length_nil, List.length_append, List.length_take, List.length_drop]; omega)) only [LS, frzCells, frz, markCells, mark, elems, arrAt, cut, allP, asP, appendV, V.cells, Pv.cells, roomy, Int.toNat_zero, Int.reduceToNat, *] <;> rfl)); (focus (simp (disch := first | assumption | omega | (simp only [List.length_cons, List.length_nil, List.length_append, List.length_take, List.length_drop]; omega)) only [LS, frzCells, frz, markCells, mark, elems, arrAt, cut, allP, asP, appendV, V.cells, Pv.cells, roomy, Int.toNat_zero, Int.reduceToNat, *] <;> rfl)))
    | ((with_reducible apply F.not); exact rfl; exact rfl; exact rfl)
    | ((with_reducible apply F.pickT'); exact rfl; exact rfl; (focus (simp only [decide_true, decide_false, *]; done)); exact rfl)
    | ((with_reducible apply F.pickF'); exact rfl; exact rfl; (focus (simp only [decide_true, decide_false, *]; done)); exact rfl)
    | (intro hc; (try rw [hc]); (try simp only [decide_eq_true_eq, decide_eq_false_iff_not, Bool.not_eq_eq_eq_not, Bool.not_true, Bool.not_false] at hc); (try (exfalso; omega)))
    | ((with_reducible apply E.r0); exact rfl; exact rfl)
    | ((first | ((with_reducible apply E.r1); exact rfl; exact rfl; (focus (exact look_of rfl))) | ((with_reducible apply E.rF1); exact rfl; exact rfl; (focus (exact look_of rfl))) | ((with_reducible apply E.rP1); exact rfl; exact rfl; (focus (exact look_of rfl))) | ((with_reducible apply E.r2); exact rfl; exact rfl; (focus (exact look_of rfl)); (focus (exact look_of rfl))) | ((with_reducible apply E.rF2); exact rfl; exact rfl; (focus (exact look_of rfl)); (focus (exact look_of rfl))) | ((with_reducible apply E.rP2); exact rfl; exact rfl; (focus (exact look_of rfl)); (focus (exact look_of rfl))) | ((with_reducible apply E.r3); exact rfl; exact rfl; (focus (exact look_of rfl)); (focus (exact look_of rfl)); (focus (exact look_of rfl))) | ((with_reducible apply E.rF3); exact rfl; exact rfl; (focus (exact look_of rfl)); (focus (exact look_of rfl)); (focus (exact look_of rfl))) | ((with_reducible apply E.rP3); exact rfl; exact rfl; (focus (exact look_of rfl)); (focus (exact look_of rfl)); (focus (exact look_of rfl)))))
    | ((first | ((with_reducible apply E.rc); exact rfl; exact rfl; (focus (exact look_of rfl)); exact rfl) | ((with_reducible apply E.rPc); exact rfl; exact rfl; (focus (exact look_of rfl)); exact rfl)); (focus (simp (disch := first | assumption | omega | (simp only [List.length_cons, List.length_nil, List.length_append, List.length_take, List.length_drop]; omega)) only [LS, storeV, loadV, partV, partP, cut, over, mkAgg, allP, asP, V.cells, Pv.cells, elDiv, elMod, elDiv0, Nat.mul_mod_left, Int.toNat_zero, Int.reduceToNat, *] <;> rfl)))
    | refine R.regs rfl ?_
    | refine R.regsL rfl ?_
    | refine R.regsT rfl ?_
    | exact rfl
  all_goals first | rfl | (congr 1; (try simp only [rankF]); (try simp only [beq_iff_eq, beq_eq_false_iff_ne, ne_eq] at *); (repeat' split) <;> first | rfl | omega | (simp_all; done) | (exfalso; simp_all; done) | (simp_all; omega) | (exfalso; simp_all; omega) | trace_state)
theorem T.rank_run (t : T) : PV cx 60 [.p t.pv] (.int .i64 t.rank) := by
  cases t <;> exact _root_.Go.Proofs.YtojpocfnjigmfaaDoor.rank_run _ _ _ (fun l h => by cases h)
theorem shown_run {x : Pv} {vars : List (List UInt8)} (t : T) (hp : PV cx 30 [.p t.pv, .p x] (.str (plainF vars t))) (hl : (plainF vars t).length ≤ 1000000) (q : Int) : PV cx 62 [.p t.pv, .p (.int .i64 q), .p x] (.str (heldF (plainF vars t) t.rank q)) := by
  refine PV.run cxF62 rfl ?_
  obtain ⟨i, l, e⟩ : ∃ (i : Ins) (l : Pv), t.pv = .agg [.int .i64 i.op, .int .i64 i.n, l] := by cases t <;> exact ⟨_, _, rfl⟩
  have hr := (T.rank_run t).fv
  rw [e] at hp hr ⊢
  have hp := hp.fv
  simp only [args0, Nat.zero_add, Nat.reduceAdd]
  repeat' first
    | with_reducible apply M.free
    | with_reducible apply M.done
    | ((with_reducible apply F.move); exact rfl; exact rfl)
    | ((with_reducible apply F.load); exact rfl; exact rfl; exact rfl)
    | ((with_reducible apply F.cmp); exact rfl; exact rfl; exact rfl; exact rfl)
    | ((with_reducible apply F.assign); exact rfl; exact rfl)
    | ((with_reducible apply F.fieldAddr); exact rfl; exact rfl; exact rfl)
    | ((with_reducible apply F.len); exact rfl; exact rfl; exact rfl; exact rfl)
    | ((with_reducible apply F.nilCheck); exact rfl; exact rfl; exact rfl)
    | ((with_reducible apply F.extract); exact rfl; exact rfl; exact rfl)
    | ((with_reducible apply F.pickT); exact rfl; exact rfl; exact rfl)
    | ((with_reducible apply F.pickF); exact rfl; exact rfl; exact rfl)
    | ((with_reducible apply F.cmpS); exact rfl; exact rfl; exact rfl; exact rfl)
    | ((first | ((with_reducible apply F.add); exact rfl; exact rfl; exact rfl) | ((with_reducible apply F.sub); exact rfl; exact rfl; exact rfl) | ((with_reducible apply F.adds); exact rfl; exact rfl; exact rfl) | ((with_reducible apply F.neg); exact rfl; exact rfl)); (focus (first | omega | (simp only [List.length_cons, List.length_nil, List.length_append, List.length_take, List.length_drop]; omega))))
    | ((with_reducible apply R.regs); exact rfl)
    | ((with_reducible apply R.regsL); exact rfl)
    | ((with_reducible apply R.regsT); exact rfl)
    | ((with_reducible apply Cut.of); (focus (repeat' (first | exact Kp.nil | (apply Kp.cons; exact rfl)))); (focus ((try simp only [List.take_succ_cons, List.take_zero, List.take_nil, Nat.zero_add, Nat.reduceAdd]) <;> rfl)); (focus (first | exact rfl | (simp [cutOk, lowOb, lowV, lowCell, low_map]; done))))
    | ((with_reducible apply Lv.of); (focus (repeat' (first | exact Kp.nil | (apply Kp.cons; exact rfl)))))
    | ((with_reducible apply F.call0); exact rfl; exact rfl; (focus (repeat' (first | exact Evs.nil | (apply Evs.cons; exact rfl)))); exact rfl; (focus (first | exact hp | exact hr)))
    | ((first | (with_reducible apply R.cond) | ((with_reducible apply M.guard); exact rfl)); (focus (first | (refine Eq.trans (look_of rfl) ?_; first | (simp only [decide_true, decide_false, Bool.not_true, Bool.not_false, *] <;> rfl) | exact rfl) | exact look_of rfl)))
    | refine imp_yes rfl ?_
    | exact imp_no rfl
    | with_reducible apply R.seq
    | ((with_reducible apply R.region); exact rfl)
    | ((with_reducible apply R.regionL); exact rfl)
    | ((with_reducible apply R.regionT); exact rfl)
    | with_reducible apply E.seqN
    | with_reducible apply E.seqX
    | with_reducible apply E.seqR
    | with_reducible apply E.blkN
    | with_reducible apply E.blkR
    | ((with_reducible apply E.blkX); exact rfl)
    | ((with_reducible apply E.blkO); exact rfl)
    | with_reducible apply R.skip
    | with_reducible apply R.ret
    | with_reducible apply R.block
    | with_reducible apply R.exit
    | ((first | ((with_reducible apply F.store); exact rfl; exact rfl; exact rfl; exact rfl) | ((with_reducible apply F.loadS); exact rfl; exact rfl; exact rfl) | ((with_reducible apply F.load2); exact rfl; exact rfl; exact rfl)); (focus (simp (disch := first | assumption | omega | (simp only [List.length_cons, List.length_nil, List.length_append, List.length_take, List.length_drop]; omega)) only [LS, storeV, loadV, partV, partP, cut, over, mkAgg, allP, asP, V.cells, Pv.cells, elDiv, elMod, elDiv0, Nat.mul_mod_left, Int.toNat_zero, Int.reduceToNat, *] <;> rfl)))
    | ((first | ((with_reducible apply F.alloc); exact rfl; exact rfl)); (focus (simp only [LS] <;> rfl)); (focus (simp only [LS] <;> rfl)))
    | ((first | ((with_reducible apply F.box); exact rfl; exact rfl; exact rfl)); (focus (simp (disch := first | assumption | omega | (simp only [List.length_cons, List.length_nil, List.length_append, List.length_take, List.length_drop]; omega)) only [LS, storeV, loadV, partV, partP, cut, over, mkAgg, allP, asP, V.cells, Pv.cells, elDiv, elMod, elDiv0, Nat.mul_mod_left, Int.toNat_zero, Int.reduceToNat, *] <;> rfl)); exact rfl; (focus (simp only [LS] <;> rfl)); (focus (simp only [LS] <;> rfl)))
    | ((first | ((with_reducible apply F.build); exact rfl; exact rfl; (focus (repeat' (first | exact Prs.nil | (apply Prs.cons; exact rfl))))) | ((with_reducible apply F.buildSlice); exact rfl; exact rfl; (focus (repeat' (first | exact Prs.nil | (apply Prs.cons; exact rfl))))) | ((with_reducible apply F.append); exact rfl; exact rfl; exact rfl; exact rfl; exact rfl; exact rfl; exact rfl; exact rfl) | ((with_reducible apply F.append3); exact rfl; exact rfl; exact rfl; exact rfl; exact rfl; exact rfl; exact rfl; exact rfl)); (focus (simp (disch := first | assumption | omega | (simp only [List.length_cons, List.length_nil, List.length_append, List.length_take, List.length_drop]; omega)) only [LS, buildV, fillV, over, buildSliceV, elemsOf, appendV, elems, arrAt, cut, roomy, mkAgg, allP, asP, V.cells, Pv.cells, Int.toNat_zero, Int.reduceToNat, *] <;> rfl)))
    | ((first | ((with_reducible apply F.indexAddr); exact rfl; exact rfl; exact rfl; exact rfl) | ((with_reducible apply F.len); exact rfl; exact rfl; exact rfl)); (focus (simp (disch := first | assumption | omega | (simp only [List.length_cons, List.length_nil, List.length_append, List.length_take, List.length_drop]; omega)) only [LS, lenV_L, idx_L, below_at, Int.toNat_zero, Int.reduceToNat, *] <;> rfl)))
    | ((first | ((with_reducible apply F.indexAddr); exact rfl; exact rfl; exact rfl; exact rfl) | ((with_reducible apply F.index); exact rfl; exact rfl; exact rfl; exact rfl) | ((with_reducible apply F.convert); exact rfl; exact rfl; exact rfl; exact rfl) | ((with_reducible apply F.slice); exact rfl; exact rfl; exact rfl; exact rfl; exact rfl; exact rfl) | ((with_reducible apply F.makeFunc); exact rfl; (focus (repeat' (first | exact Evs.nil | (apply Evs.cons; exact rfl)))); (focus (repeat' (first | exact Evs.nil | (apply Evs.cons; exact rfl))))) | ((with_reducible apply F.field); exact rfl; exact rfl; exact rfl) | ((with_reducible apply F.fieldAddrS); exact rfl; exact rfl; exact rfl) | ((with_reducible apply F.bin); exact rfl; exact rfl; exact rfl; exact rfl)); (focus (simp (disch := first | assumption | omega | (simp only [List.length_cons, List.length_nil, List.length_append, List.length_take, List.length_drop]; omega)) only [LS, indexAddrV, indexV, below_at, fieldV, fieldAddrV, convP, bytesOf, sliceV, bounds, bMax, bHi, bLo, upTo_at, makeFuncV, partV, partP, cut, binI, binS, binV, binP, arith, strOp_add, strOp_eql, strOp_neq, eqn, wrap64, wrap8, mkAgg, allP, asP, Option.getD_none, Int.toNat_zero, Int.reduceToNat, *] <;> rfl)))
    | ((first | ((with_reducible apply F.assignF); exact rfl; exact rfl) | ((with_reducible apply F.append2); exact rfl; exact rfl; exact rfl; exact rfl; exact rfl; exact rfl; exact rfl; exact rfl)); (focus (simp (disch := first | assumption | omega | (simp only [List.length_cons, List.length_nil, List.length_append, List.length_take, List.length_drop]; omega)) only [LS, frzCells, frz, markCells, mark, elems, arrAt, cut, allP, asP, appendV, V.cells, Pv.cells, roomy, Int.toNat_zero, Int.reduceToNat, *] <;> rfl)); (focus (simp (disch := first | assumption | omega | (simp only [List.length_cons, List.length_nil, List.length_append, List.length_take, List.length_drop]; omega)) only [LS, frzCells, frz, markCells, mark, elems, arrAt, cut, allP, asP, appendV, V.cells, Pv.cells, roomy, Int.toNat_zero, Int.reduceToNat, *] <;> rfl)))
    | ((with_reducible apply F.not); exact rfl; exact rfl; exact rfl)
    | ((with_reducible apply F.pickT'); exact rfl; exact rfl; (focus (simp only [decide_true, decide_false, *]; done)); exact rfl)
    | ((with_reducible apply F.pickF'); exact rfl; exact rfl; (focus (simp only [decide_true, decide_false, *]; done)); exact rfl)
    | (intro hc; (try rw [hc]); (try simp only [decide_eq_true_eq, decide_eq_false_iff_not, Bool.not_eq_eq_eq_not, Bool.not_true, Bool.not_false] at hc); (try (exfalso; omega)))
    | ((with_reducible apply E.r0); exact rfl; exact rfl)
    | ((first | ((with_reducible apply E.r1); exact rfl; exact rfl; (focus (exact look_of rfl))) | ((with_reducible apply E.rF1); exact rfl; exact rfl; (focus (exact look_of rfl))) | ((with_reducible apply E.rP1); exact rfl; exact rfl; (focus (exact look_of rfl))) | ((with_reducible apply E.r2); exact rfl; exact rfl; (focus (exact look_of rfl)); (focus (exact look_of rfl))) | ((with_reducible apply E.rF2); exact rfl; exact rfl; (focus (exact look_of rfl)); (focus (exact look_of rfl))) | ((with_reducible apply E.rP2); exact rfl; exact rfl; (focus (exact look_of rfl)); (focus (exact look_of rfl))) | ((with_reducible apply E.r3); exact rfl; exact rfl; (focus (exact look_of rfl)); (focus (exact look_of rfl)); (focus (exact look_of rfl))) | ((with_reducible apply E.rF3); exact rfl; exact rfl; (focus (exact look_of rfl)); (focus (exact look_of rfl)); (focus (exact look_of rfl))) | ((with_reducible apply E.rP3); exact rfl; exact rfl; (focus (exact look_of rfl)); (focus (exact look_of rfl)); (focus (exact look_of rfl)))))
    | ((first | ((with_reducible apply E.rc); exact rfl; exact rfl; (focus (exact look_of rfl)); exact rfl) | ((with_reducible apply E.rPc); exact rfl; exact rfl; (focus (exact look_of rfl)); exact rfl)); (focus (simp (disch := first | assumption | omega | (simp only [List.length_cons, List.length_nil, List.length_append, List.length_take, List.length_drop]; omega)) only [LS, storeV, loadV, partV, partP, cut, over, mkAgg, allP, asP, V.cells, Pv.cells, elDiv, elMod, elDiv0, Nat.mul_mod_left, Int.toNat_zero, Int.reduceToNat, *] <;> rfl)))
    | refine R.regs rfl ?_
    | refine R.regsL rfl ?_
    | refine R.regsT rfl ?_
    | exact rfl
  all_goals (simp only [heldF]; first | (rw [if_pos ‹_›]; rfl) | rw [if_neg ‹_›])
theorem node_pv (t : T) : ∃ (l : List Pv), t.pv = .agg [.int .i64 t.ins.op, .int .i64 t.ins.n, .sl 3 l.isEmpty l] := by cases t <;> exact ⟨_, rfl⟩
theorem plain_leaf {x : Pv} {vars : List (List UInt8)} (hx : IsL 1 x) (hl : elemsP x = vars.map .str) (hv : ∀ v ∈ vars, v.length ≤ 100) (i : Ins) (hok : okT vars (.leaf i)) : PV cx 30 [.p (T.leaf i).pv, .p x] (.str (plainF vars (.leaf i))) := by
  refine PV.run cxF30 rfl ?_
  obtain ⟨op, n⟩ := i
  have hr := (T.rank_run (.leaf ⟨op, n⟩)).fv
  simp only [okT] at hok
  simp only [T.pv, node, List.isEmpty_nil] at hr ⊢
  simp only [args0, Nat.zero_add, Nat.reduceAdd]
  rcases hok with ⟨rfl, h1, h2⟩ | ⟨rfl, h1, h2⟩ | ⟨rfl, h1, h2⟩
  · by_cases h0 : n < 0
    · have e : (0 : Int) - n = ((-n).toNat : Int) := by omega
      have hd := (Digits_run (-n).toNat (by omega)).fv
      have hlen := dec_14 (n := (-n).toNat) (by omega)
      rw [← e] at hd
      clear e
      have hs : plainF vars (.leaf ⟨1, n⟩) = 45 :: dec (-n).toNat := by simp only [plainF]; rw [if_pos trivial, if_pos h0]
      rw [hs]
      generalize dec (-n).toNat = s at *
      repeat' first
        | with_reducible apply M.free
        | with_reducible apply M.done
        | ((with_reducible apply F.move); exact rfl; exact rfl)
        | ((with_reducible apply F.load); exact rfl; exact rfl; exact rfl)
        | ((with_reducible apply F.cmp); exact rfl; exact rfl; exact rfl; exact rfl)
        | ((with_reducible apply F.assign); exact rfl; exact rfl)
        | ((with_reducible apply F.fieldAddr); exact rfl; exact rfl; exact rfl)
        | ((with_reducible apply F.len); exact rfl; exact rfl; exact rfl; exact rfl)
        | ((with_reducible apply F.nilCheck); exact rfl; exact rfl; exact rfl)
        | ((with_reducible apply F.extract); exact rfl; exact rfl; exact rfl)
        | ((with_reducible apply F.pickT); exact rfl; exact rfl; exact rfl)
        | ((with_reducible apply F.pickF); exact rfl; exact rfl; exact rfl)
        | ((with_reducible apply F.cmpS); exact rfl; exact rfl; exact rfl; exact rfl)
        | ((first | ((with_reducible apply F.add); exact rfl; exact rfl; exact rfl) | ((with_reducible apply F.sub); exact rfl; exact rfl; exact rfl) | ((with_reducible apply F.adds); exact rfl; exact rfl; exact rfl) | ((with_reducible apply F.neg); exact rfl; exact rfl)); (focus (first | omega | (simp only [List.length_cons, List.length_nil, List.length_append, List.length_take, List.length_drop]; omega))))
        | ((with_reducible apply R.regs); exact rfl)
        | ((with_reducible apply R.regsL); exact rfl)
        | ((with_reducible apply R.regsT); exact rfl)
        | ((with_reducible apply Cut.of); (focus (repeat' (first | exact Kp.nil | (apply Kp.cons; exact rfl)))); (focus ((try simp only [List.take_succ_cons, List.take_zero, List.take_nil, Nat.zero_add, Nat.reduceAdd]) <;> rfl)); (focus (first | exact rfl | (simp [cutOk, lowOb, lowV, lowCell, low_map]; done))))
        | ((with_reducible apply Lv.of); (focus (repeat' (first | exact Kp.nil | (apply Kp.cons; exact rfl)))))
        | ((with_reducible apply F.call0); exact rfl; exact rfl; (focus (repeat' (first | exact Evs.nil | (apply Evs.cons; exact rfl)))); exact rfl; (focus (first | exact hr | exact hd)))
        | ((first | (with_reducible apply R.cond) | ((with_reducible apply M.guard); exact rfl)); (focus (first | (refine Eq.trans (look_of rfl) ?_; first | (simp only [decide_true, decide_false, Bool.not_true, Bool.not_false, *] <;> rfl) | exact rfl) | exact look_of rfl)))
        | refine imp_yes rfl ?_
        | exact imp_no rfl
        | with_reducible apply R.seq
        | ((with_reducible apply R.region); exact rfl)
        | ((with_reducible apply R.regionL); exact rfl)
        | ((with_reducible apply R.regionT); exact rfl)
        | with_reducible apply E.seqN
        | with_reducible apply E.seqX
        | with_reducible apply E.seqR
        | with_reducible apply E.blkN
        | with_reducible apply E.blkR
        | ((with_reducible apply E.blkX); exact rfl)
        | ((with_reducible apply E.blkO); exact rfl)
        | with_reducible apply R.skip
        | with_reducible apply R.ret
        | with_reducible apply R.block
        | with_reducible apply R.exit
        | ((first | ((with_reducible apply F.store); exact rfl; exact rfl; exact rfl; exact rfl) | ((with_reducible apply F.loadS); exact rfl; exact rfl; exact rfl) | ((with_reducible apply F.load2); exact rfl; exact rfl; exact rfl)); (focus (simp (disch := first | assumption | omega | (simp only [List.length_cons, List.length_nil, List.length_append, List.length_take, List.length_drop]; omega)) only [LS, storeV, loadV, partV, partP, cut, over, mkAgg, allP, asP, V.cells, Pv.cells, elDiv, elMod, elDiv0, Nat.mul_mod_left, Int.toNat_zero, Int.reduceToNat, *] <;> rfl)))
        | ((first | ((with_reducible apply F.alloc); exact rfl; exact rfl)); (focus (simp only [LS] <;> rfl)); (focus (simp only [LS] <;> rfl)))
        | ((first | ((with_reducible apply F.box); exact rfl; exact rfl; exact rfl)); (focus (simp (disch := first | assumption | omega | (simp only [List.length_cons, List.length_nil, List.length_append, List.length_take, List.length_drop]; omega)) only [LS, storeV, loadV, partV, partP, cut, over, mkAgg, allP, asP, V.cells, Pv.cells, elDiv, elMod, elDiv0, Nat.mul_mod_left, Int.toNat_zero, Int.reduceToNat, *] <;> rfl)); exact rfl; (focus (simp only [LS] <;> rfl)); (focus (simp only [LS] <;> rfl)))
        | ((first | ((with_reducible apply F.build); exact rfl; exact rfl; (focus (repeat' (first | exact Prs.nil | (apply Prs.cons; exact rfl))))) | ((with_reducible apply F.buildSlice); exact rfl; exact rfl; (focus (repeat' (first | exact Prs.nil | (apply Prs.cons; exact rfl))))) | ((with_reducible apply F.append); exact rfl; exact rfl; exact rfl; exact rfl; exact rfl; exact rfl; exact rfl; exact rfl) | ((with_reducible apply F.append3); exact rfl; exact rfl; exact rfl; exact rfl; exact rfl; exact rfl; exact rfl; exact rfl)); (focus (simp (disch := first | assumption | omega | (simp only [List.length_cons, List.length_nil, List.length_append, List.length_take, List.length_drop]; omega)) only [LS, buildV, fillV, over, buildSliceV, elemsOf, appendV, elems, arrAt, cut, roomy, mkAgg, allP, asP, V.cells, Pv.cells, Int.toNat_zero, Int.reduceToNat, *] <;> rfl)))
        | ((first | ((with_reducible apply F.indexAddr); exact rfl; exact rfl; exact rfl; exact rfl) | ((with_reducible apply F.len); exact rfl; exact rfl; exact rfl)); (focus (simp (disch := first | assumption | omega | (simp only [List.length_cons, List.length_nil, List.length_append, List.length_take, List.length_drop]; omega)) only [LS, lenV_L, idx_L, below_at, Int.toNat_zero, Int.reduceToNat, *] <;> rfl)))
        | ((first | ((with_reducible apply F.indexAddr); exact rfl; exact rfl; exact rfl; exact rfl) | ((with_reducible apply F.index); exact rfl; exact rfl; exact rfl; exact rfl) | ((with_reducible apply F.convert); exact rfl; exact rfl; exact rfl; exact rfl) | ((with_reducible apply F.slice); exact rfl; exact rfl; exact rfl; exact rfl; exact rfl; exact rfl) | ((with_reducible apply F.makeFunc); exact rfl; (focus (repeat' (first | exact Evs.nil | (apply Evs.cons; exact rfl)))); (focus (repeat' (first | exact Evs.nil | (apply Evs.cons; exact rfl))))) | ((with_reducible apply F.field); exact rfl; exact rfl; exact rfl) | ((with_reducible apply F.fieldAddrS); exact rfl; exact rfl; exact rfl) | ((with_reducible apply F.bin); exact rfl; exact rfl; exact rfl; exact rfl)); (focus (simp (disch := first | assumption | omega | (simp only [List.length_cons, List.length_nil, List.length_append, List.length_take, List.length_drop]; omega)) only [LS, indexAddrV, indexV, below_at, fieldV, fieldAddrV, convP, bytesOf, sliceV, bounds, bMax, bHi, bLo, upTo_at, makeFuncV, partV, partP, cut, binI, binS, binV, binP, arith, strOp_add, strOp_eql, strOp_neq, eqn, wrap64, wrap8, mkAgg, allP, asP, Option.getD_none, Int.toNat_zero, Int.reduceToNat, *] <;> rfl)))
        | ((first | ((with_reducible apply F.assignF); exact rfl; exact rfl) | ((with_reducible apply F.append2); exact rfl; exact rfl; exact rfl; exact rfl; exact rfl; exact rfl; exact rfl; exact rfl)); (focus (simp (disch := first | assumption | omega | (simp only [List.length_cons, List.length_nil, List.length_append, List.length_take, List.length_drop]; omega)) only [LS, frzCells, frz, markCells, mark, elems, arrAt, cut, allP, asP, appendV, V.cells, Pv.cells, roomy, Int.toNat_zero, Int.reduceToNat, *] <;> rfl)); (focus (simp (disch := first | assumption | omega | (simp only [List.length_cons, List.length_nil, List.length_append, List.length_take, List.length_drop]; omega)) only [LS, frzCells, frz, markCells, mark, elems, arrAt, cut, allP, asP, appendV, V.cells, Pv.cells, roomy, Int.toNat_zero, Int.reduceToNat, *] <;> rfl)))
        | ((with_reducible apply F.not); exact rfl; exact rfl; exact rfl)
        | ((with_reducible apply F.pickT'); exact rfl; exact rfl; (focus (simp only [decide_true, decide_false, *]; done)); exact rfl)
        | ((with_reducible apply F.pickF'); exact rfl; exact rfl; (focus (simp only [decide_true, decide_false, *]; done)); exact rfl)
        | (intro hc; (try rw [hc]); (try simp only [decide_eq_true_eq, decide_eq_false_iff_not, Bool.not_eq_eq_eq_not, Bool.not_true, Bool.not_false] at hc); (try (exfalso; omega)))
        | ((with_reducible apply E.r0); exact rfl; exact rfl)
        | ((first | ((with_reducible apply E.r1); exact rfl; exact rfl; (focus (exact look_of rfl))) | ((with_reducible apply E.rF1); exact rfl; exact rfl; (focus (exact look_of rfl))) | ((with_reducible apply E.rP1); exact rfl; exact rfl; (focus (exact look_of rfl))) | ((with_reducible apply E.r2); exact rfl; exact rfl; (focus (exact look_of rfl)); (focus (exact look_of rfl))) | ((with_reducible apply E.rF2); exact rfl; exact rfl; (focus (exact look_of rfl)); (focus (exact look_of rfl))) | ((with_reducible apply E.rP2); exact rfl; exact rfl; (focus (exact look_of rfl)); (focus (exact look_of rfl))) | ((with_reducible apply E.r3); exact rfl; exact rfl; (focus (exact look_of rfl)); (focus (exact look_of rfl)); (focus (exact look_of rfl))) | ((with_reducible apply E.rF3); exact rfl; exact rfl; (focus (exact look_of rfl)); (focus (exact look_of rfl)); (focus (exact look_of rfl))) | ((with_reducible apply E.rP3); exact rfl; exact rfl; (focus (exact look_of rfl)); (focus (exact look_of rfl)); (focus (exact look_of rfl)))))
        | ((first | ((with_reducible apply E.rc); exact rfl; exact rfl; (focus (exact look_of rfl)); exact rfl) | ((with_reducible apply E.rPc); exact rfl; exact rfl; (focus (exact look_of rfl)); exact rfl)); (focus (simp (disch := first | assumption | omega | (simp only [List.length_cons, List.length_nil, List.length_append, List.length_take, List.length_drop]; omega)) only [LS, storeV, loadV, partV, partP, cut, over, mkAgg, allP, asP, V.cells, Pv.cells, elDiv, elMod, elDiv0, Nat.mul_mod_left, Int.toNat_zero, Int.reduceToNat, *] <;> rfl)))
        | refine R.regs rfl ?_
        | refine R.regsL rfl ?_
        | refine R.regsT rfl ?_
        | exact rfl
    · have e : n = (n.toNat : Int) := by omega
      have hs : plainF vars (.leaf ⟨1, n⟩) = dec n.toNat := by simp only [plainF]; rw [if_pos trivial, if_neg h0]
      rw [hs]
      have hd := (Digits_run n.toNat (by omega)).fv
      rw [← e] at hd
      clear e
      generalize dec n.toNat = s at *
      repeat' first
        | with_reducible apply M.free
        | with_reducible apply M.done
        | ((with_reducible apply F.move); exact rfl; exact rfl)
        | ((with_reducible apply F.load); exact rfl; exact rfl; exact rfl)
        | ((with_reducible apply F.cmp); exact rfl; exact rfl; exact rfl; exact rfl)
        | ((with_reducible apply F.assign); exact rfl; exact rfl)
        | ((with_reducible apply F.fieldAddr); exact rfl; exact rfl; exact rfl)
        | ((with_reducible apply F.len); exact rfl; exact rfl; exact rfl; exact rfl)
        | ((with_reducible apply F.nilCheck); exact rfl; exact rfl; exact rfl)
        | ((with_reducible apply F.extract); exact rfl; exact rfl; exact rfl)
        | ((with_reducible apply F.pickT); exact rfl; exact rfl; exact rfl)
        | ((with_reducible apply F.pickF); exact rfl; exact rfl; exact rfl)
        | ((with_reducible apply F.cmpS); exact rfl; exact rfl; exact rfl; exact rfl)
        | ((first | ((with_reducible apply F.add); exact rfl; exact rfl; exact rfl) | ((with_reducible apply F.sub); exact rfl; exact rfl; exact rfl) | ((with_reducible apply F.adds); exact rfl; exact rfl; exact rfl) | ((with_reducible apply F.neg); exact rfl; exact rfl)); (focus (first | omega | (simp only [List.length_cons, List.length_nil, List.length_append, List.length_take, List.length_drop]; omega))))
        | ((with_reducible apply R.regs); exact rfl)
        | ((with_reducible apply R.regsL); exact rfl)
        | ((with_reducible apply R.regsT); exact rfl)
        | ((with_reducible apply Cut.of); (focus (repeat' (first | exact Kp.nil | (apply Kp.cons; exact rfl)))); (focus ((try simp only [List.take_succ_cons, List.take_zero, List.take_nil, Nat.zero_add, Nat.reduceAdd]) <;> rfl)); (focus (first | exact rfl | (simp [cutOk, lowOb, lowV, lowCell, low_map]; done))))
        | ((with_reducible apply Lv.of); (focus (repeat' (first | exact Kp.nil | (apply Kp.cons; exact rfl)))))
        | ((with_reducible apply F.call0); exact rfl; exact rfl; (focus (repeat' (first | exact Evs.nil | (apply Evs.cons; exact rfl)))); exact rfl; (focus (first | exact hr | exact hd)))
        | ((first | (with_reducible apply R.cond) | ((with_reducible apply M.guard); exact rfl)); (focus (first | (refine Eq.trans (look_of rfl) ?_; first | (simp only [decide_true, decide_false, Bool.not_true, Bool.not_false, *] <;> rfl) | exact rfl) | exact look_of rfl)))
        | refine imp_yes rfl ?_
        | exact imp_no rfl
        | with_reducible apply R.seq
        | ((with_reducible apply R.region); exact rfl)
        | ((with_reducible apply R.regionL); exact rfl)
        | ((with_reducible apply R.regionT); exact rfl)
        | with_reducible apply E.seqN
        | with_reducible apply E.seqX
        | with_reducible apply E.seqR
        | with_reducible apply E.blkN
        | with_reducible apply E.blkR
        | ((with_reducible apply E.blkX); exact rfl)
        | ((with_reducible apply E.blkO); exact rfl)
        | with_reducible apply R.skip
        | with_reducible apply R.ret
        | with_reducible apply R.block
        | with_reducible apply R.exit
        | ((first | ((with_reducible apply F.store); exact rfl; exact rfl; exact rfl; exact rfl) | ((with_reducible apply F.loadS); exact rfl; exact rfl; exact rfl) | ((with_reducible apply F.load2); exact rfl; exact rfl; exact rfl)); (focus (simp (disch := first | assumption | omega | (simp only [List.length_cons, List.length_nil, List.length_append, List.length_take, List.length_drop]; omega)) only [LS, storeV, loadV, partV, partP, cut, over, mkAgg, allP, asP, V.cells, Pv.cells, elDiv, elMod, elDiv0, Nat.mul_mod_left, Int.toNat_zero, Int.reduceToNat, *] <;> rfl)))
        | ((first | ((with_reducible apply F.alloc); exact rfl; exact rfl)); (focus (simp only [LS] <;> rfl)); (focus (simp only [LS] <;> rfl)))
        | ((first | ((with_reducible apply F.box); exact rfl; exact rfl; exact rfl)); (focus (simp (disch := first | assumption | omega | (simp only [List.length_cons, List.length_nil, List.length_append, List.length_take, List.length_drop]; omega)) only [LS, storeV, loadV, partV, partP, cut, over, mkAgg, allP, asP, V.cells, Pv.cells, elDiv, elMod, elDiv0, Nat.mul_mod_left, Int.toNat_zero, Int.reduceToNat, *] <;> rfl)); exact rfl; (focus (simp only [LS] <;> rfl)); (focus (simp only [LS] <;> rfl)))
        | ((first | ((with_reducible apply F.build); exact rfl; exact rfl; (focus (repeat' (first | exact Prs.nil | (apply Prs.cons; exact rfl))))) | ((with_reducible apply F.buildSlice); exact rfl; exact rfl; (focus (repeat' (first | exact Prs.nil | (apply Prs.cons; exact rfl))))) | ((with_reducible apply F.append); exact rfl; exact rfl; exact rfl; exact rfl; exact rfl; exact rfl; exact rfl; exact rfl) | ((with_reducible apply F.append3); exact rfl; exact rfl; exact rfl; exact rfl; exact rfl; exact rfl; exact rfl; exact rfl)); (focus (simp (disch := first | assumption | omega | (simp only [List.length_cons, List.length_nil, List.length_append, List.length_take, List.length_drop]; omega)) only [LS, buildV, fillV, over, buildSliceV, elemsOf, appendV, elems, arrAt, cut, roomy, mkAgg, allP, asP, V.cells, Pv.cells, Int.toNat_zero, Int.reduceToNat, *] <;> rfl)))
        | ((first | ((with_reducible apply F.indexAddr); exact rfl; exact rfl; exact rfl; exact rfl) | ((with_reducible apply F.len); exact rfl; exact rfl; exact rfl)); (focus (simp (disch := first | assumption | omega | (simp only [List.length_cons, List.length_nil, List.length_append, List.length_take, List.length_drop]; omega)) only [LS, lenV_L, idx_L, below_at, Int.toNat_zero, Int.reduceToNat, *] <;> rfl)))
        | ((first | ((with_reducible apply F.indexAddr); exact rfl; exact rfl; exact rfl; exact rfl) | ((with_reducible apply F.index); exact rfl; exact rfl; exact rfl; exact rfl) | ((with_reducible apply F.convert); exact rfl; exact rfl; exact rfl; exact rfl) | ((with_reducible apply F.slice); exact rfl; exact rfl; exact rfl; exact rfl; exact rfl; exact rfl) | ((with_reducible apply F.makeFunc); exact rfl; (focus (repeat' (first | exact Evs.nil | (apply Evs.cons; exact rfl)))); (focus (repeat' (first | exact Evs.nil | (apply Evs.cons; exact rfl))))) | ((with_reducible apply F.field); exact rfl; exact rfl; exact rfl) | ((with_reducible apply F.fieldAddrS); exact rfl; exact rfl; exact rfl) | ((with_reducible apply F.bin); exact rfl; exact rfl; exact rfl; exact rfl)); (focus (simp (disch := first | assumption | omega | (simp only [List.length_cons, List.length_nil, List.length_append, List.length_take, List.length_drop]; omega)) only [LS, indexAddrV, indexV, below_at, fieldV, fieldAddrV, convP, bytesOf, sliceV, bounds, bMax, bHi, bLo, upTo_at, makeFuncV, partV, partP, cut, binI, binS, binV, binP, arith, strOp_add, strOp_eql, strOp_neq, eqn, wrap64, wrap8, mkAgg, allP, asP, Option.getD_none, Int.toNat_zero, Int.reduceToNat, *] <;> rfl)))
        | ((first | ((with_reducible apply F.assignF); exact rfl; exact rfl) | ((with_reducible apply F.append2); exact rfl; exact rfl; exact rfl; exact rfl; exact rfl; exact rfl; exact rfl; exact rfl)); (focus (simp (disch := first | assumption | omega | (simp only [List.length_cons, List.length_nil, List.length_append, List.length_take, List.length_drop]; omega)) only [LS, frzCells, frz, markCells, mark, elems, arrAt, cut, allP, asP, appendV, V.cells, Pv.cells, roomy, Int.toNat_zero, Int.reduceToNat, *] <;> rfl)); (focus (simp (disch := first | assumption | omega | (simp only [List.length_cons, List.length_nil, List.length_append, List.length_take, List.length_drop]; omega)) only [LS, frzCells, frz, markCells, mark, elems, arrAt, cut, allP, asP, appendV, V.cells, Pv.cells, roomy, Int.toNat_zero, Int.reduceToNat, *] <;> rfl)))
        | ((with_reducible apply F.not); exact rfl; exact rfl; exact rfl)
        | ((with_reducible apply F.pickT'); exact rfl; exact rfl; (focus (simp only [decide_true, decide_false, *]; done)); exact rfl)
        | ((with_reducible apply F.pickF'); exact rfl; exact rfl; (focus (simp only [decide_true, decide_false, *]; done)); exact rfl)
        | (intro hc; (try rw [hc]); (try simp only [decide_eq_true_eq, decide_eq_false_iff_not, Bool.not_eq_eq_eq_not, Bool.not_true, Bool.not_false] at hc); (try (exfalso; omega)))
        | ((with_reducible apply E.r0); exact rfl; exact rfl)
        | ((first | ((with_reducible apply E.r1); exact rfl; exact rfl; (focus (exact look_of rfl))) | ((with_reducible apply E.rF1); exact rfl; exact rfl; (focus (exact look_of rfl))) | ((with_reducible apply E.rP1); exact rfl; exact rfl; (focus (exact look_of rfl))) | ((with_reducible apply E.r2); exact rfl; exact rfl; (focus (exact look_of rfl)); (focus (exact look_of rfl))) | ((with_reducible apply E.rF2); exact rfl; exact rfl; (focus (exact look_of rfl)); (focus (exact look_of rfl))) | ((with_reducible apply E.rP2); exact rfl; exact rfl; (focus (exact look_of rfl)); (focus (exact look_of rfl))) | ((with_reducible apply E.r3); exact rfl; exact rfl; (focus (exact look_of rfl)); (focus (exact look_of rfl)); (focus (exact look_of rfl))) | ((with_reducible apply E.rF3); exact rfl; exact rfl; (focus (exact look_of rfl)); (focus (exact look_of rfl)); (focus (exact look_of rfl))) | ((with_reducible apply E.rP3); exact rfl; exact rfl; (focus (exact look_of rfl)); (focus (exact look_of rfl)); (focus (exact look_of rfl)))))
        | ((first | ((with_reducible apply E.rc); exact rfl; exact rfl; (focus (exact look_of rfl)); exact rfl) | ((with_reducible apply E.rPc); exact rfl; exact rfl; (focus (exact look_of rfl)); exact rfl)); (focus (simp (disch := first | assumption | omega | (simp only [List.length_cons, List.length_nil, List.length_append, List.length_take, List.length_drop]; omega)) only [LS, storeV, loadV, partV, partP, cut, over, mkAgg, allP, asP, V.cells, Pv.cells, elDiv, elMod, elDiv0, Nat.mul_mod_left, Int.toNat_zero, Int.reduceToNat, *] <;> rfl)))
        | refine R.regs rfl ?_
        | refine R.regsL rfl ?_
        | refine R.regsT rfl ?_
        | exact rfl
  · obtain ⟨k, rfl⟩ := Int.eq_ofNat_of_zero_le h1
    have hs : plainF vars (.leaf ⟨2, k⟩) = vars.getD k [] := by simp only [plainF]; rw [if_neg (by decide), if_pos trivial]; simp only [Int.toNat_natCast]
    rw [hs]
    have hb : vars[k]? = some (vars.getD k []) := by
      rw [List.getD_eq_getElem?_getD, List.getElem?_eq_getElem (by omega)]; rfl
    have hlt : k < vars.length := by omega
    generalize vars.getD k [] = s at *
    repeat' first
      | with_reducible apply M.free
      | with_reducible apply M.done
      | ((with_reducible apply F.move); exact rfl; exact rfl)
      | ((with_reducible apply F.load); exact rfl; exact rfl; exact rfl)
      | ((with_reducible apply F.cmp); exact rfl; exact rfl; exact rfl; exact rfl)
      | ((with_reducible apply F.assign); exact rfl; exact rfl)
      | ((with_reducible apply F.fieldAddr); exact rfl; exact rfl; exact rfl)
      | ((with_reducible apply F.len); exact rfl; exact rfl; exact rfl; exact rfl)
      | ((with_reducible apply F.nilCheck); exact rfl; exact rfl; exact rfl)
      | ((with_reducible apply F.extract); exact rfl; exact rfl; exact rfl)
      | ((with_reducible apply F.pickT); exact rfl; exact rfl; exact rfl)
      | ((with_reducible apply F.pickF); exact rfl; exact rfl; exact rfl)
      | ((with_reducible apply F.cmpS); exact rfl; exact rfl; exact rfl; exact rfl)
      | ((first | ((with_reducible apply F.add); exact rfl; exact rfl; exact rfl) | ((with_reducible apply F.sub); exact rfl; exact rfl; exact rfl) | ((with_reducible apply F.adds); exact rfl; exact rfl; exact rfl) | ((with_reducible apply F.neg); exact rfl; exact rfl)); (focus (first | omega | (simp only [List.length_cons, List.length_nil, List.length_append, List.length_take, List.length_drop]; omega))))
      | ((with_reducible apply R.regs); exact rfl)
      | ((with_reducible apply R.regsL); exact rfl)
      | ((with_reducible apply R.regsT); exact rfl)
      | ((with_reducible apply Cut.of); (focus (repeat' (first | exact Kp.nil | (apply Kp.cons; exact rfl)))); (focus ((try simp only [List.take_succ_cons, List.take_zero, List.take_nil, Nat.zero_add, Nat.reduceAdd]) <;> rfl)); (focus (first | exact rfl | (simp [cutOk, lowOb, lowV, lowCell, low_map]; done))))
      | ((with_reducible apply Lv.of); (focus (repeat' (first | exact Kp.nil | (apply Kp.cons; exact rfl)))))
      | ((with_reducible apply F.call0); exact rfl; exact rfl; (focus (repeat' (first | exact Evs.nil | (apply Evs.cons; exact rfl)))); exact rfl; (focus (first | exact hr)))
      | ((first | (with_reducible apply R.cond) | ((with_reducible apply M.guard); exact rfl)); (focus (first | (refine Eq.trans (look_of rfl) ?_; first | (simp only [decide_true, decide_false, Bool.not_true, Bool.not_false, *, hl, hb, List.length_map, List.getElem?_map] <;> rfl) | exact rfl) | exact look_of rfl)))
      | refine imp_yes rfl ?_
      | exact imp_no rfl
      | with_reducible apply R.seq
      | ((with_reducible apply R.region); exact rfl)
      | ((with_reducible apply R.regionL); exact rfl)
      | ((with_reducible apply R.regionT); exact rfl)
      | with_reducible apply E.seqN
      | with_reducible apply E.seqX
      | with_reducible apply E.seqR
      | with_reducible apply E.blkN
      | with_reducible apply E.blkR
      | ((with_reducible apply E.blkX); exact rfl)
      | ((with_reducible apply E.blkO); exact rfl)
      | with_reducible apply R.skip
      | with_reducible apply R.ret
      | with_reducible apply R.block
      | with_reducible apply R.exit
      | ((first | ((with_reducible apply F.store); exact rfl; exact rfl; exact rfl; exact rfl) | ((with_reducible apply F.loadS); exact rfl; exact rfl; exact rfl) | ((with_reducible apply F.load2); exact rfl; exact rfl; exact rfl)); (focus (simp (disch := first | assumption | omega | (simp only [List.length_cons, List.length_nil, List.length_append, List.length_take, List.length_drop]; omega)) only [LS, storeV, loadV, partV, partP, cut, over, mkAgg, allP, asP, V.cells, Pv.cells, elDiv, elMod, elDiv0, Nat.mul_mod_left, Int.toNat_zero, Int.reduceToNat, *, hl, hb, List.length_map, List.getElem?_map] <;> rfl)))
      | ((first | ((with_reducible apply F.alloc); exact rfl; exact rfl)); (focus (simp only [LS] <;> rfl)); (focus (simp only [LS] <;> rfl)))
      | ((first | ((with_reducible apply F.box); exact rfl; exact rfl; exact rfl)); (focus (simp (disch := first | assumption | omega | (simp only [List.length_cons, List.length_nil, List.length_append, List.length_take, List.length_drop]; omega)) only [LS, storeV, loadV, partV, partP, cut, over, mkAgg, allP, asP, V.cells, Pv.cells, elDiv, elMod, elDiv0, Nat.mul_mod_left, Int.toNat_zero, Int.reduceToNat, *, hl, hb, List.length_map, List.getElem?_map] <;> rfl)); exact rfl; (focus (simp only [LS] <;> rfl)); (focus (simp only [LS] <;> rfl)))
      | ((first | ((with_reducible apply F.build); exact rfl; exact rfl; (focus (repeat' (first | exact Prs.nil | (apply Prs.cons; exact rfl))))) | ((with_reducible apply F.buildSlice); exact rfl; exact rfl; (focus (repeat' (first | exact Prs.nil | (apply Prs.cons; exact rfl))))) | ((with_reducible apply F.append); exact rfl; exact rfl; exact rfl; exact rfl; exact rfl; exact rfl; exact rfl; exact rfl) | ((with_reducible apply F.append3); exact rfl; exact rfl; exact rfl; exact rfl; exact rfl; exact rfl; exact rfl; exact rfl)); (focus (simp (disch := first | assumption | omega | (simp only [List.length_cons, List.length_nil, List.length_append, List.length_take, List.length_drop]; omega)) only [LS, buildV, fillV, over, buildSliceV, elemsOf, appendV, elems, arrAt, cut, roomy, mkAgg, allP, asP, V.cells, Pv.cells, Int.toNat_zero, Int.reduceToNat, *, hl, hb, List.length_map, List.getElem?_map] <;> rfl)))
      | ((first | ((with_reducible apply F.indexAddr); exact rfl; exact rfl; exact rfl; exact rfl) | ((with_reducible apply F.len); exact rfl; exact rfl; exact rfl)); (focus (simp (disch := first | assumption | omega | (simp only [List.length_cons, List.length_nil, List.length_append, List.length_take, List.length_drop]; omega)) only [LS, lenV_L, idx_L, below_at, Int.toNat_zero, Int.reduceToNat, *, hl, hb, List.length_map, List.getElem?_map] <;> rfl)))
      | ((first | ((with_reducible apply F.indexAddr); exact rfl; exact rfl; exact rfl; exact rfl) | ((with_reducible apply F.index); exact rfl; exact rfl; exact rfl; exact rfl) | ((with_reducible apply F.convert); exact rfl; exact rfl; exact rfl; exact rfl) | ((with_reducible apply F.slice); exact rfl; exact rfl; exact rfl; exact rfl; exact rfl; exact rfl) | ((with_reducible apply F.makeFunc); exact rfl; (focus (repeat' (first | exact Evs.nil | (apply Evs.cons; exact rfl)))); (focus (repeat' (first | exact Evs.nil | (apply Evs.cons; exact rfl))))) | ((with_reducible apply F.field); exact rfl; exact rfl; exact rfl) | ((with_reducible apply F.fieldAddrS); exact rfl; exact rfl; exact rfl) | ((with_reducible apply F.bin); exact rfl; exact rfl; exact rfl; exact rfl)); (focus (simp (disch := first | assumption | omega | (simp only [List.length_cons, List.length_nil, List.length_append, List.length_take, List.length_drop]; omega)) only [LS, indexAddrV, indexV, below_at, fieldV, fieldAddrV, convP, bytesOf, sliceV, bounds, bMax, bHi, bLo, upTo_at, makeFuncV, partV, partP, cut, binI, binS, binV, binP, arith, strOp_add, strOp_eql, strOp_neq, eqn, wrap64, wrap8, mkAgg, allP, asP, Option.getD_none, Int.toNat_zero, Int.reduceToNat, *, hl, hb, List.length_map, List.getElem?_map] <;> rfl)))
      | ((first | ((with_reducible apply F.assignF); exact rfl; exact rfl) | ((with_reducible apply F.append2); exact rfl; exact rfl; exact rfl; exact rfl; exact rfl; exact rfl; exact rfl; exact rfl)); (focus (simp (disch := first | assumption | omega | (simp only [List.length_cons, List.length_nil, List.length_append, List.length_take, List.length_drop]; omega)) only [LS, frzCells, frz, markCells, mark, elems, arrAt, cut, allP, asP, appendV, V.cells, Pv.cells, roomy, Int.toNat_zero, Int.reduceToNat, *, hl, hb, List.length_map, List.getElem?_map] <;> rfl)); (focus (simp (disch := first | assumption | omega | (simp only [List.length_cons, List.length_nil, List.length_append, List.length_take, List.length_drop]; omega)) only [LS, frzCells, frz, markCells, mark, elems, arrAt, cut, allP, asP, appendV, V.cells, Pv.cells, roomy, Int.toNat_zero, Int.reduceToNat, *, hl, hb, List.length_map, List.getElem?_map] <;> rfl)))
      | ((with_reducible apply F.not); exact rfl; exact rfl; exact rfl)
      | ((with_reducible apply F.pickT'); exact rfl; exact rfl; (focus (simp only [decide_true, decide_false, *, hl, hb, List.length_map, List.getElem?_map]; done)); exact rfl)
      | ((with_reducible apply F.pickF'); exact rfl; exact rfl; (focus (simp only [decide_true, decide_false, *, hl, hb, List.length_map, List.getElem?_map]; done)); exact rfl)
      | (intro hc; (try rw [hc]); (try simp only [decide_eq_true_eq, decide_eq_false_iff_not, Bool.not_eq_eq_eq_not, Bool.not_true, Bool.not_false] at hc); (try (exfalso; omega)))
      | ((with_reducible apply E.r0); exact rfl; exact rfl)
      | ((first | ((with_reducible apply E.r1); exact rfl; exact rfl; (focus (exact look_of rfl))) | ((with_reducible apply E.rF1); exact rfl; exact rfl; (focus (exact look_of rfl))) | ((with_reducible apply E.rP1); exact rfl; exact rfl; (focus (exact look_of rfl))) | ((with_reducible apply E.r2); exact rfl; exact rfl; (focus (exact look_of rfl)); (focus (exact look_of rfl))) | ((with_reducible apply E.rF2); exact rfl; exact rfl; (focus (exact look_of rfl)); (focus (exact look_of rfl))) | ((with_reducible apply E.rP2); exact rfl; exact rfl; (focus (exact look_of rfl)); (focus (exact look_of rfl))) | ((with_reducible apply E.r3); exact rfl; exact rfl; (focus (exact look_of rfl)); (focus (exact look_of rfl)); (focus (exact look_of rfl))) | ((with_reducible apply E.rF3); exact rfl; exact rfl; (focus (exact look_of rfl)); (focus (exact look_of rfl)); (focus (exact look_of rfl))) | ((with_reducible apply E.rP3); exact rfl; exact rfl; (focus (exact look_of rfl)); (focus (exact look_of rfl)); (focus (exact look_of rfl)))))
      | ((first | ((with_reducible apply E.rc); exact rfl; exact rfl; (focus (exact look_of rfl)); exact rfl) | ((with_reducible apply E.rPc); exact rfl; exact rfl; (focus (exact look_of rfl)); exact rfl)); (focus (simp (disch := first | assumption | omega | (simp only [List.length_cons, List.length_nil, List.length_append, List.length_take, List.length_drop]; omega)) only [LS, storeV, loadV, partV, partP, cut, over, mkAgg, allP, asP, V.cells, Pv.cells, elDiv, elMod, elDiv0, Nat.mul_mod_left, Int.toNat_zero, Int.reduceToNat, *, hl, hb, List.length_map, List.getElem?_map] <;> rfl)))
      | refine R.regs rfl ?_
      | refine R.regsL rfl ?_
      | refine R.regsT rfl ?_
      | exact rfl
  · obtain ⟨k, rfl⟩ := Int.eq_ofNat_of_zero_le h1
    have hs : plainF vars (.leaf ⟨3, k⟩) = 36 :: dec k := by simp only [plainF]; rw [if_neg (by decide), if_neg (by decide)]; simp only [Int.toNat_natCast]
    rw [hs]
    have hd := (Digits_run k (by omega)).fv
    have hlen := dec_20 (n := k) (by omega)
    generalize dec k = s at *
    repeat' first
      | with_reducible apply M.free
      | with_reducible apply M.done
      | ((with_reducible apply F.move); exact rfl; exact rfl)
      | ((with_reducible apply F.load); exact rfl; exact rfl; exact rfl)
      | ((with_reducible apply F.cmp); exact rfl; exact rfl; exact rfl; exact rfl)
      | ((with_reducible apply F.assign); exact rfl; exact rfl)
      | ((with_reducible apply F.fieldAddr); exact rfl; exact rfl; exact rfl)
      | ((with_reducible apply F.len); exact rfl; exact rfl; exact rfl; exact rfl)
      | ((with_reducible apply F.nilCheck); exact rfl; exact rfl; exact rfl)
      | ((with_reducible apply F.extract); exact rfl; exact rfl; exact rfl)
      | ((with_reducible apply F.pickT); exact rfl; exact rfl; exact rfl)
      | ((with_reducible apply F.pickF); exact rfl; exact rfl; exact rfl)
      | ((with_reducible apply F.cmpS); exact rfl; exact rfl; exact rfl; exact rfl)
      | ((first | ((with_reducible apply F.add); exact rfl; exact rfl; exact rfl) | ((with_reducible apply F.sub); exact rfl; exact rfl; exact rfl) | ((with_reducible apply F.adds); exact rfl; exact rfl; exact rfl) | ((with_reducible apply F.neg); exact rfl; exact rfl)); (focus (first | omega | (simp only [List.length_cons, List.length_nil, List.length_append, List.length_take, List.length_drop]; omega))))
      | ((with_reducible apply R.regs); exact rfl)
      | ((with_reducible apply R.regsL); exact rfl)
      | ((with_reducible apply R.regsT); exact rfl)
      | ((with_reducible apply Cut.of); (focus (repeat' (first | exact Kp.nil | (apply Kp.cons; exact rfl)))); (focus ((try simp only [List.take_succ_cons, List.take_zero, List.take_nil, Nat.zero_add, Nat.reduceAdd]) <;> rfl)); (focus (first | exact rfl | (simp [cutOk, lowOb, lowV, lowCell, low_map]; done))))
      | ((with_reducible apply Lv.of); (focus (repeat' (first | exact Kp.nil | (apply Kp.cons; exact rfl)))))
      | ((with_reducible apply F.call0); exact rfl; exact rfl; (focus (repeat' (first | exact Evs.nil | (apply Evs.cons; exact rfl)))); exact rfl; (focus (first | exact hr | exact hd)))
      | ((first | (with_reducible apply R.cond) | ((with_reducible apply M.guard); exact rfl)); (focus (first | (refine Eq.trans (look_of rfl) ?_; first | (simp only [decide_true, decide_false, Bool.not_true, Bool.not_false, *] <;> rfl) | exact rfl) | exact look_of rfl)))
      | refine imp_yes rfl ?_
      | exact imp_no rfl
      | with_reducible apply R.seq
      | ((with_reducible apply R.region); exact rfl)
      | ((with_reducible apply R.regionL); exact rfl)
      | ((with_reducible apply R.regionT); exact rfl)
      | with_reducible apply E.seqN
      | with_reducible apply E.seqX
      | with_reducible apply E.seqR
      | with_reducible apply E.blkN
      | with_reducible apply E.blkR
      | ((with_reducible apply E.blkX); exact rfl)
      | ((with_reducible apply E.blkO); exact rfl)
      | with_reducible apply R.skip
      | with_reducible apply R.ret
      | with_reducible apply R.block
      | with_reducible apply R.exit
      | ((first | ((with_reducible apply F.store); exact rfl; exact rfl; exact rfl; exact rfl) | ((with_reducible apply F.loadS); exact rfl; exact rfl; exact rfl) | ((with_reducible apply F.load2); exact rfl; exact rfl; exact rfl)); (focus (simp (disch := first | assumption | omega | (simp only [List.length_cons, List.length_nil, List.length_append, List.length_take, List.length_drop]; omega)) only [LS, storeV, loadV, partV, partP, cut, over, mkAgg, allP, asP, V.cells, Pv.cells, elDiv, elMod, elDiv0, Nat.mul_mod_left, Int.toNat_zero, Int.reduceToNat, *] <;> rfl)))
      | ((first | ((with_reducible apply F.alloc); exact rfl; exact rfl)); (focus (simp only [LS] <;> rfl)); (focus (simp only [LS] <;> rfl)))
      | ((first | ((with_reducible apply F.box); exact rfl; exact rfl; exact rfl)); (focus (simp (disch := first | assumption | omega | (simp only [List.length_cons, List.length_nil, List.length_append, List.length_take, List.length_drop]; omega)) only [LS, storeV, loadV, partV, partP, cut, over, mkAgg, allP, asP, V.cells, Pv.cells, elDiv, elMod, elDiv0, Nat.mul_mod_left, Int.toNat_zero, Int.reduceToNat, *] <;> rfl)); exact rfl; (focus (simp only [LS] <;> rfl)); (focus (simp only [LS] <;> rfl)))
      | ((first | ((with_reducible apply F.build); exact rfl; exact rfl; (focus (repeat' (first | exact Prs.nil | (apply Prs.cons; exact rfl))))) | ((with_reducible apply F.buildSlice); exact rfl; exact rfl; (focus (repeat' (first | exact Prs.nil | (apply Prs.cons; exact rfl))))) | ((with_reducible apply F.append); exact rfl; exact rfl; exact rfl; exact rfl; exact rfl; exact rfl; exact rfl; exact rfl) | ((with_reducible apply F.append3); exact rfl; exact rfl; exact rfl; exact rfl; exact rfl; exact rfl; exact rfl; exact rfl)); (focus (simp (disch := first | assumption | omega | (simp only [List.length_cons, List.length_nil, List.length_append, List.length_take, List.length_drop]; omega)) only [LS, buildV, fillV, over, buildSliceV, elemsOf, appendV, elems, arrAt, cut, roomy, mkAgg, allP, asP, V.cells, Pv.cells, Int.toNat_zero, Int.reduceToNat, *] <;> rfl)))
      | ((first | ((with_reducible apply F.indexAddr); exact rfl; exact rfl; exact rfl; exact rfl) | ((with_reducible apply F.len); exact rfl; exact rfl; exact rfl)); (focus (simp (disch := first | assumption | omega | (simp only [List.length_cons, List.length_nil, List.length_append, List.length_take, List.length_drop]; omega)) only [LS, lenV_L, idx_L, below_at, Int.toNat_zero, Int.reduceToNat, *] <;> rfl)))
      | ((first | ((with_reducible apply F.indexAddr); exact rfl; exact rfl; exact rfl; exact rfl) | ((with_reducible apply F.index); exact rfl; exact rfl; exact rfl; exact rfl) | ((with_reducible apply F.convert); exact rfl; exact rfl; exact rfl; exact rfl) | ((with_reducible apply F.slice); exact rfl; exact rfl; exact rfl; exact rfl; exact rfl; exact rfl) | ((with_reducible apply F.makeFunc); exact rfl; (focus (repeat' (first | exact Evs.nil | (apply Evs.cons; exact rfl)))); (focus (repeat' (first | exact Evs.nil | (apply Evs.cons; exact rfl))))) | ((with_reducible apply F.field); exact rfl; exact rfl; exact rfl) | ((with_reducible apply F.fieldAddrS); exact rfl; exact rfl; exact rfl) | ((with_reducible apply F.bin); exact rfl; exact rfl; exact rfl; exact rfl)); (focus (simp (disch := first | assumption | omega | (simp only [List.length_cons, List.length_nil, List.length_append, List.length_take, List.length_drop]; omega)) only [LS, indexAddrV, indexV, below_at, fieldV, fieldAddrV, convP, bytesOf, sliceV, bounds, bMax, bHi, bLo, upTo_at, makeFuncV, partV, partP, cut, binI, binS, binV, binP, arith, strOp_add, strOp_eql, strOp_neq, eqn, wrap64, wrap8, mkAgg, allP, asP, Option.getD_none, Int.toNat_zero, Int.reduceToNat, *] <;> rfl)))
      | ((first | ((with_reducible apply F.assignF); exact rfl; exact rfl) | ((with_reducible apply F.append2); exact rfl; exact rfl; exact rfl; exact rfl; exact rfl; exact rfl; exact rfl; exact rfl)); (focus (simp (disch := first | assumption | omega | (simp only [List.length_cons, List.length_nil, List.length_append, List.length_take, List.length_drop]; omega)) only [LS, frzCells, frz, markCells, mark, elems, arrAt, cut, allP, asP, appendV, V.cells, Pv.cells, roomy, Int.toNat_zero, Int.reduceToNat, *] <;> rfl)); (focus (simp (disch := first | assumption | omega | (simp only [List.length_cons, List.length_nil, List.length_append, List.length_take, List.length_drop]; omega)) only [LS, frzCells, frz, markCells, mark, elems, arrAt, cut, allP, asP, appendV, V.cells, Pv.cells, roomy, Int.toNat_zero, Int.reduceToNat, *] <;> rfl)))
      | ((with_reducible apply F.not); exact rfl; exact rfl; exact rfl)
      | ((with_reducible apply F.pickT'); exact rfl; exact rfl; (focus (simp only [decide_true, decide_false, *]; done)); exact rfl)
      | ((with_reducible apply F.pickF'); exact rfl; exact rfl; (focus (simp only [decide_true, decide_false, *]; done)); exact rfl)
      | (intro hc; (try rw [hc]); (try simp only [decide_eq_true_eq, decide_eq_false_iff_not, Bool.not_eq_eq_eq_not, Bool.not_true, Bool.not_false] at hc); (try (exfalso; omega)))
      | ((with_reducible apply E.r0); exact rfl; exact rfl)
      | ((first | ((with_reducible apply E.r1); exact rfl; exact rfl; (focus (exact look_of rfl))) | ((with_reducible apply E.rF1); exact rfl; exact rfl; (focus (exact look_of rfl))) | ((with_reducible apply E.rP1); exact rfl; exact rfl; (focus (exact look_of rfl))) | ((with_reducible apply E.r2); exact rfl; exact rfl; (focus (exact look_of rfl)); (focus (exact look_of rfl))) | ((with_reducible apply E.rF2); exact rfl; exact rfl; (focus (exact look_of rfl)); (focus (exact look_of rfl))) | ((with_reducible apply E.rP2); exact rfl; exact rfl; (focus (exact look_of rfl)); (focus (exact look_of rfl))) | ((with_reducible apply E.r3); exact rfl; exact rfl; (focus (exact look_of rfl)); (focus (exact look_of rfl)); (focus (exact look_of rfl))) | ((with_reducible apply E.rF3); exact rfl; exact rfl; (focus (exact look_of rfl)); (focus (exact look_of rfl)); (focus (exact look_of rfl))) | ((with_reducible apply E.rP3); exact rfl; exact rfl; (focus (exact look_of rfl)); (focus (exact look_of rfl)); (focus (exact look_of rfl)))))
      | ((first | ((with_reducible apply E.rc); exact rfl; exact rfl; (focus (exact look_of rfl)); exact rfl) | ((with_reducible apply E.rPc); exact rfl; exact rfl; (focus (exact look_of rfl)); exact rfl)); (focus (simp (disch := first | assumption | omega | (simp only [List.length_cons, List.length_nil, List.length_append, List.length_take, List.length_drop]; omega)) only [LS, storeV, loadV, partV, partP, cut, over, mkAgg, allP, asP, V.cells, Pv.cells, elDiv, elMod, elDiv0, Nat.mul_mod_left, Int.toNat_zero, Int.reduceToNat, *] <;> rfl)))
      | refine R.regs rfl ?_
      | refine R.regsL rfl ?_
      | refine R.regsT rfl ?_
      | exact rfl
end Go.Proofs.YtojpocfnjigmfaaDoor
