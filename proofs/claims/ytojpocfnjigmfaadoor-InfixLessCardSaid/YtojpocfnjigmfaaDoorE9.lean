import Derived.Test.YtojpocfnjigmfaaDoorE8
import Derived.Test.YtojpocfnjigmfaaDoorAX19
set_option maxRecDepth 10000
set_option linter.unusedSimpArgs false
set_option linter.unusedVariables false
namespace Go.Proofs.YtojpocfnjigmfaaDoor
open Go Go.AX
noncomputable def fi11 : FnI := { body := (Tryd.f11.body).getD .skip, ntmps := 138, results := Tryd.f11.results.toList, hints := [(6, { live := some [1, 10, 11, 33, 34, 35] }), (10, { ops := [(1, 1)] }), (11, { ops := [(3, 1)] }), (19, { ops := [(1, 1)] }), (28, { ops := [(1, 1)] }), (34, { ops := [(1, 1)] }), (36, { live := some [1, 10, 11, 33, 34, 35], trunc := some 3 })] }
theorem cxF11 : cx.F 11 = some fi11 := by kernel_rfl
instance : Inhabited T := ⟨.leaf ⟨0, 0⟩⟩
def showF (code : List Ins) (vars : List (List UInt8)) (args : Int) : List UInt8 × Int := if (checkF code vars.length args).2 = 0 then (plainF vars ((bld code []).headD default), 0) else ([], (checkF code vars.length args).2)
theorem chk_end (vars args : Int) : ∀ (l : List Ins) (k : Nat) (st : List T), chk vars args st.length k l = (0, 0) → ∃ t, bld l st = [t]
  | [], k, st, h => by
    rw [chk] at h
    split at h
    · rename_i h1
      show ∃ t, st = [t]
      exact List.length_eq_one_iff.1 (by omega)
    · cases h
  | i :: l, k, st, h => by
    obtain ⟨c1, c2, c3, c4⟩ := chk_step h
    rw [← push_len i st c1 c3] at c4
    exact chk_end vars args l (k + 1) (pushT i st) c4
theorem chk_zero (vars args : Int) : ∀ (l : List Ins) (k : Nat) (row : Int), (chk vars args row k l).2 = 0 → chk vars args row k l = (0, 0)
  | [], k, row, h => by
    rw [chk] at h ⊢
    split at h
    · rename_i h1; rw [if_pos h1]
    · cases h
  | i :: l, k, row, h => by
    rw [chk] at h ⊢
    split at h
    · cases h
    · rename_i h1
      rw [if_neg h1]
      split at h
      · cases h
      · rename_i h2
        rw [if_neg h2]
        split at h
        · cases h
        · rename_i h3
          rw [if_neg h3]
          exact chk_zero vars args l _ _ h
def pcL (vars : List (List UInt8)) (st : List T) : List Pv := st.reverse.map (pieceOf vars)
theorem mem_wts {t : T} : ∀ {st : List T}, t ∈ st → wt t ≤ wts st
  | s :: st, h => by
    simp only [wts, List.map_cons, List.sum_cons]
    rcases List.mem_cons.1 h with rfl | h
    · omega
    · have := mem_wts h
      simp only [wts] at this
      omega
theorem pcL_sz (vars : List (List UInt8)) (st : List T) : Sz 3 (pcL vars st) := by
  intro p hp
  simp only [pcL, List.mem_map] at hp
  obtain ⟨t, _, rfl⟩ := hp
  rfl
set_option maxHeartbeats 4000000 in
theorem show_run (code : List Ins) (x : Pv) (hx : IsL 2 x) (hl : elemsP x = code.map Ins.pv) (y : Pv) (hy : IsL 1 y) (vars : List (List UInt8)) (hvl : elemsP y = vars.map .str) (hv : ∀ v ∈ vars, v.length ≤ 140737488355328) (args : Int) (ha : args < 9223372036854775808) :
    PV cx 11 [.p x, .p y, .p (.int .i64 args)] (.tup [.str (showF code vars args).1, .int .i64 (showF code vars args).2]) := by
  refine PV.run cxF11 rfl ?_
  simp only [args0, Nat.zero_add, Nat.reduceAdd]
  have hck := (check_run code x hx hl vars.length args).fv
  generalize hr : checkF code vars.length args = r at *
  obtain ⟨k, e⟩ := r
  simp only [tup2] at hck
  by_cases he : e = 0
  rotate_left 1
  · have e1 : showF code vars args = ([], e) := by simp only [showF, hr]; rw [if_neg he]
    rw [e1]
    repeat' first
      | with_reducible apply M.free
      | with_reducible apply M.done
      | ((with_reducible apply F.move); exact rfl; exact rfl)
      | ((with_reducible apply F.load); exact rfl; exact rfl; exact rfl)
      | ((with_reducible apply F.cmp); exact rfl; exact rfl; exact rfl; exact rfl)
      | ((with_reducible apply F.assign); exact rfl; exact rfl)
      | ((with_reducible apply F.fieldAddr); exact rfl; exact rfl; exact rfl)
      | ((with_reducible apply F.len); exact rfl; exact rfl; exact rfl; exact rfl)
      | ((with_reducible apply F.extract); exact rfl; exact rfl; exact rfl)
      | ((with_reducible apply F.cmpS); exact rfl; exact rfl; exact rfl; exact rfl)
      | ((first | ((with_reducible apply F.add); exact rfl; exact rfl; exact rfl) | ((with_reducible apply F.adds); exact rfl; exact rfl; exact rfl)); (focus (first | omega | (simp only [List.length_cons, List.length_nil, List.length_append, List.length_take, List.length_drop]; omega))))
      | ((with_reducible apply R.regs); exact rfl)
      | ((with_reducible apply R.regsL); exact rfl)
      | ((with_reducible apply R.regsT); exact rfl)
      | ((with_reducible apply Cut.of); (focus (repeat' (first | exact Kp.nil | (apply Kp.cons; exact rfl)))); (focus ((try simp only [List.take_succ_cons, List.take_zero, List.take_nil, Nat.zero_add, Nat.reduceAdd]) <;> rfl)); (focus (first | exact rfl | (simp [cutOk, lowOb, lowV, lowCell, low_map]; done))))
      | ((with_reducible apply Lv.of); (focus (repeat' (first | exact Kp.nil | (apply Kp.cons; exact rfl)))))
      | ((with_reducible apply F.call0); exact rfl; exact rfl; (focus (repeat' (first | exact Evs.nil | (apply Evs.cons; exact rfl)))); exact rfl; (focus (first | exact hck)))
      | ((first | (with_reducible apply R.cond) | ((with_reducible apply M.guard); exact rfl)); (focus (first | (refine Eq.trans (look_of rfl) ?_; first | (simp only [decide_true, decide_false, Bool.not_true, Bool.not_false, *, hvl, List.length_map] <;> rfl) | exact rfl) | exact look_of rfl)))
      | refine imp_yes rfl ?_
      | exact imp_no rfl
      | with_reducible apply R.seq
      | ((with_reducible apply R.region); exact rfl)
      | ((with_reducible apply R.regionL); exact rfl)
      | ((with_reducible apply R.regionT); exact rfl)
      | with_reducible apply E.seqN
      | with_reducible apply E.seqX
      | with_reducible apply E.seqR
      | with_reducible apply E.blkN
      | with_reducible apply E.blkR
      | ((with_reducible apply E.blkX); exact rfl)
      | ((with_reducible apply E.blkO); exact rfl)
      | with_reducible apply R.skip
      | with_reducible apply R.ret
      | with_reducible apply R.block
      | with_reducible apply R.exit
      | ((first | ((with_reducible apply F.store); exact rfl; exact rfl; exact rfl; exact rfl) | ((with_reducible apply F.loadS); exact rfl; exact rfl; exact rfl) | ((with_reducible apply F.load2); exact rfl; exact rfl; exact rfl)); (focus (simp (disch := first | assumption | omega | (simp only [List.length_cons, List.length_nil, List.length_append, List.length_take, List.length_drop]; omega)) only [LS, storeV, loadV, partV, partP, cut, over, mkAgg, allP, asP, V.cells, PC, elDiv, elMod, elDiv0, Nat.mul_mod_left, Int.toNat_zero, Int.reduceToNat, *, hvl, List.length_map] <;> rfl)))
      | ((first | ((with_reducible apply F.alloc); exact rfl; exact rfl)); (focus (simp only [LS] <;> rfl)); (focus (simp only [LS] <;> rfl)))
      | ((first | ((with_reducible apply F.build); exact rfl; exact rfl; (focus (repeat' (first | exact Prs.nil | (apply Prs.cons; exact rfl))))) | ((with_reducible apply F.buildSlice); exact rfl; exact rfl; (focus (repeat' (first | exact Prs.nil | (apply Prs.cons; exact rfl))))) | ((with_reducible apply F.append); exact rfl; exact rfl; exact rfl; exact rfl; exact rfl; exact rfl; exact rfl; exact rfl) | ((with_reducible apply F.append3); exact rfl; exact rfl; exact rfl; exact rfl; exact rfl; exact rfl; exact rfl; exact rfl)); (focus (simp (disch := first | assumption | omega | (simp only [List.length_cons, List.length_nil, List.length_append, List.length_take, List.length_drop]; omega)) only [LS, buildV, fillV, over, buildSliceV, elemsOf, appendV, elems, arrAt, cut, roomy, mkAgg, allP, asP, V.cells, PC, Int.toNat_zero, Int.reduceToNat, *, hvl, List.length_map] <;> rfl)))
      | ((first | ((with_reducible apply F.indexAddr); exact rfl; exact rfl; exact rfl; exact rfl) | ((with_reducible apply F.len); exact rfl; exact rfl; exact rfl)); (focus (simp (disch := first | assumption | omega | (simp only [List.length_cons, List.length_nil, List.length_append, List.length_take, List.length_drop]; omega)) only [LS, lenV_L, idx_L, below_at, Int.toNat_zero, Int.reduceToNat, *, hvl, List.length_map] <;> rfl)))
      | ((first | ((with_reducible apply F.indexAddr); exact rfl; exact rfl; exact rfl; exact rfl) | ((with_reducible apply F.makeFunc); exact rfl; (focus (repeat' (first | exact Evs.nil | (apply Evs.cons; exact rfl)))); (focus (repeat' (first | exact Evs.nil | (apply Evs.cons; exact rfl))))) | ((with_reducible apply F.fieldAddrS); exact rfl; exact rfl; exact rfl) | ((with_reducible apply F.bin); exact rfl; exact rfl; exact rfl; exact rfl)); (focus (simp (disch := first | assumption | omega | (simp only [List.length_cons, List.length_nil, List.length_append, List.length_take, List.length_drop]; omega)) only [LS, indexAddrV, indexV, below_at, fieldV, fieldAddrV, convP, bytesOf, sliceV, bounds, bMax, bHi, bLo, upTo_at, makeFuncV, partV, partP, cut, binI, binS, binV, binP, arith, strOp_add, strOp_eql, strOp_neq, eqn, wrap64, wrap8, mkAgg, allP, asP, Option.getD_none, Int.toNat_zero, Int.reduceToNat, *, hvl, List.length_map] <;> rfl)))
      | ((first | ((with_reducible apply F.assignF); exact rfl; exact rfl) | ((with_reducible apply F.append2); exact rfl; exact rfl; exact rfl; exact rfl; exact rfl; exact rfl; exact rfl; exact rfl)); (focus (simp (disch := first | assumption | omega | (simp only [List.length_cons, List.length_nil, List.length_append, List.length_take, List.length_drop]; omega)) only [LS, frzCells, frz, markCells, mark, elems, arrAt, cut, allP, asP, appendV, V.cells, PC, roomy, Int.toNat_zero, Int.reduceToNat, *, hvl, List.length_map] <;> rfl)); (focus (simp (disch := first | assumption | omega | (simp only [List.length_cons, List.length_nil, List.length_append, List.length_take, List.length_drop]; omega)) only [LS, frzCells, frz, markCells, mark, elems, arrAt, cut, allP, asP, appendV, V.cells, PC, roomy, Int.toNat_zero, Int.reduceToNat, *, hvl, List.length_map] <;> rfl)))
      | (intro hc; (try rw [hc]); (try simp only [decide_eq_true_eq, decide_eq_false_iff_not, Bool.not_eq_eq_eq_not, Bool.not_true, Bool.not_false] at hc); (try (exfalso; omega)))
      | ((with_reducible apply E.r0); exact rfl; exact rfl)
      | ((first | ((with_reducible apply E.r1); exact rfl; exact rfl; (focus (exact look_of rfl))) | ((with_reducible apply E.rF1); exact rfl; exact rfl; (focus (exact look_of rfl))) | ((with_reducible apply E.rP1); exact rfl; exact rfl; (focus (exact look_of rfl))) | ((with_reducible apply E.r2); exact rfl; exact rfl; (focus (exact look_of rfl)); (focus (exact look_of rfl))) | ((with_reducible apply E.rF2); exact rfl; exact rfl; (focus (exact look_of rfl)); (focus (exact look_of rfl))) | ((with_reducible apply E.rP2); exact rfl; exact rfl; (focus (exact look_of rfl)); (focus (exact look_of rfl))) | ((with_reducible apply E.r3); exact rfl; exact rfl; (focus (exact look_of rfl)); (focus (exact look_of rfl)); (focus (exact look_of rfl))) | ((with_reducible apply E.rF3); exact rfl; exact rfl; (focus (exact look_of rfl)); (focus (exact look_of rfl)); (focus (exact look_of rfl))) | ((with_reducible apply E.rP3); exact rfl; exact rfl; (focus (exact look_of rfl)); (focus (exact look_of rfl)); (focus (exact look_of rfl)))))
      | refine R.regs rfl ?_
      | refine R.regsL rfl ?_
      | refine R.regsT rfl ?_
      | refine R.seq ?_
      | refine R.region rfl ?_
      | refine R.block ?_
      | exact rfl
  subst he
  have hc : chk vars.length args 0 0 code = (0, 0) ∧ code.length ≤ 31 ∧ 0 ≤ args := by
    unfold checkF at hr
    split at hr
    · cases hr
    · split at hr
      · cases hr
      · exact ⟨chk_zero _ _ _ _ _ (by rw [hr]), by omega, by omega⟩
  obtain ⟨hc, h31, ha0⟩ := hc
  obtain ⟨t, hb⟩ := chk_end vars.length args code 0 [] hc
  have e1 : showF code vars args = (plainF vars t, 0) := by simp only [showF, hr, hb]; rfl
  rw [e1]
  clear hr e1
  repeat' first
    | with_reducible apply M.free
    | with_reducible apply M.done
    | ((with_reducible apply F.move); exact rfl; exact rfl)
    | ((with_reducible apply F.load); exact rfl; exact rfl; exact rfl)
    | ((with_reducible apply F.cmp); exact rfl; exact rfl; exact rfl; exact rfl)
    | ((with_reducible apply F.assign); exact rfl; exact rfl)
    | ((with_reducible apply F.fieldAddr); exact rfl; exact rfl; exact rfl)
    | ((with_reducible apply F.len); exact rfl; exact rfl; exact rfl; exact rfl)
    | ((with_reducible apply F.extract); exact rfl; exact rfl; exact rfl)
    | ((with_reducible apply F.cmpS); exact rfl; exact rfl; exact rfl; exact rfl)
    | ((first | ((with_reducible apply F.add); exact rfl; exact rfl; exact rfl) | ((with_reducible apply F.adds); exact rfl; exact rfl; exact rfl)); (focus (first | omega | (simp only [List.length_cons, List.length_nil, List.length_append, List.length_take, List.length_drop]; omega))))
    | ((with_reducible apply R.regs); exact rfl)
    | ((with_reducible apply R.regsL); exact rfl)
    | ((with_reducible apply R.regsT); exact rfl)
    | ((with_reducible apply Cut.of); (focus (repeat' (first | exact Kp.nil | (apply Kp.cons; exact rfl)))); (focus ((try simp only [List.take_succ_cons, List.take_zero, List.take_nil, Nat.zero_add, Nat.reduceAdd]) <;> rfl)); (focus (first | exact rfl | (simp [cutOk, lowOb, lowV, lowCell, low_map]; done))))
    | ((with_reducible apply Lv.of); (focus (repeat' (first | exact Kp.nil | (apply Kp.cons; exact rfl)))))
    | ((with_reducible apply F.call0); exact rfl; exact rfl; (focus (repeat' (first | exact Evs.nil | (apply Evs.cons; exact rfl)))); exact rfl; (focus (first | exact hck)))
    | ((first | (with_reducible apply R.cond) | ((with_reducible apply M.guard); exact rfl)); (focus (first | (refine Eq.trans (look_of rfl) ?_; first | (simp only [decide_true, decide_false, Bool.not_true, Bool.not_false, *, hvl, List.length_map] <;> rfl) | exact rfl) | exact look_of rfl)))
    | refine imp_yes rfl ?_
    | exact imp_no rfl
    | with_reducible apply R.seq
    | ((with_reducible apply R.region); exact rfl)
    | ((with_reducible apply R.regionL); exact rfl)
    | ((with_reducible apply R.regionT); exact rfl)
    | with_reducible apply E.seqN
    | with_reducible apply E.seqX
    | with_reducible apply E.seqR
    | with_reducible apply E.blkN
    | with_reducible apply E.blkR
    | ((with_reducible apply E.blkX); exact rfl)
    | ((with_reducible apply E.blkO); exact rfl)
    | with_reducible apply R.skip
    | with_reducible apply R.ret
    | with_reducible apply R.block
    | with_reducible apply R.exit
    | ((first | ((with_reducible apply F.store); exact rfl; exact rfl; exact rfl; exact rfl) | ((with_reducible apply F.loadS); exact rfl; exact rfl; exact rfl) | ((with_reducible apply F.load2); exact rfl; exact rfl; exact rfl)); (focus (simp (disch := first | assumption | omega | (simp only [List.length_cons, List.length_nil, List.length_append, List.length_take, List.length_drop]; omega)) only [LS, storeV, loadV, partV, partP, cut, over, mkAgg, allP, asP, V.cells, PC, elDiv, elMod, elDiv0, Nat.mul_mod_left, Int.toNat_zero, Int.reduceToNat, *, hvl, List.length_map] <;> rfl)))
    | ((first | ((with_reducible apply F.alloc); exact rfl; exact rfl)); (focus (simp only [LS] <;> rfl)); (focus (simp only [LS] <;> rfl)))
    | ((first | ((with_reducible apply F.build); exact rfl; exact rfl; (focus (repeat' (first | exact Prs.nil | (apply Prs.cons; exact rfl))))) | ((with_reducible apply F.buildSlice); exact rfl; exact rfl; (focus (repeat' (first | exact Prs.nil | (apply Prs.cons; exact rfl))))) | ((with_reducible apply F.append); exact rfl; exact rfl; exact rfl; exact rfl; exact rfl; exact rfl; exact rfl; exact rfl) | ((with_reducible apply F.append3); exact rfl; exact rfl; exact rfl; exact rfl; exact rfl; exact rfl; exact rfl; exact rfl)); (focus (simp (disch := first | assumption | omega | (simp only [List.length_cons, List.length_nil, List.length_append, List.length_take, List.length_drop]; omega)) only [LS, buildV, fillV, over, buildSliceV, elemsOf, appendV, elems, arrAt, cut, roomy, mkAgg, allP, asP, V.cells, PC, Int.toNat_zero, Int.reduceToNat, *, hvl, List.length_map] <;> rfl)))
    | ((first | ((with_reducible apply F.indexAddr); exact rfl; exact rfl; exact rfl; exact rfl) | ((with_reducible apply F.len); exact rfl; exact rfl; exact rfl)); (focus (simp (disch := first | assumption | omega | (simp only [List.length_cons, List.length_nil, List.length_append, List.length_take, List.length_drop]; omega)) only [LS, lenV_L, idx_L, below_at, Int.toNat_zero, Int.reduceToNat, *, hvl, List.length_map] <;> rfl)))
    | ((first | ((with_reducible apply F.indexAddr); exact rfl; exact rfl; exact rfl; exact rfl) | ((with_reducible apply F.makeFunc); exact rfl; (focus (repeat' (first | exact Evs.nil | (apply Evs.cons; exact rfl)))); (focus (repeat' (first | exact Evs.nil | (apply Evs.cons; exact rfl))))) | ((with_reducible apply F.fieldAddrS); exact rfl; exact rfl; exact rfl) | ((with_reducible apply F.bin); exact rfl; exact rfl; exact rfl; exact rfl)); (focus (simp (disch := first | assumption | omega | (simp only [List.length_cons, List.length_nil, List.length_append, List.length_take, List.length_drop]; omega)) only [LS, indexAddrV, indexV, below_at, fieldV, fieldAddrV, convP, bytesOf, sliceV, bounds, bMax, bHi, bLo, upTo_at, makeFuncV, partV, partP, cut, binI, binS, binV, binP, arith, strOp_add, strOp_eql, strOp_neq, eqn, wrap64, wrap8, mkAgg, allP, asP, Option.getD_none, Int.toNat_zero, Int.reduceToNat, *, hvl, List.length_map] <;> rfl)))
    | ((first | ((with_reducible apply F.assignF); exact rfl; exact rfl) | ((with_reducible apply F.append2); exact rfl; exact rfl; exact rfl; exact rfl; exact rfl; exact rfl; exact rfl; exact rfl)); (focus (simp (disch := first | assumption | omega | (simp only [List.length_cons, List.length_nil, List.length_append, List.length_take, List.length_drop]; omega)) only [LS, frzCells, frz, markCells, mark, elems, arrAt, cut, allP, asP, appendV, V.cells, PC, roomy, Int.toNat_zero, Int.reduceToNat, *, hvl, List.length_map] <;> rfl)); (focus (simp (disch := first | assumption | omega | (simp only [List.length_cons, List.length_nil, List.length_append, List.length_take, List.length_drop]; omega)) only [LS, frzCells, frz, markCells, mark, elems, arrAt, cut, allP, asP, appendV, V.cells, PC, roomy, Int.toNat_zero, Int.reduceToNat, *, hvl, List.length_map] <;> rfl)))
    | (intro hc; (try rw [hc]); (try simp only [decide_eq_true_eq, decide_eq_false_iff_not, Bool.not_eq_eq_eq_not, Bool.not_true, Bool.not_false] at hc); (try (exfalso; omega)))
    | ((with_reducible apply E.r0); exact rfl; exact rfl)
    | ((first | ((with_reducible apply E.r1); exact rfl; exact rfl; (focus (exact look_of rfl))) | ((with_reducible apply E.rF1); exact rfl; exact rfl; (focus (exact look_of rfl))) | ((with_reducible apply E.rP1); exact rfl; exact rfl; (focus (exact look_of rfl))) | ((with_reducible apply E.r2); exact rfl; exact rfl; (focus (exact look_of rfl)); (focus (exact look_of rfl))) | ((with_reducible apply E.rF2); exact rfl; exact rfl; (focus (exact look_of rfl)); (focus (exact look_of rfl))) | ((with_reducible apply E.rP2); exact rfl; exact rfl; (focus (exact look_of rfl)); (focus (exact look_of rfl))) | ((with_reducible apply E.r3); exact rfl; exact rfl; (focus (exact look_of rfl)); (focus (exact look_of rfl)); (focus (exact look_of rfl))) | ((with_reducible apply E.rF3); exact rfl; exact rfl; (focus (exact look_of rfl)); (focus (exact look_of rfl)); (focus (exact look_of rfl))) | ((with_reducible apply E.rP3); exact rfl; exact rfl; (focus (exact look_of rfl)); (focus (exact look_of rfl)); (focus (exact look_of rfl)))))
    | refine R.regs rfl ?_
    | refine R.regsL rfl ?_
    | refine R.regsT rfl ?_
    | refine R.seq ?_
    | refine R.region rfl ?_
    | refine R.block ?_
    | exact rfl
  refine R.loop (fun m e H => ∃ (i : Nat) (st : List T), e = [(1, .p y), (10, .ptr 0 0 0), (11, .fn 25 [] [.ptr 0 0 0]), (33, .p x), (34, .p (.int .i64 code.length)), (35, .p (.int .i64 i))] ∧
      ((st = [] ∧ H = [.box 0 [.p .nils]]) ∨ (st ≠ [] ∧ ∃ o1 o2 ver, H = [.box 0 [.arr 2 ver 3 0 st.length], .box 0 [.p o1, .p o2], .arr ver 0 3 ((pcL vars st).map .p)])) ∧
      i ≤ code.length ∧ m = code.length - i ∧ st.length ≤ i ∧ chk vars.length args st.length i (code.drop i) = (0, 0) ∧ bld (code.drop i) st = [t] ∧ (∀ t ∈ st, okT vars t) ∧ wts st ≤ 140737488355328 * i) code.length
    ⟨0, [], rfl, .inl ⟨rfl, rfl⟩, by omega, rfl, by simp, hc, hb, by simp, by simp [wts]⟩ ?_
  clear hc hb hck
  rintro m e H ⟨i, st, rfl, hH, h2, rfl, hs, hc, hb, hok, hwt⟩
  by_cases hlt : (i : Int) < code.length
  rotate_left 1
  · have e : i = code.length := by omega
    subst e
    rw [List.drop_length] at hb
    simp only [bld] at hb
    subst hb
    rcases hH with ⟨h, _⟩ | ⟨_, o1, o2, ver, rfl⟩
    · cases h
    · simp only [pcL, List.reverse_singleton, List.map_cons, List.map_nil]
      repeat' first
        | with_reducible apply M.free
        | with_reducible apply M.done
        | ((with_reducible apply F.move); exact rfl; exact rfl)
        | ((with_reducible apply F.load); exact rfl; exact rfl; exact rfl)
        | ((with_reducible apply F.cmp); exact rfl; exact rfl; exact rfl; exact rfl)
        | ((with_reducible apply F.assign); exact rfl; exact rfl)
        | ((with_reducible apply F.fieldAddr); exact rfl; exact rfl; exact rfl)
        | ((with_reducible apply F.len); exact rfl; exact rfl; exact rfl; exact rfl)
        | ((with_reducible apply F.extract); exact rfl; exact rfl; exact rfl)
        | ((with_reducible apply F.cmpS); exact rfl; exact rfl; exact rfl; exact rfl)
        | ((first | ((with_reducible apply F.add); exact rfl; exact rfl; exact rfl) | ((with_reducible apply F.adds); exact rfl; exact rfl; exact rfl)); (focus (first | omega | (simp only [List.length_cons, List.length_nil, List.length_append, List.length_take, List.length_drop]; omega))))
        | ((with_reducible apply R.regs); exact rfl)
        | ((with_reducible apply R.regsL); exact rfl)
        | ((with_reducible apply R.regsT); exact rfl)
        | ((with_reducible apply Cut.of); (focus (repeat' (first | exact Kp.nil | (apply Kp.cons; exact rfl)))); (focus ((try simp only [List.take_succ_cons, List.take_zero, List.take_nil, Nat.zero_add, Nat.reduceAdd]) <;> rfl)); (focus (first | exact rfl | (simp [cutOk, lowOb, lowV, lowCell, low_map]; done))))
        | ((with_reducible apply Lv.of); (focus (repeat' (first | exact Kp.nil | (apply Kp.cons; exact rfl)))))
        | ((first | (with_reducible apply R.cond) | ((with_reducible apply M.guard); exact rfl)); (focus (first | (refine Eq.trans (look_of rfl) ?_; first | (simp only [decide_true, decide_false, Bool.not_true, Bool.not_false, *, hl, List.length_map, pieceOf, pc] <;> rfl) | exact rfl) | exact look_of rfl)))
        | refine imp_yes rfl ?_
        | exact imp_no rfl
        | with_reducible apply R.seq
        | ((with_reducible apply R.region); exact rfl)
        | ((with_reducible apply R.regionL); exact rfl)
        | ((with_reducible apply R.regionT); exact rfl)
        | with_reducible apply E.seqN
        | with_reducible apply E.seqX
        | with_reducible apply E.seqR
        | with_reducible apply E.blkN
        | with_reducible apply E.blkR
        | ((with_reducible apply E.blkX); exact rfl)
        | ((with_reducible apply E.blkO); exact rfl)
        | with_reducible apply R.skip
        | with_reducible apply R.ret
        | with_reducible apply R.block
        | with_reducible apply R.exit
        | ((first | ((with_reducible apply F.store); exact rfl; exact rfl; exact rfl; exact rfl) | ((with_reducible apply F.loadS); exact rfl; exact rfl; exact rfl) | ((with_reducible apply F.load2); exact rfl; exact rfl; exact rfl)); (focus (simp (disch := first | assumption | omega | (simp only [List.length_cons, List.length_nil, List.length_append, List.length_take, List.length_drop]; omega)) only [LS, storeV, loadV, partV, partP, cut, over, mkAgg, allP, asP, V.cells, PC, elDiv, elMod, elDiv0, Nat.mul_mod_left, Int.toNat_zero, Int.reduceToNat, *, hl, List.length_map, pieceOf, pc] <;> rfl)))
        | ((first | ((with_reducible apply F.alloc); exact rfl; exact rfl)); (focus (simp only [LS] <;> rfl)); (focus (simp only [LS] <;> rfl)))
        | ((first | ((with_reducible apply F.build); exact rfl; exact rfl; (focus (repeat' (first | exact Prs.nil | (apply Prs.cons; exact rfl))))) | ((with_reducible apply F.buildSlice); exact rfl; exact rfl; (focus (repeat' (first | exact Prs.nil | (apply Prs.cons; exact rfl))))) | ((with_reducible apply F.append); exact rfl; exact rfl; exact rfl; exact rfl; exact rfl; exact rfl; exact rfl; exact rfl) | ((with_reducible apply F.append3); exact rfl; exact rfl; exact rfl; exact rfl; exact rfl; exact rfl; exact rfl; exact rfl)); (focus (simp (disch := first | assumption | omega | (simp only [List.length_cons, List.length_nil, List.length_append, List.length_take, List.length_drop]; omega)) only [LS, buildV, fillV, over, buildSliceV, elemsOf, appendV, elems, arrAt, cut, roomy, mkAgg, allP, asP, V.cells, PC, Int.toNat_zero, Int.reduceToNat, *, hl, List.length_map, pieceOf, pc] <;> rfl)))
        | ((first | ((with_reducible apply F.indexAddr); exact rfl; exact rfl; exact rfl; exact rfl) | ((with_reducible apply F.len); exact rfl; exact rfl; exact rfl)); (focus (simp (disch := first | assumption | omega | (simp only [List.length_cons, List.length_nil, List.length_append, List.length_take, List.length_drop]; omega)) only [LS, lenV_L, idx_L, below_at, Int.toNat_zero, Int.reduceToNat, *, hl, List.length_map, pieceOf, pc] <;> rfl)))
        | ((first | ((with_reducible apply F.indexAddr); exact rfl; exact rfl; exact rfl; exact rfl) | ((with_reducible apply F.makeFunc); exact rfl; (focus (repeat' (first | exact Evs.nil | (apply Evs.cons; exact rfl)))); (focus (repeat' (first | exact Evs.nil | (apply Evs.cons; exact rfl))))) | ((with_reducible apply F.fieldAddrS); exact rfl; exact rfl; exact rfl) | ((with_reducible apply F.bin); exact rfl; exact rfl; exact rfl; exact rfl)); (focus (simp (disch := first | assumption | omega | (simp only [List.length_cons, List.length_nil, List.length_append, List.length_take, List.length_drop]; omega)) only [LS, indexAddrV, indexV, below_at, fieldV, fieldAddrV, convP, bytesOf, sliceV, bounds, bMax, bHi, bLo, upTo_at, makeFuncV, partV, partP, cut, binI, binS, binV, binP, arith, strOp_add, strOp_eql, strOp_neq, eqn, wrap64, wrap8, mkAgg, allP, asP, Option.getD_none, Int.toNat_zero, Int.reduceToNat, *, hl, List.length_map, pieceOf, pc] <;> rfl)))
        | ((first | ((with_reducible apply F.assignF); exact rfl; exact rfl) | ((with_reducible apply F.append2); exact rfl; exact rfl; exact rfl; exact rfl; exact rfl; exact rfl; exact rfl; exact rfl)); (focus (simp (disch := first | assumption | omega | (simp only [List.length_cons, List.length_nil, List.length_append, List.length_take, List.length_drop]; omega)) only [LS, frzCells, frz, markCells, mark, elems, arrAt, cut, allP, asP, appendV, V.cells, PC, roomy, Int.toNat_zero, Int.reduceToNat, *, hl, List.length_map, pieceOf, pc] <;> rfl)); (focus (simp (disch := first | assumption | omega | (simp only [List.length_cons, List.length_nil, List.length_append, List.length_take, List.length_drop]; omega)) only [LS, frzCells, frz, markCells, mark, elems, arrAt, cut, allP, asP, appendV, V.cells, PC, roomy, Int.toNat_zero, Int.reduceToNat, *, hl, List.length_map, pieceOf, pc] <;> rfl)))
        | (intro hc; (try rw [hc]); (try simp only [decide_eq_true_eq, decide_eq_false_iff_not, Bool.not_eq_eq_eq_not, Bool.not_true, Bool.not_false] at hc); (try (exfalso; omega)))
        | ((with_reducible apply E.r0); exact rfl; exact rfl)
        | ((first | ((with_reducible apply E.r1); exact rfl; exact rfl; (focus (exact look_of rfl))) | ((with_reducible apply E.rF1); exact rfl; exact rfl; (focus (exact look_of rfl))) | ((with_reducible apply E.rP1); exact rfl; exact rfl; (focus (exact look_of rfl))) | ((with_reducible apply E.r2); exact rfl; exact rfl; (focus (exact look_of rfl)); (focus (exact look_of rfl))) | ((with_reducible apply E.rF2); exact rfl; exact rfl; (focus (exact look_of rfl)); (focus (exact look_of rfl))) | ((with_reducible apply E.rP2); exact rfl; exact rfl; (focus (exact look_of rfl)); (focus (exact look_of rfl))) | ((with_reducible apply E.r3); exact rfl; exact rfl; (focus (exact look_of rfl)); (focus (exact look_of rfl)); (focus (exact look_of rfl))) | ((with_reducible apply E.rF3); exact rfl; exact rfl; (focus (exact look_of rfl)); (focus (exact look_of rfl)); (focus (exact look_of rfl))) | ((with_reducible apply E.rP3); exact rfl; exact rfl; (focus (exact look_of rfl)); (focus (exact look_of rfl)); (focus (exact look_of rfl)))))
        | refine R.regs rfl ?_
        | refine R.regsL rfl ?_
        | refine R.regsT rfl ?_
        | refine R.seq ?_
        | refine R.region rfl ?_
        | refine R.block ?_
        | exact rfl
  obtain ⟨a, hcode⟩ : ∃ b, code[i]? = some b := ⟨code[i]'(by omega), by simp⟩
  rw [drop_at hcode] at hc hb
  obtain ⟨c1, c2, c3, c4⟩ := chk_step hc
  have hpl := push_len a st c1 c3
  have hpo := push_ok vars args ha a st c1 c3 c2 hok
  simp only [bld] at hb
  have hend : ∀ (o1 o2 : Pv) (ver n : Nat) (es : List V), n = (pushT a st).length → es = (pcL vars (pushT a st)).map .p → ∃ k, k < code.length - i ∧ ∃ (i' : Nat) (st'' : List T), ([(1, .p y), (10, .ptr 0 0 0), (11, .fn 25 [] [.ptr 0 0 0]), (33, .p x), (34, .p (.int .i64 code.length)), (35, .p (.int .i64 ((i : Int) + 1)))] : Env) = [(1, .p y), (10, .ptr 0 0 0), (11, .fn 25 [] [.ptr 0 0 0]), (33, .p x), (34, .p (.int .i64 code.length)), (35, .p (.int .i64 i'))] ∧
      ((st'' = [] ∧ ([.box 0 [.arr 2 ver 3 0 n], .box 0 [.p o1, .p o2], .arr ver 0 3 es] : Hp) = [.box 0 [.p .nils]]) ∨ (st'' ≠ [] ∧ ∃ o1' o2' ver', ([.box 0 [.arr 2 ver 3 0 n], .box 0 [.p o1, .p o2], .arr ver 0 3 es] : Hp) = [.box 0 [.arr 2 ver' 3 0 st''.length], .box 0 [.p o1', .p o2'], .arr ver' 0 3 ((pcL vars st'').map .p)])) ∧
      i' ≤ code.length ∧ k = code.length - i' ∧ st''.length ≤ i' ∧ chk vars.length args st''.length i' (code.drop i') = (0, 0) ∧ bld (code.drop i') st'' = [t] ∧ (∀ t ∈ st'', okT vars t) ∧ wts st'' ≤ 140737488355328 * i' :=
    fun o1 o2 ver n es hn hes => ⟨code.length - (i + 1), by omega, i + 1, pushT a st, rfl, .inr ⟨fun h => by have := congrArg List.length h; simp only [List.length_nil] at this; omega, o1, o2, ver, by rw [hn, hes]⟩, by omega, rfl, by omega, by rw [hpl]; exact c4, hb, hpo.1, by omega⟩
  clear hb c4 hc
  have h120 : takesF a.op = if 1 ≤ a.op ∧ a.op ≤ 3 then 0 else if a.op = 4 ∨ a.op = 5 then 1 else if 6 ≤ a.op ∧ a.op ≤ 15 then 2 else if a.op = 16 then 3 else -1 := rfl
  have hop : 1 ≤ a.op ∧ a.op ≤ 16 := by
    (repeat' split at h120) <;> omega
  have hleaf : takesF a.op = 0 → pushT a st = .leaf a :: st := fun h => by simp [pushT, h]
  by_cases h3 : a.op ≤ 3
  · have ht0 : takesF a.op = 0 := by rw [h120, if_pos (by omega)]
    have hpush := hleaf ht0
    have hokl : okT vars (.leaf a) := hpo.1 _ (by rw [hpush]; simp)
    have hlf := (leaf_run hy hvl a hokl).fv
    rw [hpush] at hend
    clear hpo hpl hpush hleaf h120 hok c1 c2 c3
    obtain ⟨op, n⟩ := a
    have hop3 : op = 1 ∨ op = 2 ∨ op = 3 := by simp only at hop h3; omega
    rcases hH with ⟨hst, rfl⟩ | ⟨hst, o1, o2, ver, rfl⟩
    · subst hst
      rcases hop3 with rfl | rfl | rfl
      all_goals
        repeat' first
          | with_reducible apply M.free
          | with_reducible apply M.done
          | ((with_reducible apply F.move); exact rfl; exact rfl)
          | ((with_reducible apply F.load); exact rfl; exact rfl; exact rfl)
          | ((with_reducible apply F.cmp); exact rfl; exact rfl; exact rfl; exact rfl)
          | ((with_reducible apply F.assign); exact rfl; exact rfl)
          | ((with_reducible apply F.fieldAddr); exact rfl; exact rfl; exact rfl)
          | ((with_reducible apply F.len); exact rfl; exact rfl; exact rfl; exact rfl)
          | ((with_reducible apply F.extract); exact rfl; exact rfl; exact rfl)
          | ((with_reducible apply F.cmpS); exact rfl; exact rfl; exact rfl; exact rfl)
          | ((first | ((with_reducible apply F.add); exact rfl; exact rfl; exact rfl) | ((with_reducible apply F.adds); exact rfl; exact rfl; exact rfl)); (focus (first | omega | (simp only [List.length_cons, List.length_nil, List.length_append, List.length_take, List.length_drop]; omega))))
          | ((with_reducible apply R.regs); exact rfl)
          | ((with_reducible apply R.regsL); exact rfl)
          | ((with_reducible apply R.regsT); exact rfl)
          | ((with_reducible apply Cut.of); (focus (repeat' (first | exact Kp.nil | (apply Kp.cons; exact rfl)))); (focus ((try simp only [List.take_succ_cons, List.take_zero, List.take_nil, Nat.zero_add, Nat.reduceAdd]) <;> rfl)); (focus (first | exact rfl | (simp [cutOk, lowOb, lowV, lowCell, low_map]; done))))
          | ((with_reducible apply Lv.of); (focus (repeat' (first | exact Kp.nil | (apply Kp.cons; exact rfl)))))
          | ((with_reducible apply F.call0); exact rfl; exact rfl; (focus (repeat' (first | exact Evs.nil | (apply Evs.cons; exact rfl)))); exact rfl; (focus (first | exact hlf)))
          | ((first | (with_reducible apply R.cond) | ((with_reducible apply M.guard); exact rfl)); (focus (first | (refine Eq.trans (look_of rfl) ?_; first | (simp only [decide_true, decide_false, Bool.not_true, Bool.not_false, *, hl, hcode, List.length_map, List.getElem?_map, Ins.pv, pieceOf, pc] <;> rfl) | exact rfl) | exact look_of rfl)))
          | refine imp_yes rfl ?_
          | exact imp_no rfl
          | with_reducible apply R.seq
          | ((with_reducible apply R.region); exact rfl)
          | ((with_reducible apply R.regionL); exact rfl)
          | ((with_reducible apply R.regionT); exact rfl)
          | with_reducible apply E.seqN
          | with_reducible apply E.seqX
          | with_reducible apply E.seqR
          | with_reducible apply E.blkN
          | with_reducible apply E.blkR
          | ((with_reducible apply E.blkX); exact rfl)
          | ((with_reducible apply E.blkO); exact rfl)
          | with_reducible apply R.skip
          | with_reducible apply R.ret
          | with_reducible apply R.block
          | with_reducible apply R.exit
          | ((first | ((with_reducible apply F.store); exact rfl; exact rfl; exact rfl; exact rfl) | ((with_reducible apply F.loadS); exact rfl; exact rfl; exact rfl) | ((with_reducible apply F.load2); exact rfl; exact rfl; exact rfl)); (focus (simp (disch := first | assumption | omega | (simp only [List.length_cons, List.length_nil, List.length_append, List.length_take, List.length_drop]; omega)) only [LS, storeV, loadV, partV, partP, cut, over, mkAgg, allP, asP, V.cells, PC, elDiv, elMod, elDiv0, Nat.mul_mod_left, Int.toNat_zero, Int.reduceToNat, *, hl, hcode, List.length_map, List.getElem?_map, Ins.pv, pieceOf, pc] <;> rfl)))
          | ((first | ((with_reducible apply F.alloc); exact rfl; exact rfl)); (focus (simp only [LS] <;> rfl)); (focus (simp only [LS] <;> rfl)))
          | ((first | ((with_reducible apply F.build); exact rfl; exact rfl; (focus (repeat' (first | exact Prs.nil | (apply Prs.cons; exact rfl))))) | ((with_reducible apply F.buildSlice); exact rfl; exact rfl; (focus (repeat' (first | exact Prs.nil | (apply Prs.cons; exact rfl))))) | ((with_reducible apply F.append); exact rfl; exact rfl; exact rfl; exact rfl; exact rfl; exact rfl; exact rfl; exact rfl) | ((with_reducible apply F.append3); exact rfl; exact rfl; exact rfl; exact rfl; exact rfl; exact rfl; exact rfl; exact rfl)); (focus (simp (disch := first | assumption | omega | (simp only [List.length_cons, List.length_nil, List.length_append, List.length_take, List.length_drop]; omega)) only [LS, buildV, fillV, over, buildSliceV, elemsOf, appendV, elems, arrAt, cut, roomy, mkAgg, allP, asP, V.cells, PC, Int.toNat_zero, Int.reduceToNat, *, hl, hcode, List.length_map, List.getElem?_map, Ins.pv, pieceOf, pc] <;> rfl)))
          | ((first | ((with_reducible apply F.indexAddr); exact rfl; exact rfl; exact rfl; exact rfl) | ((with_reducible apply F.len); exact rfl; exact rfl; exact rfl)); (focus (simp (disch := first | assumption | omega | (simp only [List.length_cons, List.length_nil, List.length_append, List.length_take, List.length_drop]; omega)) only [LS, lenV_L, idx_L, below_at, Int.toNat_zero, Int.reduceToNat, *, hl, hcode, List.length_map, List.getElem?_map, Ins.pv, pieceOf, pc] <;> rfl)))
          | ((first | ((with_reducible apply F.indexAddr); exact rfl; exact rfl; exact rfl; exact rfl) | ((with_reducible apply F.makeFunc); exact rfl; (focus (repeat' (first | exact Evs.nil | (apply Evs.cons; exact rfl)))); (focus (repeat' (first | exact Evs.nil | (apply Evs.cons; exact rfl))))) | ((with_reducible apply F.fieldAddrS); exact rfl; exact rfl; exact rfl) | ((with_reducible apply F.bin); exact rfl; exact rfl; exact rfl; exact rfl)); (focus (simp (disch := first | assumption | omega | (simp only [List.length_cons, List.length_nil, List.length_append, List.length_take, List.length_drop]; omega)) only [LS, indexAddrV, indexV, below_at, fieldV, fieldAddrV, convP, bytesOf, sliceV, bounds, bMax, bHi, bLo, upTo_at, makeFuncV, partV, partP, cut, binI, binS, binV, binP, arith, strOp_add, strOp_eql, strOp_neq, eqn, wrap64, wrap8, mkAgg, allP, asP, Option.getD_none, Int.toNat_zero, Int.reduceToNat, *, hl, hcode, List.length_map, List.getElem?_map, Ins.pv, pieceOf, pc] <;> rfl)))
          | ((first | ((with_reducible apply F.assignF); exact rfl; exact rfl) | ((with_reducible apply F.append2); exact rfl; exact rfl; exact rfl; exact rfl; exact rfl; exact rfl; exact rfl; exact rfl)); (focus (simp (disch := first | assumption | omega | (simp only [List.length_cons, List.length_nil, List.length_append, List.length_take, List.length_drop]; omega)) only [LS, frzCells, frz, markCells, mark, elems, arrAt, cut, allP, asP, appendV, V.cells, PC, roomy, Int.toNat_zero, Int.reduceToNat, *, hl, hcode, List.length_map, List.getElem?_map, Ins.pv, pieceOf, pc] <;> rfl)); (focus (simp (disch := first | assumption | omega | (simp only [List.length_cons, List.length_nil, List.length_append, List.length_take, List.length_drop]; omega)) only [LS, frzCells, frz, markCells, mark, elems, arrAt, cut, allP, asP, appendV, V.cells, PC, roomy, Int.toNat_zero, Int.reduceToNat, *, hl, hcode, List.length_map, List.getElem?_map, Ins.pv, pieceOf, pc] <;> rfl)))
          | (intro hc; (try rw [hc]); (try simp only [decide_eq_true_eq, decide_eq_false_iff_not, Bool.not_eq_eq_eq_not, Bool.not_true, Bool.not_false] at hc); (try (exfalso; omega)))
          | ((with_reducible apply E.r0); exact rfl; exact rfl)
          | ((first | ((with_reducible apply E.r1); exact rfl; exact rfl; (focus (exact look_of rfl))) | ((with_reducible apply E.rF1); exact rfl; exact rfl; (focus (exact look_of rfl))) | ((with_reducible apply E.rP1); exact rfl; exact rfl; (focus (exact look_of rfl))) | ((with_reducible apply E.r2); exact rfl; exact rfl; (focus (exact look_of rfl)); (focus (exact look_of rfl))) | ((with_reducible apply E.rF2); exact rfl; exact rfl; (focus (exact look_of rfl)); (focus (exact look_of rfl))) | ((with_reducible apply E.rP2); exact rfl; exact rfl; (focus (exact look_of rfl)); (focus (exact look_of rfl))) | ((with_reducible apply E.r3); exact rfl; exact rfl; (focus (exact look_of rfl)); (focus (exact look_of rfl)); (focus (exact look_of rfl))) | ((with_reducible apply E.rF3); exact rfl; exact rfl; (focus (exact look_of rfl)); (focus (exact look_of rfl)); (focus (exact look_of rfl))) | ((with_reducible apply E.rP3); exact rfl; exact rfl; (focus (exact look_of rfl)); (focus (exact look_of rfl)); (focus (exact look_of rfl)))))
          | refine R.regs rfl ?_
          | refine R.regsL rfl ?_
          | refine R.regsT rfl ?_
          | refine R.seq ?_
          | refine R.region rfl ?_
          | refine R.block ?_
          | exact rfl
      all_goals exact hend _ _ _ _ _ rfl rfl
    · have hcut : cut (List.map V.p (pcL vars st)) 0 st.length = some (List.map V.p (pcL vars st)) := cut_all (by simp [pcL])
      have hsl : st.length ≤ 31 := by omega
      rcases hop3 with rfl | rfl | rfl
      all_goals
        repeat' first
          | with_reducible apply M.free
          | with_reducible apply M.done
          | ((with_reducible apply F.move); exact rfl; exact rfl)
          | ((with_reducible apply F.load); exact rfl; exact rfl; exact rfl)
          | ((with_reducible apply F.cmp); exact rfl; exact rfl; exact rfl; exact rfl)
          | ((with_reducible apply F.assign); exact rfl; exact rfl)
          | ((with_reducible apply F.fieldAddr); exact rfl; exact rfl; exact rfl)
          | ((with_reducible apply F.len); exact rfl; exact rfl; exact rfl; exact rfl)
          | ((with_reducible apply F.extract); exact rfl; exact rfl; exact rfl)
          | ((with_reducible apply F.cmpS); exact rfl; exact rfl; exact rfl; exact rfl)
          | ((first | ((with_reducible apply F.add); exact rfl; exact rfl; exact rfl) | ((with_reducible apply F.adds); exact rfl; exact rfl; exact rfl)); (focus (first | omega | (simp only [List.length_cons, List.length_nil, List.length_append, List.length_take, List.length_drop]; omega))))
          | ((with_reducible apply R.regs); exact rfl)
          | ((with_reducible apply R.regsL); exact rfl)
          | ((with_reducible apply R.regsT); exact rfl)
          | ((with_reducible apply Cut.of); (focus (repeat' (first | exact Kp.nil | (apply Kp.cons; exact rfl)))); (focus ((try simp only [List.take_succ_cons, List.take_zero, List.take_nil, Nat.zero_add, Nat.reduceAdd]) <;> rfl)); (focus (first | exact rfl | (simp [cutOk, lowOb, lowV, lowCell, low_map]; done))))
          | ((with_reducible apply Lv.of); (focus (repeat' (first | exact Kp.nil | (apply Kp.cons; exact rfl)))))
          | ((with_reducible apply F.call0); exact rfl; exact rfl; (focus (repeat' (first | exact Evs.nil | (apply Evs.cons; exact rfl)))); exact rfl; (focus (first | exact hlf)))
          | ((first | (with_reducible apply R.cond) | ((with_reducible apply M.guard); exact rfl)); (focus (first | (refine Eq.trans (look_of rfl) ?_; first | (simp only [decide_true, decide_false, Bool.not_true, Bool.not_false, *, hl, hcode, List.length_map, List.getElem?_map, Ins.pv, pieceOf, pc] <;> rfl) | exact rfl) | exact look_of rfl)))
          | refine imp_yes rfl ?_
          | exact imp_no rfl
          | with_reducible apply R.seq
          | ((with_reducible apply R.region); exact rfl)
          | ((with_reducible apply R.regionL); exact rfl)
          | ((with_reducible apply R.regionT); exact rfl)
          | with_reducible apply E.seqN
          | with_reducible apply E.seqX
          | with_reducible apply E.seqR
          | with_reducible apply E.blkN
          | with_reducible apply E.blkR
          | ((with_reducible apply E.blkX); exact rfl)
          | ((with_reducible apply E.blkO); exact rfl)
          | with_reducible apply R.skip
          | with_reducible apply R.ret
          | with_reducible apply R.block
          | with_reducible apply R.exit
          | ((with_reducible apply F.append); exact rfl; exact rfl; exact rfl; exact rfl; exact rfl; exact rfl; exact rfl; exact rfl; (focus (refine Eq.trans (append_arr (by simp) (by decide) (fun p hp => by simp only [List.mem_singleton] at hp; subst hp; rfl) rfl hcut (Nat.zero_le _) (by simp only [List.length_cons, List.length_nil]; omega) (by decide)) ?_; simp only [List.length_cons, List.length_nil, List.cons_append, List.nil_append, List.set_cons_zero, List.set_cons_succ, List.map_cons, List.map_nil, Nat.zero_add, Nat.reduceAdd, Nat.sub_zero]; rfl)))
          | ((first | ((with_reducible apply F.store); exact rfl; exact rfl; exact rfl; exact rfl) | ((with_reducible apply F.loadS); exact rfl; exact rfl; exact rfl) | ((with_reducible apply F.load2); exact rfl; exact rfl; exact rfl)); (focus (simp (disch := first | assumption | omega | (simp only [List.length_cons, List.length_nil, List.length_append, List.length_take, List.length_drop]; omega)) only [LS, storeV, loadV, partV, partP, cut, over, mkAgg, allP, asP, V.cells, PC, elDiv, elMod, elDiv0, Nat.mul_mod_left, Int.toNat_zero, Int.reduceToNat, *, hl, hcode, List.length_map, List.getElem?_map, Ins.pv, pieceOf, pc] <;> rfl)))
          | ((first | ((with_reducible apply F.alloc); exact rfl; exact rfl)); (focus (simp only [LS] <;> rfl)); (focus (simp only [LS] <;> rfl)))
          | ((first | ((with_reducible apply F.build); exact rfl; exact rfl; (focus (repeat' (first | exact Prs.nil | (apply Prs.cons; exact rfl))))) | ((with_reducible apply F.buildSlice); exact rfl; exact rfl; (focus (repeat' (first | exact Prs.nil | (apply Prs.cons; exact rfl))))) | ((with_reducible apply F.append); exact rfl; exact rfl; exact rfl; exact rfl; exact rfl; exact rfl; exact rfl; exact rfl) | ((with_reducible apply F.append3); exact rfl; exact rfl; exact rfl; exact rfl; exact rfl; exact rfl; exact rfl; exact rfl)); (focus (simp (disch := first | assumption | omega | (simp only [List.length_cons, List.length_nil, List.length_append, List.length_take, List.length_drop]; omega)) only [LS, buildV, fillV, over, buildSliceV, elemsOf, appendV, elems, arrAt, cut, roomy, mkAgg, allP, asP, V.cells, PC, Int.toNat_zero, Int.reduceToNat, *, hl, hcode, List.length_map, List.getElem?_map, Ins.pv, pieceOf, pc] <;> rfl)))
          | ((first | ((with_reducible apply F.indexAddr); exact rfl; exact rfl; exact rfl; exact rfl) | ((with_reducible apply F.len); exact rfl; exact rfl; exact rfl)); (focus (simp (disch := first | assumption | omega | (simp only [List.length_cons, List.length_nil, List.length_append, List.length_take, List.length_drop]; omega)) only [LS, lenV_L, idx_L, below_at, Int.toNat_zero, Int.reduceToNat, *, hl, hcode, List.length_map, List.getElem?_map, Ins.pv, pieceOf, pc] <;> rfl)))
          | ((first | ((with_reducible apply F.indexAddr); exact rfl; exact rfl; exact rfl; exact rfl) | ((with_reducible apply F.makeFunc); exact rfl; (focus (repeat' (first | exact Evs.nil | (apply Evs.cons; exact rfl)))); (focus (repeat' (first | exact Evs.nil | (apply Evs.cons; exact rfl))))) | ((with_reducible apply F.fieldAddrS); exact rfl; exact rfl; exact rfl) | ((with_reducible apply F.bin); exact rfl; exact rfl; exact rfl; exact rfl)); (focus (simp (disch := first | assumption | omega | (simp only [List.length_cons, List.length_nil, List.length_append, List.length_take, List.length_drop]; omega)) only [LS, indexAddrV, indexV, below_at, fieldV, fieldAddrV, convP, bytesOf, sliceV, bounds, bMax, bHi, bLo, upTo_at, makeFuncV, partV, partP, cut, binI, binS, binV, binP, arith, strOp_add, strOp_eql, strOp_neq, eqn, wrap64, wrap8, mkAgg, allP, asP, Option.getD_none, Int.toNat_zero, Int.reduceToNat, *, hl, hcode, List.length_map, List.getElem?_map, Ins.pv, pieceOf, pc] <;> rfl)))
          | ((first | ((with_reducible apply F.assignF); exact rfl; exact rfl) | ((with_reducible apply F.append2); exact rfl; exact rfl; exact rfl; exact rfl; exact rfl; exact rfl; exact rfl; exact rfl)); (focus (simp (disch := first | assumption | omega | (simp only [List.length_cons, List.length_nil, List.length_append, List.length_take, List.length_drop]; omega)) only [LS, frzCells, frz, markCells, mark, elems, arrAt, cut, allP, asP, appendV, V.cells, PC, roomy, Int.toNat_zero, Int.reduceToNat, *, hl, hcode, List.length_map, List.getElem?_map, Ins.pv, pieceOf, pc] <;> rfl)); (focus (simp (disch := first | assumption | omega | (simp only [List.length_cons, List.length_nil, List.length_append, List.length_take, List.length_drop]; omega)) only [LS, frzCells, frz, markCells, mark, elems, arrAt, cut, allP, asP, appendV, V.cells, PC, roomy, Int.toNat_zero, Int.reduceToNat, *, hl, hcode, List.length_map, List.getElem?_map, Ins.pv, pieceOf, pc] <;> rfl)))
          | (intro hc; (try rw [hc]); (try simp only [decide_eq_true_eq, decide_eq_false_iff_not, Bool.not_eq_eq_eq_not, Bool.not_true, Bool.not_false] at hc); (try (exfalso; omega)))
          | ((with_reducible apply E.r0); exact rfl; exact rfl)
          | ((first | ((with_reducible apply E.r1); exact rfl; exact rfl; (focus (exact look_of rfl))) | ((with_reducible apply E.rF1); exact rfl; exact rfl; (focus (exact look_of rfl))) | ((with_reducible apply E.rP1); exact rfl; exact rfl; (focus (exact look_of rfl))) | ((with_reducible apply E.r2); exact rfl; exact rfl; (focus (exact look_of rfl)); (focus (exact look_of rfl))) | ((with_reducible apply E.rF2); exact rfl; exact rfl; (focus (exact look_of rfl)); (focus (exact look_of rfl))) | ((with_reducible apply E.rP2); exact rfl; exact rfl; (focus (exact look_of rfl)); (focus (exact look_of rfl))) | ((with_reducible apply E.r3); exact rfl; exact rfl; (focus (exact look_of rfl)); (focus (exact look_of rfl)); (focus (exact look_of rfl))) | ((with_reducible apply E.rF3); exact rfl; exact rfl; (focus (exact look_of rfl)); (focus (exact look_of rfl)); (focus (exact look_of rfl))) | ((with_reducible apply E.rP3); exact rfl; exact rfl; (focus (exact look_of rfl)); (focus (exact look_of rfl)); (focus (exact look_of rfl)))))
          | refine R.regs rfl ?_
          | refine R.regsL rfl ?_
          | refine R.regsT rfl ?_
          | refine R.seq ?_
          | refine R.region rfl ?_
          | refine R.block ?_
          | exact rfl
      all_goals exact hend _ _ _ _ _ rfl (by simp [pcL, pieceOf, pc])
  have hne : st ≠ [] := by
    rintro rfl
    have : 1 ≤ takesF a.op := by
      rw [h120, if_neg (by omega)]
      (repeat' split) <;> omega
    simp only [List.length_nil] at c3
    omega
  obtain ⟨-, o1, o2, ver, rfl⟩ := hH.resolve_left (fun h => hne h.1)
  clear hH
  have hsl : st.length ≤ 31 := by omega
  have hw1 : ∀ t ∈ st, (plainF vars t).length ≤ 4503599627370496 := fun t ht => by
    have h1 := plain_len hv t (hok t ht)
    have h2 := mem_wts ht
    omega
  obtain ⟨op, n⟩ := a
  simp only at h3 hop h120
  by_cases h45 : op = 4 ∨ op = 5
  · have ht1 : takesF op = 1 := by rw [h120, if_neg (by omega), if_pos h45]
    obtain ⟨a1, r, rfl⟩ : ∃ a1 r, st = a1 :: r := by
      cases st with
      | nil => exact absurd rfl hne
      | cons a r => exact ⟨a, r, rfl⟩
    have hpush : pushT ⟨op, n⟩ (a1 :: r) = .un ⟨op, n⟩ a1 :: r := by simp [pushT, ht1]
    rw [hpush] at hend
    have hok1 := hok a1 (by simp)
    have hlen1 := hw1 a1 (by simp)
    have hE1 : (List.map V.p (pcL vars (a1 :: r)))[r.length]? = some (.p (pc (plainF vars a1) (48 + a1.rank) (bareT a1))) := by simp [pcL, pieceOf]
    have hcut : cut (List.map V.p (pcL vars (a1 :: r))) 0 r.length = some (List.map V.p (pcL vars r)) := by
      have : List.map V.p (pcL vars (a1 :: r)) = List.map V.p (pcL vars r) ++ [V.p (pieceOf vars a1)] := by simp [pcL]
      rw [this]
      exact cut_pre (by simp [pcL])
    have hTake := fun o2' o3 => take_run ver 1 (r.length + 1) (by omega) (by simp only [List.length_cons] at hsl; omega) (by decide) (.box 0 [.p o1, .p o2]) o2' o3
    simp only [Nat.add_sub_cancel] at hTake
    have g1 := held_len (plainF vars a1) 0 54
    have g2 := held_len (plainF vars a1) (48 + a1.rank) 54
    have hrl : r.length ≤ 30 := by simp only [List.length_cons] at hsl; omega
    simp only [pc] at hE1
    have hH1 := (held_run (plainF vars a1) (by omega) 0 54 (bareT a1)).fv
    have hH2 := (held_run (plainF vars a1) (by omega) (48 + a1.rank) 54 (bareT a1)).fv
    have hP4 : pieceOf vars (.un ⟨4, n⟩ a1) = .agg [.str (45 :: heldF (plainF vars a1) (if bareT a1 = true then 0 else 48 + a1.rank) 54), .int .u8 54, .bool false] := by rw [← un_neg n a1 hok1]; rfl
    have hP5 : pieceOf vars (.un ⟨5, n⟩ a1) = .agg [.str (33 :: heldF (plainF vars a1) (48 + a1.rank) 54), .int .u8 54, .bool false] := by rw [← un_not n a1]; rfl
    have hlc : (a1 :: r).length = r.length + 1 := rfl
    rw [hlc]
    generalize List.map V.p (pcL vars (a1 :: r)) = es at *
    clear hpo hpl hpush hleaf h120 hok c1 c2 c3 hw1 hlc
    rcases h45 with rfl | rfl
    · by_cases hbare : bareT a1 = true
      · rw [hbare] at hE1 hH1 hH2
        rw [if_pos hbare] at hP4
        repeat' first
          | with_reducible apply M.free
          | with_reducible apply M.done
          | ((with_reducible apply F.move); exact rfl; exact rfl)
          | ((with_reducible apply F.load); exact rfl; exact rfl; exact rfl)
          | ((with_reducible apply F.cmp); exact rfl; exact rfl; exact rfl; exact rfl)
          | ((with_reducible apply F.assign); exact rfl; exact rfl)
          | ((with_reducible apply F.fieldAddr); exact rfl; exact rfl; exact rfl)
          | ((with_reducible apply F.len); exact rfl; exact rfl; exact rfl; exact rfl)
          | ((with_reducible apply F.extract); exact rfl; exact rfl; exact rfl)
          | ((with_reducible apply F.cmpS); exact rfl; exact rfl; exact rfl; exact rfl)
          | ((first | ((with_reducible apply F.add); exact rfl; exact rfl; exact rfl) | ((with_reducible apply F.adds); exact rfl; exact rfl; exact rfl)); (focus (first | omega | (simp only [List.length_cons, List.length_nil, List.length_append, List.length_take, List.length_drop]; omega))))
          | ((with_reducible apply R.regs); exact rfl)
          | ((with_reducible apply R.regsL); exact rfl)
          | ((with_reducible apply R.regsT); exact rfl)
          | ((with_reducible apply Cut.of); (focus (repeat' (first | exact Kp.nil | (apply Kp.cons; exact rfl)))); (focus ((try simp only [List.take_succ_cons, List.take_zero, List.take_nil, Nat.zero_add, Nat.reduceAdd]) <;> rfl)); (focus (first | exact rfl | (simp [cutOk, lowOb, lowV, lowCell, low_map]; done))))
          | ((with_reducible apply Lv.of); (focus (repeat' (first | exact Kp.nil | (apply Kp.cons; exact rfl)))))
          | ((with_reducible apply F.call0); exact rfl; exact rfl; (focus (repeat' (first | exact Evs.nil | (apply Evs.cons; exact rfl)))); exact rfl; (focus (first | exact hH1)))
          | ((first | ((with_reducible apply F.call1); exact rfl; exact rfl; (focus (repeat' (first | exact Evs.nil | (apply Evs.cons; exact rfl))))) | ((with_reducible apply F.call1N); exact rfl; exact rfl; (focus (repeat' (first | exact Evs.nil | (apply Evs.cons; exact rfl))))) | ((with_reducible apply F.callC); exact rfl; exact rfl; (focus (repeat' (first | exact Evs.nil | (apply Evs.cons; exact rfl))))) | ((with_reducible apply F.callCN); exact rfl; exact rfl; (focus (repeat' (first | exact Evs.nil | (apply Evs.cons; exact rfl)))))); (focus (first | exact hTake _ _)))
          | ((first | (with_reducible apply R.cond) | ((with_reducible apply M.guard); exact rfl)); (focus (first | (refine Eq.trans (look_of rfl) ?_; first | (simp only [decide_true, decide_false, Bool.not_true, Bool.not_false, *, hl, hcode, List.length_map, List.getElem?_map, Ins.pv, pc] <;> rfl) | exact rfl) | exact look_of rfl)))
          | refine imp_yes rfl ?_
          | exact imp_no rfl
          | with_reducible apply R.seq
          | ((with_reducible apply R.region); exact rfl)
          | ((with_reducible apply R.regionL); exact rfl)
          | ((with_reducible apply R.regionT); exact rfl)
          | with_reducible apply E.seqN
          | with_reducible apply E.seqX
          | with_reducible apply E.seqR
          | with_reducible apply E.blkN
          | with_reducible apply E.blkR
          | ((with_reducible apply E.blkX); exact rfl)
          | ((with_reducible apply E.blkO); exact rfl)
          | with_reducible apply R.skip
          | with_reducible apply R.ret
          | with_reducible apply R.block
          | with_reducible apply R.exit
          | ((with_reducible apply F.append); exact rfl; exact rfl; exact rfl; exact rfl; exact rfl; exact rfl; exact rfl; exact rfl; (focus (refine Eq.trans (append_arr (by simp) (by decide) (fun p hp => by simp only [List.mem_singleton] at hp; subst hp; rfl) rfl hcut (Nat.zero_le _) (by simp only [List.length_cons, List.length_nil]; omega) (by decide)) ?_; simp only [List.length_cons, List.length_nil, List.cons_append, List.nil_append, List.set_cons_zero, List.set_cons_succ, List.map_cons, List.map_nil, Nat.zero_add, Nat.reduceAdd, Nat.sub_zero]; rfl)))
          | ((first | ((with_reducible apply F.store); exact rfl; exact rfl; exact rfl; exact rfl) | ((with_reducible apply F.loadS); exact rfl; exact rfl; exact rfl) | ((with_reducible apply F.load2); exact rfl; exact rfl; exact rfl)); (focus (simp (disch := first | assumption | omega | (simp only [List.length_cons, List.length_nil, List.length_append, List.length_take, List.length_drop]; omega)) only [LS, storeV, loadV, partV, partP, cut, over, mkAgg, allP, asP, V.cells, PC, elDiv, elMod, elDiv0, Nat.mul_mod_left, Int.toNat_zero, Int.reduceToNat, *, hl, hcode, List.length_map, List.getElem?_map, Ins.pv, pc] <;> rfl)))
          | ((first | ((with_reducible apply F.alloc); exact rfl; exact rfl)); (focus (simp only [LS] <;> rfl)); (focus (simp only [LS] <;> rfl)))
          | ((first | ((with_reducible apply F.build); exact rfl; exact rfl; (focus (repeat' (first | exact Prs.nil | (apply Prs.cons; exact rfl))))) | ((with_reducible apply F.buildSlice); exact rfl; exact rfl; (focus (repeat' (first | exact Prs.nil | (apply Prs.cons; exact rfl))))) | ((with_reducible apply F.append); exact rfl; exact rfl; exact rfl; exact rfl; exact rfl; exact rfl; exact rfl; exact rfl) | ((with_reducible apply F.append3); exact rfl; exact rfl; exact rfl; exact rfl; exact rfl; exact rfl; exact rfl; exact rfl)); (focus (simp (disch := first | assumption | omega | (simp only [List.length_cons, List.length_nil, List.length_append, List.length_take, List.length_drop]; omega)) only [LS, buildV, fillV, over, buildSliceV, elemsOf, appendV, elems, arrAt, cut, roomy, mkAgg, allP, asP, V.cells, PC, Int.toNat_zero, Int.reduceToNat, *, hl, hcode, List.length_map, List.getElem?_map, Ins.pv, pc] <;> rfl)))
          | ((first | ((with_reducible apply F.indexAddr); exact rfl; exact rfl; exact rfl; exact rfl) | ((with_reducible apply F.len); exact rfl; exact rfl; exact rfl)); (focus (simp (disch := first | assumption | omega | (simp only [List.length_cons, List.length_nil, List.length_append, List.length_take, List.length_drop]; omega)) only [LS, lenV_L, idx_L, below_at, Int.toNat_zero, Int.reduceToNat, *, hl, hcode, List.length_map, List.getElem?_map, Ins.pv, pc] <;> rfl)))
          | ((first | ((with_reducible apply F.indexAddr); exact rfl; exact rfl; exact rfl; exact rfl) | ((with_reducible apply F.makeFunc); exact rfl; (focus (repeat' (first | exact Evs.nil | (apply Evs.cons; exact rfl)))); (focus (repeat' (first | exact Evs.nil | (apply Evs.cons; exact rfl))))) | ((with_reducible apply F.fieldAddrS); exact rfl; exact rfl; exact rfl) | ((with_reducible apply F.bin); exact rfl; exact rfl; exact rfl; exact rfl)); (focus (simp (disch := first | assumption | omega | (simp only [List.length_cons, List.length_nil, List.length_append, List.length_take, List.length_drop]; omega)) only [LS, indexAddrV, indexV, below_at, fieldV, fieldAddrV, convP, bytesOf, sliceV, bounds, bMax, bHi, bLo, upTo_at, makeFuncV, partV, partP, cut, binI, binS, binV, binP, arith, strOp_add, strOp_eql, strOp_neq, eqn, wrap64, wrap8, mkAgg, allP, asP, Option.getD_none, Int.toNat_zero, Int.reduceToNat, *, hl, hcode, List.length_map, List.getElem?_map, Ins.pv, pc] <;> rfl)))
          | ((first | ((with_reducible apply F.assignF); exact rfl; exact rfl) | ((with_reducible apply F.append2); exact rfl; exact rfl; exact rfl; exact rfl; exact rfl; exact rfl; exact rfl; exact rfl)); (focus (simp (disch := first | assumption | omega | (simp only [List.length_cons, List.length_nil, List.length_append, List.length_take, List.length_drop]; omega)) only [LS, frzCells, frz, markCells, mark, elems, arrAt, cut, allP, asP, appendV, V.cells, PC, roomy, Int.toNat_zero, Int.reduceToNat, *, hl, hcode, List.length_map, List.getElem?_map, Ins.pv, pc] <;> rfl)); (focus (simp (disch := first | assumption | omega | (simp only [List.length_cons, List.length_nil, List.length_append, List.length_take, List.length_drop]; omega)) only [LS, frzCells, frz, markCells, mark, elems, arrAt, cut, allP, asP, appendV, V.cells, PC, roomy, Int.toNat_zero, Int.reduceToNat, *, hl, hcode, List.length_map, List.getElem?_map, Ins.pv, pc] <;> rfl)))
          | (intro hc; (try rw [hc]); (try simp only [decide_eq_true_eq, decide_eq_false_iff_not, Bool.not_eq_eq_eq_not, Bool.not_true, Bool.not_false] at hc); (try (exfalso; omega)))
          | ((with_reducible apply E.r0); exact rfl; exact rfl)
          | ((first | ((with_reducible apply E.r1); exact rfl; exact rfl; (focus (exact look_of rfl))) | ((with_reducible apply E.rF1); exact rfl; exact rfl; (focus (exact look_of rfl))) | ((with_reducible apply E.rP1); exact rfl; exact rfl; (focus (exact look_of rfl))) | ((with_reducible apply E.r2); exact rfl; exact rfl; (focus (exact look_of rfl)); (focus (exact look_of rfl))) | ((with_reducible apply E.rF2); exact rfl; exact rfl; (focus (exact look_of rfl)); (focus (exact look_of rfl))) | ((with_reducible apply E.rP2); exact rfl; exact rfl; (focus (exact look_of rfl)); (focus (exact look_of rfl))) | ((with_reducible apply E.r3); exact rfl; exact rfl; (focus (exact look_of rfl)); (focus (exact look_of rfl)); (focus (exact look_of rfl))) | ((with_reducible apply E.rF3); exact rfl; exact rfl; (focus (exact look_of rfl)); (focus (exact look_of rfl)); (focus (exact look_of rfl))) | ((with_reducible apply E.rP3); exact rfl; exact rfl; (focus (exact look_of rfl)); (focus (exact look_of rfl)); (focus (exact look_of rfl)))))
          | refine R.regs rfl ?_
          | refine R.regsL rfl ?_
          | refine R.regsT rfl ?_
          | refine R.seq ?_
          | refine R.region rfl ?_
          | refine R.block ?_
          | exact rfl
        all_goals exact hend _ _ _ _ _ (by simp) (by simp only [pcL, List.reverse_cons, List.map_append, List.map_cons, List.map_nil, hP4])
      · have hbare : bareT a1 = false := by simpa using hbare
        rw [hbare] at hE1 hH1 hH2
        rw [hbare, if_neg (by decide)] at hP4
        repeat' first
          | with_reducible apply M.free
          | with_reducible apply M.done
          | ((with_reducible apply F.move); exact rfl; exact rfl)
          | ((with_reducible apply F.load); exact rfl; exact rfl; exact rfl)
          | ((with_reducible apply F.cmp); exact rfl; exact rfl; exact rfl; exact rfl)
          | ((with_reducible apply F.assign); exact rfl; exact rfl)
          | ((with_reducible apply F.fieldAddr); exact rfl; exact rfl; exact rfl)
          | ((with_reducible apply F.len); exact rfl; exact rfl; exact rfl; exact rfl)
          | ((with_reducible apply F.extract); exact rfl; exact rfl; exact rfl)
          | ((with_reducible apply F.cmpS); exact rfl; exact rfl; exact rfl; exact rfl)
          | ((first | ((with_reducible apply F.add); exact rfl; exact rfl; exact rfl) | ((with_reducible apply F.adds); exact rfl; exact rfl; exact rfl)); (focus (first | omega | (simp only [List.length_cons, List.length_nil, List.length_append, List.length_take, List.length_drop]; omega))))
          | ((with_reducible apply R.regs); exact rfl)
          | ((with_reducible apply R.regsL); exact rfl)
          | ((with_reducible apply R.regsT); exact rfl)
          | ((with_reducible apply Cut.of); (focus (repeat' (first | exact Kp.nil | (apply Kp.cons; exact rfl)))); (focus ((try simp only [List.take_succ_cons, List.take_zero, List.take_nil, Nat.zero_add, Nat.reduceAdd]) <;> rfl)); (focus (first | exact rfl | (simp [cutOk, lowOb, lowV, lowCell, low_map]; done))))
          | ((with_reducible apply Lv.of); (focus (repeat' (first | exact Kp.nil | (apply Kp.cons; exact rfl)))))
          | ((with_reducible apply F.call0); exact rfl; exact rfl; (focus (repeat' (first | exact Evs.nil | (apply Evs.cons; exact rfl)))); exact rfl; (focus (first | exact hH2)))
          | ((first | ((with_reducible apply F.call1); exact rfl; exact rfl; (focus (repeat' (first | exact Evs.nil | (apply Evs.cons; exact rfl))))) | ((with_reducible apply F.call1N); exact rfl; exact rfl; (focus (repeat' (first | exact Evs.nil | (apply Evs.cons; exact rfl))))) | ((with_reducible apply F.callC); exact rfl; exact rfl; (focus (repeat' (first | exact Evs.nil | (apply Evs.cons; exact rfl))))) | ((with_reducible apply F.callCN); exact rfl; exact rfl; (focus (repeat' (first | exact Evs.nil | (apply Evs.cons; exact rfl)))))); (focus (first | exact hTake _ _)))
          | ((first | (with_reducible apply R.cond) | ((with_reducible apply M.guard); exact rfl)); (focus (first | (refine Eq.trans (look_of rfl) ?_; first | (simp only [decide_true, decide_false, Bool.not_true, Bool.not_false, *, hl, hcode, List.length_map, List.getElem?_map, Ins.pv, pc] <;> rfl) | exact rfl) | exact look_of rfl)))
          | refine imp_yes rfl ?_
          | exact imp_no rfl
          | with_reducible apply R.seq
          | ((with_reducible apply R.region); exact rfl)
          | ((with_reducible apply R.regionL); exact rfl)
          | ((with_reducible apply R.regionT); exact rfl)
          | with_reducible apply E.seqN
          | with_reducible apply E.seqX
          | with_reducible apply E.seqR
          | with_reducible apply E.blkN
          | with_reducible apply E.blkR
          | ((with_reducible apply E.blkX); exact rfl)
          | ((with_reducible apply E.blkO); exact rfl)
          | with_reducible apply R.skip
          | with_reducible apply R.ret
          | with_reducible apply R.block
          | with_reducible apply R.exit
          | ((with_reducible apply F.append); exact rfl; exact rfl; exact rfl; exact rfl; exact rfl; exact rfl; exact rfl; exact rfl; (focus (refine Eq.trans (append_arr (by simp) (by decide) (fun p hp => by simp only [List.mem_singleton] at hp; subst hp; rfl) rfl hcut (Nat.zero_le _) (by simp only [List.length_cons, List.length_nil]; omega) (by decide)) ?_; simp only [List.length_cons, List.length_nil, List.cons_append, List.nil_append, List.set_cons_zero, List.set_cons_succ, List.map_cons, List.map_nil, Nat.zero_add, Nat.reduceAdd, Nat.sub_zero]; rfl)))
          | ((first | ((with_reducible apply F.store); exact rfl; exact rfl; exact rfl; exact rfl) | ((with_reducible apply F.loadS); exact rfl; exact rfl; exact rfl) | ((with_reducible apply F.load2); exact rfl; exact rfl; exact rfl)); (focus (simp (disch := first | assumption | omega | (simp only [List.length_cons, List.length_nil, List.length_append, List.length_take, List.length_drop]; omega)) only [LS, storeV, loadV, partV, partP, cut, over, mkAgg, allP, asP, V.cells, PC, elDiv, elMod, elDiv0, Nat.mul_mod_left, Int.toNat_zero, Int.reduceToNat, *, hl, hcode, List.length_map, List.getElem?_map, Ins.pv, pc] <;> rfl)))
          | ((first | ((with_reducible apply F.alloc); exact rfl; exact rfl)); (focus (simp only [LS] <;> rfl)); (focus (simp only [LS] <;> rfl)))
          | ((first | ((with_reducible apply F.build); exact rfl; exact rfl; (focus (repeat' (first | exact Prs.nil | (apply Prs.cons; exact rfl))))) | ((with_reducible apply F.buildSlice); exact rfl; exact rfl; (focus (repeat' (first | exact Prs.nil | (apply Prs.cons; exact rfl))))) | ((with_reducible apply F.append); exact rfl; exact rfl; exact rfl; exact rfl; exact rfl; exact rfl; exact rfl; exact rfl) | ((with_reducible apply F.append3); exact rfl; exact rfl; exact rfl; exact rfl; exact rfl; exact rfl; exact rfl; exact rfl)); (focus (simp (disch := first | assumption | omega | (simp only [List.length_cons, List.length_nil, List.length_append, List.length_take, List.length_drop]; omega)) only [LS, buildV, fillV, over, buildSliceV, elemsOf, appendV, elems, arrAt, cut, roomy, mkAgg, allP, asP, V.cells, PC, Int.toNat_zero, Int.reduceToNat, *, hl, hcode, List.length_map, List.getElem?_map, Ins.pv, pc] <;> rfl)))
          | ((first | ((with_reducible apply F.indexAddr); exact rfl; exact rfl; exact rfl; exact rfl) | ((with_reducible apply F.len); exact rfl; exact rfl; exact rfl)); (focus (simp (disch := first | assumption | omega | (simp only [List.length_cons, List.length_nil, List.length_append, List.length_take, List.length_drop]; omega)) only [LS, lenV_L, idx_L, below_at, Int.toNat_zero, Int.reduceToNat, *, hl, hcode, List.length_map, List.getElem?_map, Ins.pv, pc] <;> rfl)))
          | ((first | ((with_reducible apply F.indexAddr); exact rfl; exact rfl; exact rfl; exact rfl) | ((with_reducible apply F.makeFunc); exact rfl; (focus (repeat' (first | exact Evs.nil | (apply Evs.cons; exact rfl)))); (focus (repeat' (first | exact Evs.nil | (apply Evs.cons; exact rfl))))) | ((with_reducible apply F.fieldAddrS); exact rfl; exact rfl; exact rfl) | ((with_reducible apply F.bin); exact rfl; exact rfl; exact rfl; exact rfl)); (focus (simp (disch := first | assumption | omega | (simp only [List.length_cons, List.length_nil, List.length_append, List.length_take, List.length_drop]; omega)) only [LS, indexAddrV, indexV, below_at, fieldV, fieldAddrV, convP, bytesOf, sliceV, bounds, bMax, bHi, bLo, upTo_at, makeFuncV, partV, partP, cut, binI, binS, binV, binP, arith, strOp_add, strOp_eql, strOp_neq, eqn, wrap64, wrap8, mkAgg, allP, asP, Option.getD_none, Int.toNat_zero, Int.reduceToNat, *, hl, hcode, List.length_map, List.getElem?_map, Ins.pv, pc] <;> rfl)))
          | ((first | ((with_reducible apply F.assignF); exact rfl; exact rfl) | ((with_reducible apply F.append2); exact rfl; exact rfl; exact rfl; exact rfl; exact rfl; exact rfl; exact rfl; exact rfl)); (focus (simp (disch := first | assumption | omega | (simp only [List.length_cons, List.length_nil, List.length_append, List.length_take, List.length_drop]; omega)) only [LS, frzCells, frz, markCells, mark, elems, arrAt, cut, allP, asP, appendV, V.cells, PC, roomy, Int.toNat_zero, Int.reduceToNat, *, hl, hcode, List.length_map, List.getElem?_map, Ins.pv, pc] <;> rfl)); (focus (simp (disch := first | assumption | omega | (simp only [List.length_cons, List.length_nil, List.length_append, List.length_take, List.length_drop]; omega)) only [LS, frzCells, frz, markCells, mark, elems, arrAt, cut, allP, asP, appendV, V.cells, PC, roomy, Int.toNat_zero, Int.reduceToNat, *, hl, hcode, List.length_map, List.getElem?_map, Ins.pv, pc] <;> rfl)))
          | (intro hc; (try rw [hc]); (try simp only [decide_eq_true_eq, decide_eq_false_iff_not, Bool.not_eq_eq_eq_not, Bool.not_true, Bool.not_false] at hc); (try (exfalso; omega)))
          | ((with_reducible apply E.r0); exact rfl; exact rfl)
          | ((first | ((with_reducible apply E.r1); exact rfl; exact rfl; (focus (exact look_of rfl))) | ((with_reducible apply E.rF1); exact rfl; exact rfl; (focus (exact look_of rfl))) | ((with_reducible apply E.rP1); exact rfl; exact rfl; (focus (exact look_of rfl))) | ((with_reducible apply E.r2); exact rfl; exact rfl; (focus (exact look_of rfl)); (focus (exact look_of rfl))) | ((with_reducible apply E.rF2); exact rfl; exact rfl; (focus (exact look_of rfl)); (focus (exact look_of rfl))) | ((with_reducible apply E.rP2); exact rfl; exact rfl; (focus (exact look_of rfl)); (focus (exact look_of rfl))) | ((with_reducible apply E.r3); exact rfl; exact rfl; (focus (exact look_of rfl)); (focus (exact look_of rfl)); (focus (exact look_of rfl))) | ((with_reducible apply E.rF3); exact rfl; exact rfl; (focus (exact look_of rfl)); (focus (exact look_of rfl)); (focus (exact look_of rfl))) | ((with_reducible apply E.rP3); exact rfl; exact rfl; (focus (exact look_of rfl)); (focus (exact look_of rfl)); (focus (exact look_of rfl)))))
          | refine R.regs rfl ?_
          | refine R.regsL rfl ?_
          | refine R.regsT rfl ?_
          | refine R.seq ?_
          | refine R.region rfl ?_
          | refine R.block ?_
          | exact rfl
        all_goals exact hend _ _ _ _ _ (by simp) (by simp only [pcL, List.reverse_cons, List.map_append, List.map_cons, List.map_nil, hP4])
    · repeat' first
        | with_reducible apply M.free
        | with_reducible apply M.done
        | ((with_reducible apply F.move); exact rfl; exact rfl)
        | ((with_reducible apply F.load); exact rfl; exact rfl; exact rfl)
        | ((with_reducible apply F.cmp); exact rfl; exact rfl; exact rfl; exact rfl)
        | ((with_reducible apply F.assign); exact rfl; exact rfl)
        | ((with_reducible apply F.fieldAddr); exact rfl; exact rfl; exact rfl)
        | ((with_reducible apply F.len); exact rfl; exact rfl; exact rfl; exact rfl)
        | ((with_reducible apply F.extract); exact rfl; exact rfl; exact rfl)
        | ((with_reducible apply F.cmpS); exact rfl; exact rfl; exact rfl; exact rfl)
        | ((first | ((with_reducible apply F.add); exact rfl; exact rfl; exact rfl) | ((with_reducible apply F.adds); exact rfl; exact rfl; exact rfl)); (focus (first | omega | (simp only [List.length_cons, List.length_nil, List.length_append, List.length_take, List.length_drop]; omega))))
        | ((with_reducible apply R.regs); exact rfl)
        | ((with_reducible apply R.regsL); exact rfl)
        | ((with_reducible apply R.regsT); exact rfl)
        | ((with_reducible apply Cut.of); (focus (repeat' (first | exact Kp.nil | (apply Kp.cons; exact rfl)))); (focus ((try simp only [List.take_succ_cons, List.take_zero, List.take_nil, Nat.zero_add, Nat.reduceAdd]) <;> rfl)); (focus (first | exact rfl | (simp [cutOk, lowOb, lowV, lowCell, low_map]; done))))
        | ((with_reducible apply Lv.of); (focus (repeat' (first | exact Kp.nil | (apply Kp.cons; exact rfl)))))
        | ((with_reducible apply F.call0); exact rfl; exact rfl; (focus (repeat' (first | exact Evs.nil | (apply Evs.cons; exact rfl)))); exact rfl; (focus (first | exact hH2)))
        | ((first | ((with_reducible apply F.call1); exact rfl; exact rfl; (focus (repeat' (first | exact Evs.nil | (apply Evs.cons; exact rfl))))) | ((with_reducible apply F.call1N); exact rfl; exact rfl; (focus (repeat' (first | exact Evs.nil | (apply Evs.cons; exact rfl))))) | ((with_reducible apply F.callC); exact rfl; exact rfl; (focus (repeat' (first | exact Evs.nil | (apply Evs.cons; exact rfl))))) | ((with_reducible apply F.callCN); exact rfl; exact rfl; (focus (repeat' (first | exact Evs.nil | (apply Evs.cons; exact rfl)))))); (focus (first | exact hTake _ _)))
        | ((first | (with_reducible apply R.cond) | ((with_reducible apply M.guard); exact rfl)); (focus (first | (refine Eq.trans (look_of rfl) ?_; first | (simp only [decide_true, decide_false, Bool.not_true, Bool.not_false, *, hl, hcode, List.length_map, List.getElem?_map, Ins.pv, pc] <;> rfl) | exact rfl) | exact look_of rfl)))
        | refine imp_yes rfl ?_
        | exact imp_no rfl
        | with_reducible apply R.seq
        | ((with_reducible apply R.region); exact rfl)
        | ((with_reducible apply R.regionL); exact rfl)
        | ((with_reducible apply R.regionT); exact rfl)
        | with_reducible apply E.seqN
        | with_reducible apply E.seqX
        | with_reducible apply E.seqR
        | with_reducible apply E.blkN
        | with_reducible apply E.blkR
        | ((with_reducible apply E.blkX); exact rfl)
        | ((with_reducible apply E.blkO); exact rfl)
        | with_reducible apply R.skip
        | with_reducible apply R.ret
        | with_reducible apply R.block
        | with_reducible apply R.exit
        | ((with_reducible apply F.append); exact rfl; exact rfl; exact rfl; exact rfl; exact rfl; exact rfl; exact rfl; exact rfl; (focus (refine Eq.trans (append_arr (by simp) (by decide) (fun p hp => by simp only [List.mem_singleton] at hp; subst hp; rfl) rfl hcut (Nat.zero_le _) (by simp only [List.length_cons, List.length_nil]; omega) (by decide)) ?_; simp only [List.length_cons, List.length_nil, List.cons_append, List.nil_append, List.set_cons_zero, List.set_cons_succ, List.map_cons, List.map_nil, Nat.zero_add, Nat.reduceAdd, Nat.sub_zero]; rfl)))
        | ((first | ((with_reducible apply F.store); exact rfl; exact rfl; exact rfl; exact rfl) | ((with_reducible apply F.loadS); exact rfl; exact rfl; exact rfl) | ((with_reducible apply F.load2); exact rfl; exact rfl; exact rfl)); (focus (simp (disch := first | assumption | omega | (simp only [List.length_cons, List.length_nil, List.length_append, List.length_take, List.length_drop]; omega)) only [LS, storeV, loadV, partV, partP, cut, over, mkAgg, allP, asP, V.cells, PC, elDiv, elMod, elDiv0, Nat.mul_mod_left, Int.toNat_zero, Int.reduceToNat, *, hl, hcode, List.length_map, List.getElem?_map, Ins.pv, pc] <;> rfl)))
        | ((first | ((with_reducible apply F.alloc); exact rfl; exact rfl)); (focus (simp only [LS] <;> rfl)); (focus (simp only [LS] <;> rfl)))
        | ((first | ((with_reducible apply F.build); exact rfl; exact rfl; (focus (repeat' (first | exact Prs.nil | (apply Prs.cons; exact rfl))))) | ((with_reducible apply F.buildSlice); exact rfl; exact rfl; (focus (repeat' (first | exact Prs.nil | (apply Prs.cons; exact rfl))))) | ((with_reducible apply F.append); exact rfl; exact rfl; exact rfl; exact rfl; exact rfl; exact rfl; exact rfl; exact rfl) | ((with_reducible apply F.append3); exact rfl; exact rfl; exact rfl; exact rfl; exact rfl; exact rfl; exact rfl; exact rfl)); (focus (simp (disch := first | assumption | omega | (simp only [List.length_cons, List.length_nil, List.length_append, List.length_take, List.length_drop]; omega)) only [LS, buildV, fillV, over, buildSliceV, elemsOf, appendV, elems, arrAt, cut, roomy, mkAgg, allP, asP, V.cells, PC, Int.toNat_zero, Int.reduceToNat, *, hl, hcode, List.length_map, List.getElem?_map, Ins.pv, pc] <;> rfl)))
        | ((first | ((with_reducible apply F.indexAddr); exact rfl; exact rfl; exact rfl; exact rfl) | ((with_reducible apply F.len); exact rfl; exact rfl; exact rfl)); (focus (simp (disch := first | assumption | omega | (simp only [List.length_cons, List.length_nil, List.length_append, List.length_take, List.length_drop]; omega)) only [LS, lenV_L, idx_L, below_at, Int.toNat_zero, Int.reduceToNat, *, hl, hcode, List.length_map, List.getElem?_map, Ins.pv, pc] <;> rfl)))
        | ((first | ((with_reducible apply F.indexAddr); exact rfl; exact rfl; exact rfl; exact rfl) | ((with_reducible apply F.makeFunc); exact rfl; (focus (repeat' (first | exact Evs.nil | (apply Evs.cons; exact rfl)))); (focus (repeat' (first | exact Evs.nil | (apply Evs.cons; exact rfl))))) | ((with_reducible apply F.fieldAddrS); exact rfl; exact rfl; exact rfl) | ((with_reducible apply F.bin); exact rfl; exact rfl; exact rfl; exact rfl)); (focus (simp (disch := first | assumption | omega | (simp only [List.length_cons, List.length_nil, List.length_append, List.length_take, List.length_drop]; omega)) only [LS, indexAddrV, indexV, below_at, fieldV, fieldAddrV, convP, bytesOf, sliceV, bounds, bMax, bHi, bLo, upTo_at, makeFuncV, partV, partP, cut, binI, binS, binV, binP, arith, strOp_add, strOp_eql, strOp_neq, eqn, wrap64, wrap8, mkAgg, allP, asP, Option.getD_none, Int.toNat_zero, Int.reduceToNat, *, hl, hcode, List.length_map, List.getElem?_map, Ins.pv, pc] <;> rfl)))
        | ((first | ((with_reducible apply F.assignF); exact rfl; exact rfl) | ((with_reducible apply F.append2); exact rfl; exact rfl; exact rfl; exact rfl; exact rfl; exact rfl; exact rfl; exact rfl)); (focus (simp (disch := first | assumption | omega | (simp only [List.length_cons, List.length_nil, List.length_append, List.length_take, List.length_drop]; omega)) only [LS, frzCells, frz, markCells, mark, elems, arrAt, cut, allP, asP, appendV, V.cells, PC, roomy, Int.toNat_zero, Int.reduceToNat, *, hl, hcode, List.length_map, List.getElem?_map, Ins.pv, pc] <;> rfl)); (focus (simp (disch := first | assumption | omega | (simp only [List.length_cons, List.length_nil, List.length_append, List.length_take, List.length_drop]; omega)) only [LS, frzCells, frz, markCells, mark, elems, arrAt, cut, allP, asP, appendV, V.cells, PC, roomy, Int.toNat_zero, Int.reduceToNat, *, hl, hcode, List.length_map, List.getElem?_map, Ins.pv, pc] <;> rfl)))
        | (intro hc; (try rw [hc]); (try simp only [decide_eq_true_eq, decide_eq_false_iff_not, Bool.not_eq_eq_eq_not, Bool.not_true, Bool.not_false] at hc); (try (exfalso; omega)))
        | ((with_reducible apply E.r0); exact rfl; exact rfl)
        | ((first | ((with_reducible apply E.r1); exact rfl; exact rfl; (focus (exact look_of rfl))) | ((with_reducible apply E.rF1); exact rfl; exact rfl; (focus (exact look_of rfl))) | ((with_reducible apply E.rP1); exact rfl; exact rfl; (focus (exact look_of rfl))) | ((with_reducible apply E.r2); exact rfl; exact rfl; (focus (exact look_of rfl)); (focus (exact look_of rfl))) | ((with_reducible apply E.rF2); exact rfl; exact rfl; (focus (exact look_of rfl)); (focus (exact look_of rfl))) | ((with_reducible apply E.rP2); exact rfl; exact rfl; (focus (exact look_of rfl)); (focus (exact look_of rfl))) | ((with_reducible apply E.r3); exact rfl; exact rfl; (focus (exact look_of rfl)); (focus (exact look_of rfl)); (focus (exact look_of rfl))) | ((with_reducible apply E.rF3); exact rfl; exact rfl; (focus (exact look_of rfl)); (focus (exact look_of rfl)); (focus (exact look_of rfl))) | ((with_reducible apply E.rP3); exact rfl; exact rfl; (focus (exact look_of rfl)); (focus (exact look_of rfl)); (focus (exact look_of rfl)))))
        | refine R.regs rfl ?_
        | refine R.regsL rfl ?_
        | refine R.regsT rfl ?_
        | refine R.seq ?_
        | refine R.region rfl ?_
        | refine R.block ?_
        | exact rfl
      all_goals exact hend _ _ _ _ _ (by simp) (by simp only [pcL, List.reverse_cons, List.map_append, List.map_cons, List.map_nil, hP5])
  by_cases h16 : op = 16
  · subst h16
    have ht3 : takesF 16 = 3 := rfl
    obtain ⟨c', b', a', r, rfl⟩ : ∃ c' b' a' r, st = c' :: b' :: a' :: r := by
      match st, c3 with
      | [], c3 => exact absurd rfl hne
      | [a], c3 => rw [ht3] at c3; simp at c3
      | [b, a], c3 => rw [ht3] at c3; simp at c3
      | c :: b :: a :: r, _ => exact ⟨c, b, a, r, rfl⟩
    have hpush : pushT ⟨16, n⟩ (c' :: b' :: a' :: r) = .tri ⟨16, n⟩ a' b' c' :: r := by simp [pushT, ht3]
    rw [hpush] at hend
    have l1 := hw1 a' (by simp)
    have l2 := hw1 b' (by simp)
    have l3 := hw1 c' (by simp)
    have hes : List.map V.p (pcL vars (c' :: b' :: a' :: r)) = List.map V.p (pcL vars r) ++ [V.p (pieceOf vars a'), V.p (pieceOf vars b'), V.p (pieceOf vars c')] := by simp [pcL]
    have hlr : (List.map V.p (pcL vars r)).length = r.length := by simp [pcL]
    have hE1 : (List.map V.p (pcL vars (c' :: b' :: a' :: r)))[r.length]? = some (.p (pc (plainF vars a') (48 + a'.rank) (bareT a'))) := by rw [hes, List.getElem?_append_right (by omega), hlr, Nat.sub_self]; rfl
    have hE2 : (List.map V.p (pcL vars (c' :: b' :: a' :: r)))[r.length + 1]? = some (.p (pc (plainF vars b') (48 + b'.rank) (bareT b'))) := by rw [hes, List.getElem?_append_right (by omega), hlr, Nat.add_sub_cancel_left]; rfl
    have hE3 : (List.map V.p (pcL vars (c' :: b' :: a' :: r)))[r.length + 2]? = some (.p (pc (plainF vars c') (48 + c'.rank) (bareT c'))) := by rw [hes, List.getElem?_append_right (by omega), hlr, Nat.add_sub_cancel_left]; rfl
    have hcut : cut (List.map V.p (pcL vars (c' :: b' :: a' :: r))) 0 r.length = some (List.map V.p (pcL vars r)) := by
      rw [hes]
      exact cut_pre hlr.symm
    have hTake := fun o2' o3 => take_run ver 3 (r.length + 3) (by omega) (by simp only [List.length_cons] at hsl; omega) (by decide) (.box 0 [.p o1, .p o2]) o2' o3
    simp only [Nat.add_sub_cancel] at hTake
    have hrl : r.length ≤ 30 := by simp only [List.length_cons] at hsl; omega
    simp only [pc] at hE1 hE2 hE3
    have hP : pieceOf vars (.tri ⟨16, n⟩ a' b' c') = .agg [.str (plainF vars (.tri ⟨16, n⟩ a' b' c')), .int .u8 55, .bool false] := rfl
    simp only [plainF] at hP
    have hlc : (c' :: b' :: a' :: r).length = r.length + 3 := rfl
    rw [hlc]
    clear hes hlr
    generalize List.map V.p (pcL vars (c' :: b' :: a' :: r)) = es at *
    clear hpo hpl hpush hleaf h120 hok c1 c2 c3 hw1 hlc
    repeat' first
      | with_reducible apply M.free
      | with_reducible apply M.done
      | ((with_reducible apply F.move); exact rfl; exact rfl)
      | ((with_reducible apply F.load); exact rfl; exact rfl; exact rfl)
      | ((with_reducible apply F.cmp); exact rfl; exact rfl; exact rfl; exact rfl)
      | ((with_reducible apply F.assign); exact rfl; exact rfl)
      | ((with_reducible apply F.fieldAddr); exact rfl; exact rfl; exact rfl)
      | ((with_reducible apply F.len); exact rfl; exact rfl; exact rfl; exact rfl)
      | ((with_reducible apply F.extract); exact rfl; exact rfl; exact rfl)
      | ((with_reducible apply F.cmpS); exact rfl; exact rfl; exact rfl; exact rfl)
      | ((first | ((with_reducible apply F.add); exact rfl; exact rfl; exact rfl) | ((with_reducible apply F.adds); exact rfl; exact rfl; exact rfl)); (focus (first | omega | (simp only [List.length_cons, List.length_nil, List.length_append, List.length_take, List.length_drop]; omega))))
      | ((with_reducible apply R.regs); exact rfl)
      | ((with_reducible apply R.regsL); exact rfl)
      | ((with_reducible apply R.regsT); exact rfl)
      | ((with_reducible apply Cut.of); (focus (repeat' (first | exact Kp.nil | (apply Kp.cons; exact rfl)))); (focus ((try simp only [List.take_succ_cons, List.take_zero, List.take_nil, Nat.zero_add, Nat.reduceAdd]) <;> rfl)); (focus (first | exact rfl | (simp [cutOk, lowOb, lowV, lowCell, low_map]; done))))
      | ((with_reducible apply Lv.of); (focus (repeat' (first | exact Kp.nil | (apply Kp.cons; exact rfl)))))
      | ((first | ((with_reducible apply F.call1); exact rfl; exact rfl; (focus (repeat' (first | exact Evs.nil | (apply Evs.cons; exact rfl))))) | ((with_reducible apply F.call1N); exact rfl; exact rfl; (focus (repeat' (first | exact Evs.nil | (apply Evs.cons; exact rfl))))) | ((with_reducible apply F.callC); exact rfl; exact rfl; (focus (repeat' (first | exact Evs.nil | (apply Evs.cons; exact rfl))))) | ((with_reducible apply F.callCN); exact rfl; exact rfl; (focus (repeat' (first | exact Evs.nil | (apply Evs.cons; exact rfl)))))); (focus (first | exact hTake _ _)))
      | ((first | (with_reducible apply R.cond) | ((with_reducible apply M.guard); exact rfl)); (focus (first | (refine Eq.trans (look_of rfl) ?_; first | (simp only [decide_true, decide_false, Bool.not_true, Bool.not_false, *, hl, hcode, List.length_map, List.getElem?_map, Ins.pv, pc] <;> rfl) | exact rfl) | exact look_of rfl)))
      | refine imp_yes rfl ?_
      | exact imp_no rfl
      | with_reducible apply R.seq
      | ((with_reducible apply R.region); exact rfl)
      | ((with_reducible apply R.regionL); exact rfl)
      | ((with_reducible apply R.regionT); exact rfl)
      | with_reducible apply E.seqN
      | with_reducible apply E.seqX
      | with_reducible apply E.seqR
      | with_reducible apply E.blkN
      | with_reducible apply E.blkR
      | ((with_reducible apply E.blkX); exact rfl)
      | ((with_reducible apply E.blkO); exact rfl)
      | with_reducible apply R.skip
      | with_reducible apply R.ret
      | with_reducible apply R.block
      | with_reducible apply R.exit
      | ((with_reducible apply F.append); exact rfl; exact rfl; exact rfl; exact rfl; exact rfl; exact rfl; exact rfl; exact rfl; (focus (refine Eq.trans (append_arr (by simp) (by decide) (fun p hp => by simp only [List.mem_singleton] at hp; subst hp; rfl) rfl hcut (Nat.zero_le _) (by simp only [List.length_cons, List.length_nil]; omega) (by decide)) ?_; simp only [List.length_cons, List.length_nil, List.cons_append, List.nil_append, List.set_cons_zero, List.set_cons_succ, List.map_cons, List.map_nil, Nat.zero_add, Nat.reduceAdd, Nat.sub_zero]; rfl)))
      | ((first | ((with_reducible apply F.store); exact rfl; exact rfl; exact rfl; exact rfl) | ((with_reducible apply F.loadS); exact rfl; exact rfl; exact rfl) | ((with_reducible apply F.load2); exact rfl; exact rfl; exact rfl)); (focus (simp (disch := first | assumption | omega | (simp only [List.length_cons, List.length_nil, List.length_append, List.length_take, List.length_drop]; omega)) only [LS, storeV, loadV, partV, partP, cut, over, mkAgg, allP, asP, V.cells, PC, elDiv, elMod, elDiv0, Nat.mul_mod_left, Int.toNat_zero, Int.reduceToNat, *, hl, hcode, List.length_map, List.getElem?_map, Ins.pv, pc] <;> rfl)))
      | ((first | ((with_reducible apply F.alloc); exact rfl; exact rfl)); (focus (simp only [LS] <;> rfl)); (focus (simp only [LS] <;> rfl)))
      | ((first | ((with_reducible apply F.build); exact rfl; exact rfl; (focus (repeat' (first | exact Prs.nil | (apply Prs.cons; exact rfl))))) | ((with_reducible apply F.buildSlice); exact rfl; exact rfl; (focus (repeat' (first | exact Prs.nil | (apply Prs.cons; exact rfl))))) | ((with_reducible apply F.append); exact rfl; exact rfl; exact rfl; exact rfl; exact rfl; exact rfl; exact rfl; exact rfl) | ((with_reducible apply F.append3); exact rfl; exact rfl; exact rfl; exact rfl; exact rfl; exact rfl; exact rfl; exact rfl)); (focus (simp (disch := first | assumption | omega | (simp only [List.length_cons, List.length_nil, List.length_append, List.length_take, List.length_drop]; omega)) only [LS, buildV, fillV, over, buildSliceV, elemsOf, appendV, elems, arrAt, cut, roomy, mkAgg, allP, asP, V.cells, PC, Int.toNat_zero, Int.reduceToNat, *, hl, hcode, List.length_map, List.getElem?_map, Ins.pv, pc] <;> rfl)))
      | ((first | ((with_reducible apply F.indexAddr); exact rfl; exact rfl; exact rfl; exact rfl) | ((with_reducible apply F.len); exact rfl; exact rfl; exact rfl)); (focus (simp (disch := first | assumption | omega | (simp only [List.length_cons, List.length_nil, List.length_append, List.length_take, List.length_drop]; omega)) only [LS, lenV_L, idx_L, below_at, Int.toNat_zero, Int.reduceToNat, *, hl, hcode, List.length_map, List.getElem?_map, Ins.pv, pc] <;> rfl)))
      | ((first | ((with_reducible apply F.indexAddr); exact rfl; exact rfl; exact rfl; exact rfl) | ((with_reducible apply F.makeFunc); exact rfl; (focus (repeat' (first | exact Evs.nil | (apply Evs.cons; exact rfl)))); (focus (repeat' (first | exact Evs.nil | (apply Evs.cons; exact rfl))))) | ((with_reducible apply F.fieldAddrS); exact rfl; exact rfl; exact rfl) | ((with_reducible apply F.bin); exact rfl; exact rfl; exact rfl; exact rfl)); (focus (simp (disch := first | assumption | omega | (simp only [List.length_cons, List.length_nil, List.length_append, List.length_take, List.length_drop]; omega)) only [LS, indexAddrV, indexV, below_at, fieldV, fieldAddrV, convP, bytesOf, sliceV, bounds, bMax, bHi, bLo, upTo_at, makeFuncV, partV, partP, cut, binI, binS, binV, binP, arith, strOp_add, strOp_eql, strOp_neq, eqn, wrap64, wrap8, mkAgg, allP, asP, Option.getD_none, Int.toNat_zero, Int.reduceToNat, *, hl, hcode, List.length_map, List.getElem?_map, Ins.pv, pc] <;> rfl)))
      | ((first | ((with_reducible apply F.assignF); exact rfl; exact rfl) | ((with_reducible apply F.append2); exact rfl; exact rfl; exact rfl; exact rfl; exact rfl; exact rfl; exact rfl; exact rfl)); (focus (simp (disch := first | assumption | omega | (simp only [List.length_cons, List.length_nil, List.length_append, List.length_take, List.length_drop]; omega)) only [LS, frzCells, frz, markCells, mark, elems, arrAt, cut, allP, asP, appendV, V.cells, PC, roomy, Int.toNat_zero, Int.reduceToNat, *, hl, hcode, List.length_map, List.getElem?_map, Ins.pv, pc] <;> rfl)); (focus (simp (disch := first | assumption | omega | (simp only [List.length_cons, List.length_nil, List.length_append, List.length_take, List.length_drop]; omega)) only [LS, frzCells, frz, markCells, mark, elems, arrAt, cut, allP, asP, appendV, V.cells, PC, roomy, Int.toNat_zero, Int.reduceToNat, *, hl, hcode, List.length_map, List.getElem?_map, Ins.pv, pc] <;> rfl)))
      | (intro hc; (try rw [hc]); (try simp only [decide_eq_true_eq, decide_eq_false_iff_not, Bool.not_eq_eq_eq_not, Bool.not_true, Bool.not_false] at hc); (try (exfalso; omega)))
      | ((with_reducible apply E.r0); exact rfl; exact rfl)
      | ((first | ((with_reducible apply E.r1); exact rfl; exact rfl; (focus (exact look_of rfl))) | ((with_reducible apply E.rF1); exact rfl; exact rfl; (focus (exact look_of rfl))) | ((with_reducible apply E.rP1); exact rfl; exact rfl; (focus (exact look_of rfl))) | ((with_reducible apply E.r2); exact rfl; exact rfl; (focus (exact look_of rfl)); (focus (exact look_of rfl))) | ((with_reducible apply E.rF2); exact rfl; exact rfl; (focus (exact look_of rfl)); (focus (exact look_of rfl))) | ((with_reducible apply E.rP2); exact rfl; exact rfl; (focus (exact look_of rfl)); (focus (exact look_of rfl))) | ((with_reducible apply E.r3); exact rfl; exact rfl; (focus (exact look_of rfl)); (focus (exact look_of rfl)); (focus (exact look_of rfl))) | ((with_reducible apply E.rF3); exact rfl; exact rfl; (focus (exact look_of rfl)); (focus (exact look_of rfl)); (focus (exact look_of rfl))) | ((with_reducible apply E.rP3); exact rfl; exact rfl; (focus (exact look_of rfl)); (focus (exact look_of rfl)); (focus (exact look_of rfl)))))
      | refine R.regs rfl ?_
      | refine R.regsL rfl ?_
      | refine R.regsT rfl ?_
      | refine R.seq ?_
      | refine R.region rfl ?_
      | refine R.block ?_
      | exact rfl
    all_goals exact hend _ _ _ _ _ (by simp) (by simp only [pcL, List.reverse_cons, List.map_append, List.map_cons, List.map_nil, hP]; rfl)
  have ht2 : takesF op = 2 := by rw [h120, if_neg (by omega), if_neg h45, if_pos (by omega)]
  obtain ⟨b', a', r, rfl⟩ : ∃ b' a' r, st = b' :: a' :: r := by
    match st, c3 with
    | [], c3 => exact absurd rfl hne
    | [a], c3 => rw [ht2] at c3; simp at c3
    | b :: a :: r, _ => exact ⟨b, a, r, rfl⟩
  have hpush : pushT ⟨op, n⟩ (b' :: a' :: r) = .bin ⟨op, n⟩ a' b' :: r := by simp [pushT, ht2]
  rw [hpush] at hend
  have l1 := hw1 a' (by simp)
  have l2 := hw1 b' (by simp)
  have hes : List.map V.p (pcL vars (b' :: a' :: r)) = List.map V.p (pcL vars r) ++ [V.p (pieceOf vars a'), V.p (pieceOf vars b')] := by simp [pcL]
  have hlr : (List.map V.p (pcL vars r)).length = r.length := by simp [pcL]
  have hE1 : (List.map V.p (pcL vars (b' :: a' :: r)))[r.length]? = some (.p (pc (plainF vars a') (48 + a'.rank) (bareT a'))) := by rw [hes, List.getElem?_append_right (by omega), hlr, Nat.sub_self]; rfl
  have hE2 : (List.map V.p (pcL vars (b' :: a' :: r)))[r.length + 1]? = some (.p (pc (plainF vars b') (48 + b'.rank) (bareT b'))) := by rw [hes, List.getElem?_append_right (by omega), hlr, Nat.add_sub_cancel_left]; rfl
  have hcut : cut (List.map V.p (pcL vars (b' :: a' :: r))) 0 r.length = some (List.map V.p (pcL vars r)) := by
    rw [hes]
    exact cut_pre hlr.symm
  have hTake := fun o2' o3 => take_run ver 2 (r.length + 2) (by omega) (by simp only [List.length_cons] at hsl; omega) (by decide) (.box 0 [.p o1, .p o2]) o2' o3
  simp only [Nat.add_sub_cancel] at hTake
  have hrl : r.length ≤ 30 := by simp only [List.length_cons] at hsl; omega
  have hlc : (b' :: a' :: r).length = r.length + 2 := rfl
  rw [hlc]
  clear hes hlr
  generalize List.map V.p (pcL vars (b' :: a' :: r)) = es at *
  clear hpo hpl hpush hleaf h120 hok c1 c2 c3 hw1 hlc
  by_cases h910 : op = 9 ∨ op = 10
  · simp only [pc] at hE1 hE2
    have hP9 : pieceOf vars (.bin ⟨9, n⟩ a' b') = .agg [.str (plainF vars (.bin ⟨9, n⟩ a' b')), .int .u8 55, .bool false] := rfl
    have hP10 : pieceOf vars (.bin ⟨10, n⟩ a' b') = .agg [.str (plainF vars (.bin ⟨10, n⟩ a' b')), .int .u8 55, .bool false] := rfl
    have e9 : plainF vars (.bin ⟨9, n⟩ a' b') = [109, 105, 110, 40] ++ plainF vars a' ++ [44, 32] ++ plainF vars b' ++ [41] := rfl
    have e10 : plainF vars (.bin ⟨10, n⟩ a' b') = [109, 97, 120, 40] ++ plainF vars a' ++ [44, 32] ++ plainF vars b' ++ [41] := rfl
    rw [e9] at hP9
    rw [e10] at hP10
    clear e9 e10
    rcases h910 with rfl | rfl
    · repeat' first
        | with_reducible apply M.free
        | with_reducible apply M.done
        | ((with_reducible apply F.move); exact rfl; exact rfl)
        | ((with_reducible apply F.load); exact rfl; exact rfl; exact rfl)
        | ((with_reducible apply F.cmp); exact rfl; exact rfl; exact rfl; exact rfl)
        | ((with_reducible apply F.assign); exact rfl; exact rfl)
        | ((with_reducible apply F.fieldAddr); exact rfl; exact rfl; exact rfl)
        | ((with_reducible apply F.len); exact rfl; exact rfl; exact rfl; exact rfl)
        | ((with_reducible apply F.extract); exact rfl; exact rfl; exact rfl)
        | ((with_reducible apply F.cmpS); exact rfl; exact rfl; exact rfl; exact rfl)
        | ((first | ((with_reducible apply F.add); exact rfl; exact rfl; exact rfl) | ((with_reducible apply F.adds); exact rfl; exact rfl; exact rfl)); (focus (first | omega | (simp only [List.length_cons, List.length_nil, List.length_append, List.length_take, List.length_drop]; omega))))
        | ((with_reducible apply R.regs); exact rfl)
        | ((with_reducible apply R.regsL); exact rfl)
        | ((with_reducible apply R.regsT); exact rfl)
        | ((with_reducible apply Cut.of); (focus (repeat' (first | exact Kp.nil | (apply Kp.cons; exact rfl)))); (focus ((try simp only [List.take_succ_cons, List.take_zero, List.take_nil, Nat.zero_add, Nat.reduceAdd]) <;> rfl)); (focus (first | exact rfl | (simp [cutOk, lowOb, lowV, lowCell, low_map]; done))))
        | ((with_reducible apply Lv.of); (focus (repeat' (first | exact Kp.nil | (apply Kp.cons; exact rfl)))))
        | ((first | ((with_reducible apply F.call1); exact rfl; exact rfl; (focus (repeat' (first | exact Evs.nil | (apply Evs.cons; exact rfl))))) | ((with_reducible apply F.call1N); exact rfl; exact rfl; (focus (repeat' (first | exact Evs.nil | (apply Evs.cons; exact rfl))))) | ((with_reducible apply F.callC); exact rfl; exact rfl; (focus (repeat' (first | exact Evs.nil | (apply Evs.cons; exact rfl))))) | ((with_reducible apply F.callCN); exact rfl; exact rfl; (focus (repeat' (first | exact Evs.nil | (apply Evs.cons; exact rfl)))))); (focus (first | exact hTake _ _)))
        | ((first | (with_reducible apply R.cond) | ((with_reducible apply M.guard); exact rfl)); (focus (first | (refine Eq.trans (look_of rfl) ?_; first | (simp only [decide_true, decide_false, Bool.not_true, Bool.not_false, *, hl, hcode, List.length_map, List.getElem?_map, Ins.pv, pc] <;> rfl) | exact rfl) | exact look_of rfl)))
        | refine imp_yes rfl ?_
        | exact imp_no rfl
        | with_reducible apply R.seq
        | ((with_reducible apply R.region); exact rfl)
        | ((with_reducible apply R.regionL); exact rfl)
        | ((with_reducible apply R.regionT); exact rfl)
        | with_reducible apply E.seqN
        | with_reducible apply E.seqX
        | with_reducible apply E.seqR
        | with_reducible apply E.blkN
        | with_reducible apply E.blkR
        | ((with_reducible apply E.blkX); exact rfl)
        | ((with_reducible apply E.blkO); exact rfl)
        | with_reducible apply R.skip
        | with_reducible apply R.ret
        | with_reducible apply R.block
        | with_reducible apply R.exit
        | ((with_reducible apply F.append); exact rfl; exact rfl; exact rfl; exact rfl; exact rfl; exact rfl; exact rfl; exact rfl; (focus (refine Eq.trans (append_arr (by simp) (by decide) (fun p hp => by simp only [List.mem_singleton] at hp; subst hp; rfl) rfl hcut (Nat.zero_le _) (by simp only [List.length_cons, List.length_nil]; omega) (by decide)) ?_; simp only [List.length_cons, List.length_nil, List.cons_append, List.nil_append, List.set_cons_zero, List.set_cons_succ, List.map_cons, List.map_nil, Nat.zero_add, Nat.reduceAdd, Nat.sub_zero]; rfl)))
        | ((first | ((with_reducible apply F.store); exact rfl; exact rfl; exact rfl; exact rfl) | ((with_reducible apply F.loadS); exact rfl; exact rfl; exact rfl) | ((with_reducible apply F.load2); exact rfl; exact rfl; exact rfl)); (focus (simp (disch := first | assumption | omega | (simp only [List.length_cons, List.length_nil, List.length_append, List.length_take, List.length_drop]; omega)) only [LS, storeV, loadV, partV, partP, cut, over, mkAgg, allP, asP, V.cells, PC, elDiv, elMod, elDiv0, Nat.mul_mod_left, Int.toNat_zero, Int.reduceToNat, *, hl, hcode, List.length_map, List.getElem?_map, Ins.pv, pc] <;> rfl)))
        | ((first | ((with_reducible apply F.alloc); exact rfl; exact rfl)); (focus (simp only [LS] <;> rfl)); (focus (simp only [LS] <;> rfl)))
        | ((first | ((with_reducible apply F.build); exact rfl; exact rfl; (focus (repeat' (first | exact Prs.nil | (apply Prs.cons; exact rfl))))) | ((with_reducible apply F.buildSlice); exact rfl; exact rfl; (focus (repeat' (first | exact Prs.nil | (apply Prs.cons; exact rfl))))) | ((with_reducible apply F.append); exact rfl; exact rfl; exact rfl; exact rfl; exact rfl; exact rfl; exact rfl; exact rfl) | ((with_reducible apply F.append3); exact rfl; exact rfl; exact rfl; exact rfl; exact rfl; exact rfl; exact rfl; exact rfl)); (focus (simp (disch := first | assumption | omega | (simp only [List.length_cons, List.length_nil, List.length_append, List.length_take, List.length_drop]; omega)) only [LS, buildV, fillV, over, buildSliceV, elemsOf, appendV, elems, arrAt, cut, roomy, mkAgg, allP, asP, V.cells, PC, Int.toNat_zero, Int.reduceToNat, *, hl, hcode, List.length_map, List.getElem?_map, Ins.pv, pc] <;> rfl)))
        | ((first | ((with_reducible apply F.indexAddr); exact rfl; exact rfl; exact rfl; exact rfl) | ((with_reducible apply F.len); exact rfl; exact rfl; exact rfl)); (focus (simp (disch := first | assumption | omega | (simp only [List.length_cons, List.length_nil, List.length_append, List.length_take, List.length_drop]; omega)) only [LS, lenV_L, idx_L, below_at, Int.toNat_zero, Int.reduceToNat, *, hl, hcode, List.length_map, List.getElem?_map, Ins.pv, pc] <;> rfl)))
        | ((first | ((with_reducible apply F.indexAddr); exact rfl; exact rfl; exact rfl; exact rfl) | ((with_reducible apply F.makeFunc); exact rfl; (focus (repeat' (first | exact Evs.nil | (apply Evs.cons; exact rfl)))); (focus (repeat' (first | exact Evs.nil | (apply Evs.cons; exact rfl))))) | ((with_reducible apply F.fieldAddrS); exact rfl; exact rfl; exact rfl) | ((with_reducible apply F.bin); exact rfl; exact rfl; exact rfl; exact rfl)); (focus (simp (disch := first | assumption | omega | (simp only [List.length_cons, List.length_nil, List.length_append, List.length_take, List.length_drop]; omega)) only [LS, indexAddrV, indexV, below_at, fieldV, fieldAddrV, convP, bytesOf, sliceV, bounds, bMax, bHi, bLo, upTo_at, makeFuncV, partV, partP, cut, binI, binS, binV, binP, arith, strOp_add, strOp_eql, strOp_neq, eqn, wrap64, wrap8, mkAgg, allP, asP, Option.getD_none, Int.toNat_zero, Int.reduceToNat, *, hl, hcode, List.length_map, List.getElem?_map, Ins.pv, pc] <;> rfl)))
        | ((first | ((with_reducible apply F.assignF); exact rfl; exact rfl) | ((with_reducible apply F.append2); exact rfl; exact rfl; exact rfl; exact rfl; exact rfl; exact rfl; exact rfl; exact rfl)); (focus (simp (disch := first | assumption | omega | (simp only [List.length_cons, List.length_nil, List.length_append, List.length_take, List.length_drop]; omega)) only [LS, frzCells, frz, markCells, mark, elems, arrAt, cut, allP, asP, appendV, V.cells, PC, roomy, Int.toNat_zero, Int.reduceToNat, *, hl, hcode, List.length_map, List.getElem?_map, Ins.pv, pc] <;> rfl)); (focus (simp (disch := first | assumption | omega | (simp only [List.length_cons, List.length_nil, List.length_append, List.length_take, List.length_drop]; omega)) only [LS, frzCells, frz, markCells, mark, elems, arrAt, cut, allP, asP, appendV, V.cells, PC, roomy, Int.toNat_zero, Int.reduceToNat, *, hl, hcode, List.length_map, List.getElem?_map, Ins.pv, pc] <;> rfl)))
        | (intro hc; (try rw [hc]); (try simp only [decide_eq_true_eq, decide_eq_false_iff_not, Bool.not_eq_eq_eq_not, Bool.not_true, Bool.not_false] at hc); (try (exfalso; omega)))
        | ((with_reducible apply E.r0); exact rfl; exact rfl)
        | ((first | ((with_reducible apply E.r1); exact rfl; exact rfl; (focus (exact look_of rfl))) | ((with_reducible apply E.rF1); exact rfl; exact rfl; (focus (exact look_of rfl))) | ((with_reducible apply E.rP1); exact rfl; exact rfl; (focus (exact look_of rfl))) | ((with_reducible apply E.r2); exact rfl; exact rfl; (focus (exact look_of rfl)); (focus (exact look_of rfl))) | ((with_reducible apply E.rF2); exact rfl; exact rfl; (focus (exact look_of rfl)); (focus (exact look_of rfl))) | ((with_reducible apply E.rP2); exact rfl; exact rfl; (focus (exact look_of rfl)); (focus (exact look_of rfl))) | ((with_reducible apply E.r3); exact rfl; exact rfl; (focus (exact look_of rfl)); (focus (exact look_of rfl)); (focus (exact look_of rfl))) | ((with_reducible apply E.rF3); exact rfl; exact rfl; (focus (exact look_of rfl)); (focus (exact look_of rfl)); (focus (exact look_of rfl))) | ((with_reducible apply E.rP3); exact rfl; exact rfl; (focus (exact look_of rfl)); (focus (exact look_of rfl)); (focus (exact look_of rfl)))))
        | refine R.regs rfl ?_
        | refine R.regsL rfl ?_
        | refine R.regsT rfl ?_
        | refine R.seq ?_
        | refine R.region rfl ?_
        | refine R.block ?_
        | exact rfl
      all_goals exact hend _ _ _ _ _ (by simp) (by simp only [pcL, List.reverse_cons, List.map_append, List.map_cons, List.map_nil, hP9]; rfl)
    · repeat' first
        | with_reducible apply M.free
        | with_reducible apply M.done
        | ((with_reducible apply F.move); exact rfl; exact rfl)
        | ((with_reducible apply F.load); exact rfl; exact rfl; exact rfl)
        | ((with_reducible apply F.cmp); exact rfl; exact rfl; exact rfl; exact rfl)
        | ((with_reducible apply F.assign); exact rfl; exact rfl)
        | ((with_reducible apply F.fieldAddr); exact rfl; exact rfl; exact rfl)
        | ((with_reducible apply F.len); exact rfl; exact rfl; exact rfl; exact rfl)
        | ((with_reducible apply F.extract); exact rfl; exact rfl; exact rfl)
        | ((with_reducible apply F.cmpS); exact rfl; exact rfl; exact rfl; exact rfl)
        | ((first | ((with_reducible apply F.add); exact rfl; exact rfl; exact rfl) | ((with_reducible apply F.adds); exact rfl; exact rfl; exact rfl)); (focus (first | omega | (simp only [List.length_cons, List.length_nil, List.length_append, List.length_take, List.length_drop]; omega))))
        | ((with_reducible apply R.regs); exact rfl)
        | ((with_reducible apply R.regsL); exact rfl)
        | ((with_reducible apply R.regsT); exact rfl)
        | ((with_reducible apply Cut.of); (focus (repeat' (first | exact Kp.nil | (apply Kp.cons; exact rfl)))); (focus ((try simp only [List.take_succ_cons, List.take_zero, List.take_nil, Nat.zero_add, Nat.reduceAdd]) <;> rfl)); (focus (first | exact rfl | (simp [cutOk, lowOb, lowV, lowCell, low_map]; done))))
        | ((with_reducible apply Lv.of); (focus (repeat' (first | exact Kp.nil | (apply Kp.cons; exact rfl)))))
        | ((first | ((with_reducible apply F.call1); exact rfl; exact rfl; (focus (repeat' (first | exact Evs.nil | (apply Evs.cons; exact rfl))))) | ((with_reducible apply F.call1N); exact rfl; exact rfl; (focus (repeat' (first | exact Evs.nil | (apply Evs.cons; exact rfl))))) | ((with_reducible apply F.callC); exact rfl; exact rfl; (focus (repeat' (first | exact Evs.nil | (apply Evs.cons; exact rfl))))) | ((with_reducible apply F.callCN); exact rfl; exact rfl; (focus (repeat' (first | exact Evs.nil | (apply Evs.cons; exact rfl)))))); (focus (first | exact hTake _ _)))
        | ((first | (with_reducible apply R.cond) | ((with_reducible apply M.guard); exact rfl)); (focus (first | (refine Eq.trans (look_of rfl) ?_; first | (simp only [decide_true, decide_false, Bool.not_true, Bool.not_false, *, hl, hcode, List.length_map, List.getElem?_map, Ins.pv, pc] <;> rfl) | exact rfl) | exact look_of rfl)))
        | refine imp_yes rfl ?_
        | exact imp_no rfl
        | with_reducible apply R.seq
        | ((with_reducible apply R.region); exact rfl)
        | ((with_reducible apply R.regionL); exact rfl)
        | ((with_reducible apply R.regionT); exact rfl)
        | with_reducible apply E.seqN
        | with_reducible apply E.seqX
        | with_reducible apply E.seqR
        | with_reducible apply E.blkN
        | with_reducible apply E.blkR
        | ((with_reducible apply E.blkX); exact rfl)
        | ((with_reducible apply E.blkO); exact rfl)
        | with_reducible apply R.skip
        | with_reducible apply R.ret
        | with_reducible apply R.block
        | with_reducible apply R.exit
        | ((with_reducible apply F.append); exact rfl; exact rfl; exact rfl; exact rfl; exact rfl; exact rfl; exact rfl; exact rfl; (focus (refine Eq.trans (append_arr (by simp) (by decide) (fun p hp => by simp only [List.mem_singleton] at hp; subst hp; rfl) rfl hcut (Nat.zero_le _) (by simp only [List.length_cons, List.length_nil]; omega) (by decide)) ?_; simp only [List.length_cons, List.length_nil, List.cons_append, List.nil_append, List.set_cons_zero, List.set_cons_succ, List.map_cons, List.map_nil, Nat.zero_add, Nat.reduceAdd, Nat.sub_zero]; rfl)))
        | ((first | ((with_reducible apply F.store); exact rfl; exact rfl; exact rfl; exact rfl) | ((with_reducible apply F.loadS); exact rfl; exact rfl; exact rfl) | ((with_reducible apply F.load2); exact rfl; exact rfl; exact rfl)); (focus (simp (disch := first | assumption | omega | (simp only [List.length_cons, List.length_nil, List.length_append, List.length_take, List.length_drop]; omega)) only [LS, storeV, loadV, partV, partP, cut, over, mkAgg, allP, asP, V.cells, PC, elDiv, elMod, elDiv0, Nat.mul_mod_left, Int.toNat_zero, Int.reduceToNat, *, hl, hcode, List.length_map, List.getElem?_map, Ins.pv, pc] <;> rfl)))
        | ((first | ((with_reducible apply F.alloc); exact rfl; exact rfl)); (focus (simp only [LS] <;> rfl)); (focus (simp only [LS] <;> rfl)))
        | ((first | ((with_reducible apply F.build); exact rfl; exact rfl; (focus (repeat' (first | exact Prs.nil | (apply Prs.cons; exact rfl))))) | ((with_reducible apply F.buildSlice); exact rfl; exact rfl; (focus (repeat' (first | exact Prs.nil | (apply Prs.cons; exact rfl))))) | ((with_reducible apply F.append); exact rfl; exact rfl; exact rfl; exact rfl; exact rfl; exact rfl; exact rfl; exact rfl) | ((with_reducible apply F.append3); exact rfl; exact rfl; exact rfl; exact rfl; exact rfl; exact rfl; exact rfl; exact rfl)); (focus (simp (disch := first | assumption | omega | (simp only [List.length_cons, List.length_nil, List.length_append, List.length_take, List.length_drop]; omega)) only [LS, buildV, fillV, over, buildSliceV, elemsOf, appendV, elems, arrAt, cut, roomy, mkAgg, allP, asP, V.cells, PC, Int.toNat_zero, Int.reduceToNat, *, hl, hcode, List.length_map, List.getElem?_map, Ins.pv, pc] <;> rfl)))
        | ((first | ((with_reducible apply F.indexAddr); exact rfl; exact rfl; exact rfl; exact rfl) | ((with_reducible apply F.len); exact rfl; exact rfl; exact rfl)); (focus (simp (disch := first | assumption | omega | (simp only [List.length_cons, List.length_nil, List.length_append, List.length_take, List.length_drop]; omega)) only [LS, lenV_L, idx_L, below_at, Int.toNat_zero, Int.reduceToNat, *, hl, hcode, List.length_map, List.getElem?_map, Ins.pv, pc] <;> rfl)))
        | ((first | ((with_reducible apply F.indexAddr); exact rfl; exact rfl; exact rfl; exact rfl) | ((with_reducible apply F.makeFunc); exact rfl; (focus (repeat' (first | exact Evs.nil | (apply Evs.cons; exact rfl)))); (focus (repeat' (first | exact Evs.nil | (apply Evs.cons; exact rfl))))) | ((with_reducible apply F.fieldAddrS); exact rfl; exact rfl; exact rfl) | ((with_reducible apply F.bin); exact rfl; exact rfl; exact rfl; exact rfl)); (focus (simp (disch := first | assumption | omega | (simp only [List.length_cons, List.length_nil, List.length_append, List.length_take, List.length_drop]; omega)) only [LS, indexAddrV, indexV, below_at, fieldV, fieldAddrV, convP, bytesOf, sliceV, bounds, bMax, bHi, bLo, upTo_at, makeFuncV, partV, partP, cut, binI, binS, binV, binP, arith, strOp_add, strOp_eql, strOp_neq, eqn, wrap64, wrap8, mkAgg, allP, asP, Option.getD_none, Int.toNat_zero, Int.reduceToNat, *, hl, hcode, List.length_map, List.getElem?_map, Ins.pv, pc] <;> rfl)))
        | ((first | ((with_reducible apply F.assignF); exact rfl; exact rfl) | ((with_reducible apply F.append2); exact rfl; exact rfl; exact rfl; exact rfl; exact rfl; exact rfl; exact rfl; exact rfl)); (focus (simp (disch := first | assumption | omega | (simp only [List.length_cons, List.length_nil, List.length_append, List.length_take, List.length_drop]; omega)) only [LS, frzCells, frz, markCells, mark, elems, arrAt, cut, allP, asP, appendV, V.cells, PC, roomy, Int.toNat_zero, Int.reduceToNat, *, hl, hcode, List.length_map, List.getElem?_map, Ins.pv, pc] <;> rfl)); (focus (simp (disch := first | assumption | omega | (simp only [List.length_cons, List.length_nil, List.length_append, List.length_take, List.length_drop]; omega)) only [LS, frzCells, frz, markCells, mark, elems, arrAt, cut, allP, asP, appendV, V.cells, PC, roomy, Int.toNat_zero, Int.reduceToNat, *, hl, hcode, List.length_map, List.getElem?_map, Ins.pv, pc] <;> rfl)))
        | (intro hc; (try rw [hc]); (try simp only [decide_eq_true_eq, decide_eq_false_iff_not, Bool.not_eq_eq_eq_not, Bool.not_true, Bool.not_false] at hc); (try (exfalso; omega)))
        | ((with_reducible apply E.r0); exact rfl; exact rfl)
        | ((first | ((with_reducible apply E.r1); exact rfl; exact rfl; (focus (exact look_of rfl))) | ((with_reducible apply E.rF1); exact rfl; exact rfl; (focus (exact look_of rfl))) | ((with_reducible apply E.rP1); exact rfl; exact rfl; (focus (exact look_of rfl))) | ((with_reducible apply E.r2); exact rfl; exact rfl; (focus (exact look_of rfl)); (focus (exact look_of rfl))) | ((with_reducible apply E.rF2); exact rfl; exact rfl; (focus (exact look_of rfl)); (focus (exact look_of rfl))) | ((with_reducible apply E.rP2); exact rfl; exact rfl; (focus (exact look_of rfl)); (focus (exact look_of rfl))) | ((with_reducible apply E.r3); exact rfl; exact rfl; (focus (exact look_of rfl)); (focus (exact look_of rfl)); (focus (exact look_of rfl))) | ((with_reducible apply E.rF3); exact rfl; exact rfl; (focus (exact look_of rfl)); (focus (exact look_of rfl)); (focus (exact look_of rfl))) | ((with_reducible apply E.rP3); exact rfl; exact rfl; (focus (exact look_of rfl)); (focus (exact look_of rfl)); (focus (exact look_of rfl)))))
        | refine R.regs rfl ?_
        | refine R.regsL rfl ?_
        | refine R.regsT rfl ?_
        | refine R.seq ?_
        | refine R.region rfl ?_
        | refine R.block ?_
        | exact rfl
      all_goals exact hend _ _ _ _ _ (by simp) (by simp only [pcL, List.reverse_cons, List.map_append, List.map_cons, List.map_nil, hP10]; rfl)
  obtain ⟨o, rfl⟩ := Int.eq_ofNat_of_zero_le (show 0 ≤ op by omega)
  have hBt := fun o0 o1' o3 => between_run o ver r.length 0 (by omega) (by omega) (by omega) (by omega) o0 o1' o3 es (plainF vars a') (plainF vars b') (48 + a'.rank) (48 + b'.rank) (bareT a') (bareT b') (by omega) (by omega) hE1 hE2
  rw [bin_piece o n a' b' (by omega) (by omega) (by omega) (by omega)] at hBt
  have q1 : ¬ (o : Int) = 1 := by omega
  have q2 : ¬ (o : Int) = 2 := by omega
  have q3 : ¬ (o : Int) = 3 := by omega
  have q4 : ¬ (o : Int) = 4 := by omega
  have q5 : ¬ (o : Int) = 5 := by omega
  have q9 : ¬ (o : Int) = 9 := by omega
  have q10 : ¬ (o : Int) = 10 := by omega
  repeat' first
    | with_reducible apply M.free
    | with_reducible apply M.done
    | ((with_reducible apply F.move); exact rfl; exact rfl)
    | ((with_reducible apply F.load); exact rfl; exact rfl; exact rfl)
    | ((with_reducible apply F.cmp); exact rfl; exact rfl; exact rfl; exact rfl)
    | ((with_reducible apply F.assign); exact rfl; exact rfl)
    | ((with_reducible apply F.fieldAddr); exact rfl; exact rfl; exact rfl)
    | ((with_reducible apply F.len); exact rfl; exact rfl; exact rfl; exact rfl)
    | ((with_reducible apply F.extract); exact rfl; exact rfl; exact rfl)
    | ((with_reducible apply F.cmpS); exact rfl; exact rfl; exact rfl; exact rfl)
    | ((first | ((with_reducible apply F.add); exact rfl; exact rfl; exact rfl) | ((with_reducible apply F.adds); exact rfl; exact rfl; exact rfl)); (focus (first | omega | (simp only [List.length_cons, List.length_nil, List.length_append, List.length_take, List.length_drop]; omega))))
    | ((with_reducible apply R.regs); exact rfl)
    | ((with_reducible apply R.regsL); exact rfl)
    | ((with_reducible apply R.regsT); exact rfl)
    | ((with_reducible apply Cut.of); (focus (repeat' (first | exact Kp.nil | (apply Kp.cons; exact rfl)))); (focus ((try simp only [List.take_succ_cons, List.take_zero, List.take_nil, Nat.zero_add, Nat.reduceAdd]) <;> rfl)); (focus (first | exact rfl | (simp [cutOk, lowOb, lowV, lowCell, low_map]; done))))
    | ((with_reducible apply Lv.of); (focus (repeat' (first | exact Kp.nil | (apply Kp.cons; exact rfl)))))
    | ((first | ((with_reducible apply F.call1); exact rfl; exact rfl; (focus (repeat' (first | exact Evs.nil | (apply Evs.cons; exact rfl))))) | ((with_reducible apply F.call1N); exact rfl; exact rfl; (focus (repeat' (first | exact Evs.nil | (apply Evs.cons; exact rfl))))) | ((with_reducible apply F.callC); exact rfl; exact rfl; (focus (repeat' (first | exact Evs.nil | (apply Evs.cons; exact rfl))))) | ((with_reducible apply F.callCN); exact rfl; exact rfl; (focus (repeat' (first | exact Evs.nil | (apply Evs.cons; exact rfl)))))); (focus (first | exact hTake _ _ | exact hBt _ _ _)))
    | ((first | (with_reducible apply R.cond) | ((with_reducible apply M.guard); exact rfl)); (focus (first | (refine Eq.trans (look_of rfl) ?_; first | (simp only [decide_true, decide_false, Bool.not_true, Bool.not_false, *, hl, hcode, List.length_map, List.getElem?_map, Ins.pv, pieceOf, pc] <;> rfl) | exact rfl) | exact look_of rfl)))
    | refine imp_yes rfl ?_
    | exact imp_no rfl
    | with_reducible apply R.seq
    | ((with_reducible apply R.region); exact rfl)
    | ((with_reducible apply R.regionL); exact rfl)
    | ((with_reducible apply R.regionT); exact rfl)
    | with_reducible apply E.seqN
    | with_reducible apply E.seqX
    | with_reducible apply E.seqR
    | with_reducible apply E.blkN
    | with_reducible apply E.blkR
    | ((with_reducible apply E.blkX); exact rfl)
    | ((with_reducible apply E.blkO); exact rfl)
    | with_reducible apply R.skip
    | with_reducible apply R.ret
    | with_reducible apply R.block
    | with_reducible apply R.exit
    | ((with_reducible apply F.append); exact rfl; exact rfl; exact rfl; exact rfl; exact rfl; exact rfl; exact rfl; exact rfl; (focus (refine Eq.trans (append_arr (by simp) (by decide) (fun p hp => by simp only [List.mem_singleton] at hp; subst hp; rfl) rfl hcut (Nat.zero_le _) (by simp only [List.length_cons, List.length_nil]; omega) (by decide)) ?_; simp only [List.length_cons, List.length_nil, List.cons_append, List.nil_append, List.set_cons_zero, List.set_cons_succ, List.map_cons, List.map_nil, Nat.zero_add, Nat.reduceAdd, Nat.sub_zero]; rfl)))
    | ((first | ((with_reducible apply F.store); exact rfl; exact rfl; exact rfl; exact rfl) | ((with_reducible apply F.loadS); exact rfl; exact rfl; exact rfl) | ((with_reducible apply F.load2); exact rfl; exact rfl; exact rfl)); (focus (simp (disch := first | assumption | omega | (simp only [List.length_cons, List.length_nil, List.length_append, List.length_take, List.length_drop]; omega)) only [LS, storeV, loadV, partV, partP, cut, over, mkAgg, allP, asP, V.cells, PC, elDiv, elMod, elDiv0, Nat.mul_mod_left, Int.toNat_zero, Int.reduceToNat, *, hl, hcode, List.length_map, List.getElem?_map, Ins.pv, pieceOf, pc] <;> rfl)))
    | ((first | ((with_reducible apply F.alloc); exact rfl; exact rfl)); (focus (simp only [LS] <;> rfl)); (focus (simp only [LS] <;> rfl)))
    | ((first | ((with_reducible apply F.build); exact rfl; exact rfl; (focus (repeat' (first | exact Prs.nil | (apply Prs.cons; exact rfl))))) | ((with_reducible apply F.buildSlice); exact rfl; exact rfl; (focus (repeat' (first | exact Prs.nil | (apply Prs.cons; exact rfl))))) | ((with_reducible apply F.append); exact rfl; exact rfl; exact rfl; exact rfl; exact rfl; exact rfl; exact rfl; exact rfl) | ((with_reducible apply F.append3); exact rfl; exact rfl; exact rfl; exact rfl; exact rfl; exact rfl; exact rfl; exact rfl)); (focus (simp (disch := first | assumption | omega | (simp only [List.length_cons, List.length_nil, List.length_append, List.length_take, List.length_drop]; omega)) only [LS, buildV, fillV, over, buildSliceV, elemsOf, appendV, elems, arrAt, cut, roomy, mkAgg, allP, asP, V.cells, PC, Int.toNat_zero, Int.reduceToNat, *, hl, hcode, List.length_map, List.getElem?_map, Ins.pv, pieceOf, pc] <;> rfl)))
    | ((first | ((with_reducible apply F.indexAddr); exact rfl; exact rfl; exact rfl; exact rfl) | ((with_reducible apply F.len); exact rfl; exact rfl; exact rfl)); (focus (simp (disch := first | assumption | omega | (simp only [List.length_cons, List.length_nil, List.length_append, List.length_take, List.length_drop]; omega)) only [LS, lenV_L, idx_L, below_at, Int.toNat_zero, Int.reduceToNat, *, hl, hcode, List.length_map, List.getElem?_map, Ins.pv, pieceOf, pc] <;> rfl)))
    | ((first | ((with_reducible apply F.indexAddr); exact rfl; exact rfl; exact rfl; exact rfl) | ((with_reducible apply F.makeFunc); exact rfl; (focus (repeat' (first | exact Evs.nil | (apply Evs.cons; exact rfl)))); (focus (repeat' (first | exact Evs.nil | (apply Evs.cons; exact rfl))))) | ((with_reducible apply F.fieldAddrS); exact rfl; exact rfl; exact rfl) | ((with_reducible apply F.bin); exact rfl; exact rfl; exact rfl; exact rfl)); (focus (simp (disch := first | assumption | omega | (simp only [List.length_cons, List.length_nil, List.length_append, List.length_take, List.length_drop]; omega)) only [LS, indexAddrV, indexV, below_at, fieldV, fieldAddrV, convP, bytesOf, sliceV, bounds, bMax, bHi, bLo, upTo_at, makeFuncV, partV, partP, cut, binI, binS, binV, binP, arith, strOp_add, strOp_eql, strOp_neq, eqn, wrap64, wrap8, mkAgg, allP, asP, Option.getD_none, Int.toNat_zero, Int.reduceToNat, *, hl, hcode, List.length_map, List.getElem?_map, Ins.pv, pieceOf, pc] <;> rfl)))
    | ((first | ((with_reducible apply F.assignF); exact rfl; exact rfl) | ((with_reducible apply F.append2); exact rfl; exact rfl; exact rfl; exact rfl; exact rfl; exact rfl; exact rfl; exact rfl)); (focus (simp (disch := first | assumption | omega | (simp only [List.length_cons, List.length_nil, List.length_append, List.length_take, List.length_drop]; omega)) only [LS, frzCells, frz, markCells, mark, elems, arrAt, cut, allP, asP, appendV, V.cells, PC, roomy, Int.toNat_zero, Int.reduceToNat, *, hl, hcode, List.length_map, List.getElem?_map, Ins.pv, pieceOf, pc] <;> rfl)); (focus (simp (disch := first | assumption | omega | (simp only [List.length_cons, List.length_nil, List.length_append, List.length_take, List.length_drop]; omega)) only [LS, frzCells, frz, markCells, mark, elems, arrAt, cut, allP, asP, appendV, V.cells, PC, roomy, Int.toNat_zero, Int.reduceToNat, *, hl, hcode, List.length_map, List.getElem?_map, Ins.pv, pieceOf, pc] <;> rfl)))
    | (intro hc; (try rw [hc]); (try simp only [decide_eq_true_eq, decide_eq_false_iff_not, Bool.not_eq_eq_eq_not, Bool.not_true, Bool.not_false] at hc); (try (exfalso; omega)))
    | ((with_reducible apply E.r0); exact rfl; exact rfl)
    | ((first | ((with_reducible apply E.r1); exact rfl; exact rfl; (focus (exact look_of rfl))) | ((with_reducible apply E.rF1); exact rfl; exact rfl; (focus (exact look_of rfl))) | ((with_reducible apply E.rP1); exact rfl; exact rfl; (focus (exact look_of rfl))) | ((with_reducible apply E.r2); exact rfl; exact rfl; (focus (exact look_of rfl)); (focus (exact look_of rfl))) | ((with_reducible apply E.rF2); exact rfl; exact rfl; (focus (exact look_of rfl)); (focus (exact look_of rfl))) | ((with_reducible apply E.rP2); exact rfl; exact rfl; (focus (exact look_of rfl)); (focus (exact look_of rfl))) | ((with_reducible apply E.r3); exact rfl; exact rfl; (focus (exact look_of rfl)); (focus (exact look_of rfl)); (focus (exact look_of rfl))) | ((with_reducible apply E.rF3); exact rfl; exact rfl; (focus (exact look_of rfl)); (focus (exact look_of rfl)); (focus (exact look_of rfl))) | ((with_reducible apply E.rP3); exact rfl; exact rfl; (focus (exact look_of rfl)); (focus (exact look_of rfl)); (focus (exact look_of rfl)))))
    | refine R.regs rfl ?_
    | refine R.regsL rfl ?_
    | refine R.regsT rfl ?_
    | refine R.seq ?_
    | refine R.region rfl ?_
    | refine R.block ?_
    | exact rfl
  all_goals exact hend _ _ _ _ _ (by simp) (by simp only [pcL, List.reverse_cons, List.map_append, List.map_cons, List.map_nil, pieceOf, pc])
end Go.Proofs.YtojpocfnjigmfaaDoor
