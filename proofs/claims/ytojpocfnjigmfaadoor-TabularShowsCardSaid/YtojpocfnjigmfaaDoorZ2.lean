import Derived.Test.YtojpocfnjigmfaaDoorZ1
import Derived.Test.YtojpocfnjigmfaaDoorAX19
set_option maxRecDepth 10000
set_option linter.unusedSimpArgs false
set_option linter.unusedVariables false
namespace Go.Proofs.YtojpocfnjigmfaaDoor
open Go Go.AX
noncomputable def fi58 : FnI := { body := (Tryd.f58.body).getD .skip, ntmps := 20, results := Tryd.f58.results.toList, hints := [] }
theorem cxF58 : cx.F 58 = some fi58 := by kernel_rfl
noncomputable def fi27 : FnI := { body := (Tryd.f27.body).getD .skip, ntmps := 15, results := Tryd.f27.results.toList, hints := [] }
theorem cxF27 : cx.F 27 = some fi27 := by kernel_rfl
noncomputable def fi26 : FnI := { body := (Tryd.f26.body).getD .skip, ntmps := 38, results := Tryd.f26.results.toList, hints := [] }
theorem cxF26 : cx.F 26 = some fi26 := by kernel_rfl
noncomputable def fi28 : FnI := { body := (Tryd.f28.body).getD .skip, ntmps := 45, results := Tryd.f28.results.toList, hints := [] }
theorem cxF28 : cx.F 28 = some fi28 := by kernel_rfl
noncomputable def fi25 : FnI := { body := (Tryd.f25.body).getD .skip, ntmps := 18, results := Tryd.f25.results.toList, hints := [] }
theorem cxF25 : cx.F 25 = some fi25 := by kernel_rfl
def dec (n : Nat) : List UInt8 := if n < 10 then [UInt8.ofNat (48 + n)] else dec (n / 10) ++ [UInt8.ofNat (48 + n % 10)]
theorem dec_short : ∀ (k n : Nat), n < 10 ^ (k + 1) → (dec n).length ≤ k + 1
  | 0, n, h => by
    unfold dec
    rw [if_pos (by simpa using h)]
    simp
  | k + 1, n, h => by
    unfold dec
    split
    · simp
    · have := dec_short k (n / 10) (by rw [Nat.pow_succ] at h; omega)
      simp
      omega
theorem dec_20 {n : Nat} (h : n < 9223372036854775808) : (dec n).length ≤ 20 := dec_short 19 n (by omega)
theorem digits_run (n : Nat) (hn : n < 9223372036854775808) : PV cx 58 [.p (.int .i64 n)] (.str (dec n)) := by
  induction n using Nat.strongRecOn with
  | _ n ih =>
    refine PV.run cxF58 rfl ?_
    simp only [args0, Nat.zero_add, Nat.reduceAdd]
    by_cases h : (n : Int) < 10
    · have e : dec n = [UInt8.ofNat (48 + (n : Int)).toNat] := by
        unfold dec
        rw [if_pos (by omega)]
        have : (48 + (n : Int)).toNat = 48 + n := by omega
        rw [this]
      rw [e]
      repeat' first | (with_reducible first | apply M.free | apply M.done | apply E.seqR | apply R.ret) | ((with_reducible first | apply F.move | apply F.assign); exact rfl; exact rfl) | ((with_reducible apply F.cmp); (iterate 4 exact rfl)) | (((with_reducible apply F.add); (iterate 3 exact rfl)); (focus (first | omega | (simp only [lnX]; omega)))) | ((with_reducible apply R.regs); exact rfl) | ((first | (with_reducible apply R.cond) | ((with_reducible apply M.guard); exact rfl)); (focus (first | (refine Eq.trans (look_of rfl) ?_; first | (simp only [dtX, *] <;> rfl) | exact rfl) | exact look_of rfl))) | refine imp_yes rfl ?_ | exact imp_no rfl | with_reducible apply R.seq | (((with_reducible apply F.buildSlice); exact rfl; exact rfl; (focus (repeat' (first | exact Prs.nil | (apply Prs.cons; exact rfl))))); (focus (simp (disch := first | assumption | omega | (simp only [lnX]; omega)) only [LS, buildV, fillV, over, buildSliceV, elemsOf, appendV, elems, arrAt, cut, roomy, mkAgg, allP, asP, V.cells, PC, Int.toNat_zero, Int.reduceToNat, *] <;> rfl))) | (((with_reducible apply F.convert); (iterate 4 exact rfl)); (focus (simp (disch := first | assumption | omega | (simp only [lnX]; omega)) only [LS, indexAddrV, indexV, below_at, fieldV, fieldAddrV, convP, bytesOf, sliceV, bounds, bMax, bHi, bLo, upTo_at, makeFuncV, partV, partP, cut, binI, binS, binV, binP, arith, strOp_add, strOp_eql, strOp_neq, eqn, wrap64, wrap8, mkAgg, allP, asP, Option.getD_none, Int.toNat_zero, Int.reduceToNat, *] <;> rfl))) | (((with_reducible apply E.rP1); exact rfl; exact rfl; (focus (exact look_of rfl)))) | refine R.regs rfl ?_ | exact rfl
    · have hr := (ih (n / 10) (by omega) (by omega)).fv
      have e : dec n = dec (n / 10) ++ [UInt8.ofNat (48 + ((n % 10 : Nat) : Int)).toNat] := by
        rw [dec, if_neg (by omega)]
        have : (48 + ((n % 10 : Nat) : Int)).toNat = 48 + n % 10 := by omega
        rw [this]
      rw [e]
      have hl := dec_20 (show n / 10 < 9223372036854775808 by omega)
      have e1 : (n : Int).tdiv 10 = ((n / 10 : Nat) : Int) := rfl
      have e2 : (n : Int).tmod 10 = ((n % 10 : Nat) : Int) := rfl
      have z : ¬ (10 : Int) = 0 := by decide
      clear ih e
      repeat' first | (with_reducible first | apply M.free | apply M.done | apply E.seqN | apply R.skip | apply R.ret) | ((with_reducible first | apply F.move | apply F.assign); exact rfl; exact rfl) | ((with_reducible apply F.cmp); (iterate 4 exact rfl)) | ((first | ((with_reducible apply F.add); (iterate 3 exact rfl)) | ((with_reducible apply F.adds); (iterate 3 exact rfl))); (focus (first | omega | (simp only [lnX]; omega)))) | ((with_reducible apply R.regs); exact rfl) | ((with_reducible apply F.call0); exact rfl; exact rfl; (focus (repeat' (first | exact Evs.nil | (apply Evs.cons; exact rfl)))); exact rfl; (focus (first | exact hr))) | ((first | (with_reducible apply R.cond) | ((with_reducible apply M.guard); exact rfl)); (focus (first | (refine Eq.trans (look_of rfl) ?_; first | (simp only [dtX, *] <;> rfl) | exact rfl) | exact look_of rfl))) | refine imp_yes rfl ?_ | exact imp_no rfl | with_reducible apply R.seq | (((with_reducible apply F.buildSlice); exact rfl; exact rfl; (focus (repeat' (first | exact Prs.nil | (apply Prs.cons; exact rfl))))); (focus (simp (disch := first | assumption | omega | (simp only [lnX]; omega)) only [LS, buildV, fillV, over, buildSliceV, elemsOf, appendV, elems, arrAt, cut, roomy, mkAgg, allP, asP, V.cells, PC, Int.toNat_zero, Int.reduceToNat, *] <;> rfl))) | ((first | ((with_reducible apply F.convert); (iterate 4 exact rfl)) | ((with_reducible apply F.bin); (iterate 4 exact rfl))); (focus (simp (disch := first | assumption | omega | (simp only [lnX]; omega)) only [LS, indexAddrV, indexV, below_at, fieldV, fieldAddrV, convP, bytesOf, sliceV, bounds, bMax, bHi, bLo, upTo_at, makeFuncV, partV, partP, cut, binI, binS, binV, binP, arith, strOp_add, strOp_eql, strOp_neq, eqn, wrap64, wrap8, mkAgg, allP, asP, Option.getD_none, Int.toNat_zero, Int.reduceToNat, *] <;> rfl))) | (((with_reducible apply E.rP1); exact rfl; exact rfl; (focus (exact look_of rfl)))) | refine R.regs rfl ?_ | exact rfl
def heldF (s : List UInt8) (k q : Int) : List UInt8 := if k < q then 40 :: (s ++ [41]) else s
def pc (s : List UInt8) (k : Int) (b : Bool) : Pv := .agg [.str s, .int .u8 k, .bool b]
theorem held_run (s : List UInt8) (hs : s.length ≤ 4611686018427387904) (k q : Int) (b : Bool) : PV cx 27 [.p (pc s k b), .p (.int .u8 q)] (.str (heldF s k q)) := by
  refine PV.run cxF27 rfl ?_
  simp only [args0, Nat.zero_add, Nat.reduceAdd, pc]
  repeat' first | (with_reducible first | apply M.free | apply M.done | apply E.seqN | apply E.seqR | apply R.skip | apply R.ret) | ((with_reducible first | apply F.move | apply F.assign); exact rfl; exact rfl) | ((with_reducible first | apply F.load | apply F.fieldAddr); (iterate 3 exact rfl)) | ((with_reducible apply F.cmp); (iterate 4 exact rfl)) | (((with_reducible apply F.adds); (iterate 3 exact rfl)); (focus (first | omega | (simp only [lnX]; omega)))) | ((with_reducible apply R.regs); exact rfl) | ((first | (with_reducible apply R.cond) | ((with_reducible apply M.guard); exact rfl)); (focus (first | (refine Eq.trans (look_of rfl) ?_; first | (simp only [dtX, *] <;> rfl) | exact rfl) | exact look_of rfl))) | with_reducible apply R.seq | (((with_reducible apply F.box); (iterate 3 exact rfl)); (focus (simp (disch := first | assumption | omega | (simp only [lnX]; omega)) only [LS, storeV, loadV, partV, partP, cut, over, mkAgg, allP, asP, V.cells, PC, elDiv, elMod, elDiv0, Nat.mul_mod_left, Int.toNat_zero, Int.reduceToNat, *] <;> rfl)); exact rfl; (focus (simp only [LS] <;> rfl)); (focus (simp only [LS] <;> rfl))) | (intro hc; (try rw [hc]); (try simp only [decide_eq_true_eq, decide_eq_false_iff_not, Bool.not_eq_eq_eq_not, Bool.not_true, Bool.not_false] at hc); (try (exfalso; omega))) | (((with_reducible apply E.rP1); exact rfl; exact rfl; (focus (exact look_of rfl)))) | refine R.regs rfl ?_
  all_goals (simp only [heldF]; first | (rw [if_pos ‹_›]; rfl) | rw [if_neg ‹_›])
theorem leaf_var (n : Nat) (x : Pv) (hx : IsL 1 x) (l : List (List UInt8)) (hl : elemsP x = l.map .str) (v : List UInt8) (hv : l[n]? = some v) : PV cx 26 [.p (Ins.pv ⟨2, n⟩), .p x] (pc v 55 false) := by
  refine PV.run cxF26 rfl ?_
  have hn : n < l.length := (List.getElem?_eq_some_iff.1 hv).1
  simp only [args0, Nat.zero_add, Nat.reduceAdd, pc, Ins.pv]
  repeat' first | (with_reducible first | apply M.free | apply M.done | apply E.seqR | apply E.blkR | apply R.ret) | ((with_reducible first | apply F.move | apply F.assign); exact rfl; exact rfl) | ((with_reducible first | apply F.load | apply F.fieldAddr); (iterate 3 exact rfl)) | ((with_reducible apply F.cmp); (iterate 4 exact rfl)) | ((with_reducible apply R.regs); exact rfl) | ((first | (with_reducible apply R.cond) | ((with_reducible apply M.guard); exact rfl)); (focus (first | (refine Eq.trans (look_of rfl) ?_; first | (simp only [dtX, *, hl, hv, List.length_map, List.getElem?_map] <;> rfl) | exact rfl) | exact look_of rfl))) | refine imp_yes rfl ?_ | exact imp_no rfl | with_reducible apply R.seq | with_reducible apply R.block | (((with_reducible apply F.store); (iterate 4 exact rfl)); (focus (simp (disch := first | assumption | omega | (simp only [lnX]; omega)) only [LS, storeV, loadV, partV, partP, cut, over, mkAgg, allP, asP, V.cells, PC, elDiv, elMod, elDiv0, Nat.mul_mod_left, Int.toNat_zero, Int.reduceToNat, *, hl, hv, List.length_map, List.getElem?_map] <;> rfl))) | (((with_reducible apply F.alloc); exact rfl; exact rfl); (focus (simp only [LS] <;> rfl)); (focus (simp only [LS] <;> rfl))) | (((with_reducible apply F.box); (iterate 3 exact rfl)); (focus (simp (disch := first | assumption | omega | (simp only [lnX]; omega)) only [LS, storeV, loadV, partV, partP, cut, over, mkAgg, allP, asP, V.cells, PC, elDiv, elMod, elDiv0, Nat.mul_mod_left, Int.toNat_zero, Int.reduceToNat, *, hl, hv, List.length_map, List.getElem?_map] <;> rfl)); exact rfl; (focus (simp only [LS] <;> rfl)); (focus (simp only [LS] <;> rfl))) | (((with_reducible apply F.build); exact rfl; exact rfl; (focus (repeat' (first | exact Prs.nil | (apply Prs.cons; exact rfl))))); (focus (simp (disch := first | assumption | omega | (simp only [lnX]; omega)) only [LS, buildV, fillV, over, buildSliceV, elemsOf, appendV, elems, arrAt, cut, roomy, mkAgg, allP, asP, V.cells, PC, Int.toNat_zero, Int.reduceToNat, *, hl, hv, List.length_map, List.getElem?_map] <;> rfl))) | (((with_reducible apply F.indexAddr); (iterate 4 exact rfl)); (focus (simp (disch := first | assumption | omega | (simp only [lnX]; omega)) only [LS, lenV_L, idx_L, below_at, Int.toNat_zero, Int.reduceToNat, *, hl, hv, List.length_map, List.getElem?_map] <;> rfl))) | (((with_reducible apply E.rPc); exact rfl; exact rfl; (focus (exact look_of rfl)); exact rfl); (focus (simp (disch := first | assumption | omega | (simp only [lnX]; omega)) only [LS, storeV, loadV, partV, partP, cut, over, mkAgg, allP, asP, V.cells, PC, elDiv, elMod, elDiv0, Nat.mul_mod_left, Int.toNat_zero, Int.reduceToNat, *, hl, hv, List.length_map, List.getElem?_map] <;> rfl))) | refine R.regs rfl ?_ | exact rfl
theorem leaf_arg (n : Nat) (hn : n < 9223372036854775808) (x : Pv) : PV cx 26 [.p (Ins.pv ⟨3, n⟩), .p x] (pc (36 :: dec n) 55 false) := by
  refine PV.run cxF26 rfl ?_
  simp only [args0, Nat.zero_add, Nat.reduceAdd, pc, Ins.pv]
  have hl := dec_20 hn
  repeat' first | (with_reducible first | apply M.free | apply M.done | apply E.seqR | apply E.blkR | apply R.ret) | ((with_reducible first | apply F.load | apply F.fieldAddr); (iterate 3 exact rfl)) | ((with_reducible apply F.cmp); (iterate 4 exact rfl)) | ((with_reducible apply F.assign); exact rfl; exact rfl) | (((with_reducible apply F.adds); (iterate 3 exact rfl)); (focus (first | omega | (simp only [lnX]; omega)))) | ((with_reducible apply R.regs); exact rfl) | ((with_reducible apply F.call0); exact rfl; exact rfl; (focus (repeat' (first | exact Evs.nil | (apply Evs.cons; exact rfl)))); exact rfl; (focus (first | exact (digits_run n hn).fv))) | ((first | (with_reducible apply R.cond) | ((with_reducible apply M.guard); exact rfl)); (focus (first | (refine Eq.trans (look_of rfl) ?_; first | (simp only [dtX, *] <;> rfl) | exact rfl) | exact look_of rfl))) | refine imp_yes rfl ?_ | exact imp_no rfl | with_reducible apply R.seq | with_reducible apply R.block | (((with_reducible apply F.store); (iterate 4 exact rfl)); (focus (simp (disch := first | assumption | omega | (simp only [lnX]; omega)) only [LS, storeV, loadV, partV, partP, cut, over, mkAgg, allP, asP, V.cells, PC, elDiv, elMod, elDiv0, Nat.mul_mod_left, Int.toNat_zero, Int.reduceToNat, *] <;> rfl))) | (((with_reducible apply F.alloc); exact rfl; exact rfl); (focus (simp only [LS] <;> rfl)); (focus (simp only [LS] <;> rfl))) | (((with_reducible apply F.box); (iterate 3 exact rfl)); (focus (simp (disch := first | assumption | omega | (simp only [lnX]; omega)) only [LS, storeV, loadV, partV, partP, cut, over, mkAgg, allP, asP, V.cells, PC, elDiv, elMod, elDiv0, Nat.mul_mod_left, Int.toNat_zero, Int.reduceToNat, *] <;> rfl)); exact rfl; (focus (simp only [LS] <;> rfl)); (focus (simp only [LS] <;> rfl))) | (((with_reducible apply F.build); exact rfl; exact rfl; (focus (repeat' (first | exact Prs.nil | (apply Prs.cons; exact rfl))))); (focus (simp (disch := first | assumption | omega | (simp only [lnX]; omega)) only [LS, buildV, fillV, over, buildSliceV, elemsOf, appendV, elems, arrAt, cut, roomy, mkAgg, allP, asP, V.cells, PC, Int.toNat_zero, Int.reduceToNat, *] <;> rfl))) | (((with_reducible apply E.rPc); exact rfl; exact rfl; (focus (exact look_of rfl)); exact rfl); (focus (simp (disch := first | assumption | omega | (simp only [lnX]; omega)) only [LS, storeV, loadV, partV, partP, cut, over, mkAgg, allP, asP, V.cells, PC, elDiv, elMod, elDiv0, Nat.mul_mod_left, Int.toNat_zero, Int.reduceToNat, *] <;> rfl))) | refine R.regs rfl ?_ | exact rfl
theorem leaf_neg (n : Nat) (hn : n < 9223372036854775808) (h0 : 0 < n) (x : Pv) : PV cx 26 [.p (Ins.pv ⟨1, -(n : Int)⟩), .p x] (pc (45 :: dec n) 54 false) := by
  refine PV.run cxF26 rfl ?_
  simp only [args0, Nat.zero_add, Nat.reduceAdd, pc, Ins.pv]
  have hl := dec_20 hn
  have e1 : (0 : Int) - -(n : Int) = n := by omega
  have hd := (digits_run n hn).fv
  rw [← e1] at hd
  clear e1
  repeat' first | (with_reducible first | apply M.free | apply M.done | apply E.seqR | apply E.blkR | apply R.ret) | ((with_reducible first | apply F.load | apply F.fieldAddr); (iterate 3 exact rfl)) | ((with_reducible apply F.cmp); (iterate 4 exact rfl)) | ((with_reducible apply F.assign); exact rfl; exact rfl) | ((first | ((with_reducible apply F.adds); (iterate 3 exact rfl)) | ((with_reducible apply F.neg); exact rfl; exact rfl)); (focus (first | omega | (simp only [lnX]; omega)))) | ((with_reducible apply R.regs); exact rfl) | ((with_reducible apply F.call0); exact rfl; exact rfl; (focus (repeat' (first | exact Evs.nil | (apply Evs.cons; exact rfl)))); exact rfl; (focus (first | exact hd))) | ((first | (with_reducible apply R.cond) | ((with_reducible apply M.guard); exact rfl)); (focus (first | (refine Eq.trans (look_of rfl) ?_; first | (simp only [dtX, *] <;> rfl) | exact rfl) | exact look_of rfl))) | refine imp_yes rfl ?_ | exact imp_no rfl | with_reducible apply R.seq | with_reducible apply R.block | (((with_reducible apply F.store); (iterate 4 exact rfl)); (focus (simp (disch := first | assumption | omega | (simp only [lnX]; omega)) only [LS, storeV, loadV, partV, partP, cut, over, mkAgg, allP, asP, V.cells, PC, elDiv, elMod, elDiv0, Nat.mul_mod_left, Int.toNat_zero, Int.reduceToNat, *] <;> rfl))) | (((with_reducible apply F.alloc); exact rfl; exact rfl); (focus (simp only [LS] <;> rfl)); (focus (simp only [LS] <;> rfl))) | (((with_reducible apply F.box); (iterate 3 exact rfl)); (focus (simp (disch := first | assumption | omega | (simp only [lnX]; omega)) only [LS, storeV, loadV, partV, partP, cut, over, mkAgg, allP, asP, V.cells, PC, elDiv, elMod, elDiv0, Nat.mul_mod_left, Int.toNat_zero, Int.reduceToNat, *] <;> rfl)); exact rfl; (focus (simp only [LS] <;> rfl)); (focus (simp only [LS] <;> rfl))) | (((with_reducible apply F.build); exact rfl; exact rfl; (focus (repeat' (first | exact Prs.nil | (apply Prs.cons; exact rfl))))); (focus (simp (disch := first | assumption | omega | (simp only [lnX]; omega)) only [LS, buildV, fillV, over, buildSliceV, elemsOf, appendV, elems, arrAt, cut, roomy, mkAgg, allP, asP, V.cells, PC, Int.toNat_zero, Int.reduceToNat, *] <;> rfl))) | (intro hc; (try rw [hc]); (try simp only [decide_eq_true_eq, decide_eq_false_iff_not, Bool.not_eq_eq_eq_not, Bool.not_true, Bool.not_false] at hc); (try (exfalso; omega))) | (((with_reducible apply E.rPc); exact rfl; exact rfl; (focus (exact look_of rfl)); exact rfl); (focus (simp (disch := first | assumption | omega | (simp only [lnX]; omega)) only [LS, storeV, loadV, partV, partP, cut, over, mkAgg, allP, asP, V.cells, PC, elDiv, elMod, elDiv0, Nat.mul_mod_left, Int.toNat_zero, Int.reduceToNat, *] <;> rfl))) | refine R.regs rfl ?_ | exact rfl
theorem leaf_pos (n : Nat) (hn : n < 9223372036854775808) (x : Pv) : PV cx 26 [.p (Ins.pv ⟨1, n⟩), .p x] (pc (dec n) 55 true) := by
  refine PV.run cxF26 rfl ?_
  simp only [args0, Nat.zero_add, Nat.reduceAdd, pc, Ins.pv]
  repeat' first | (with_reducible first | apply M.free | apply M.done | apply E.seqN | apply E.blkN | apply R.skip | apply R.ret) | ((with_reducible first | apply F.load | apply F.fieldAddr); (iterate 3 exact rfl)) | ((with_reducible apply F.cmp); (iterate 4 exact rfl)) | ((with_reducible apply F.assign); exact rfl; exact rfl) | ((with_reducible apply R.regs); exact rfl) | ((with_reducible apply F.call0); exact rfl; exact rfl; (focus (repeat' (first | exact Evs.nil | (apply Evs.cons; exact rfl)))); exact rfl; (focus (first | exact (digits_run n hn).fv))) | ((first | (with_reducible apply R.cond) | ((with_reducible apply M.guard); exact rfl)); (focus (first | (refine Eq.trans (look_of rfl) ?_; first | (simp only [dtX, *] <;> rfl) | exact rfl) | exact look_of rfl))) | refine imp_yes rfl ?_ | exact imp_no rfl | with_reducible apply R.seq | with_reducible apply R.block | (((with_reducible apply F.store); (iterate 4 exact rfl)); (focus (simp (disch := first | assumption | omega | (simp only [lnX]; omega)) only [LS, storeV, loadV, partV, partP, cut, over, mkAgg, allP, asP, V.cells, PC, elDiv, elMod, elDiv0, Nat.mul_mod_left, Int.toNat_zero, Int.reduceToNat, *] <;> rfl))) | (((with_reducible apply F.alloc); exact rfl; exact rfl); (focus (simp only [LS] <;> rfl)); (focus (simp only [LS] <;> rfl))) | (((with_reducible apply F.box); (iterate 3 exact rfl)); (focus (simp (disch := first | assumption | omega | (simp only [lnX]; omega)) only [LS, storeV, loadV, partV, partP, cut, over, mkAgg, allP, asP, V.cells, PC, elDiv, elMod, elDiv0, Nat.mul_mod_left, Int.toNat_zero, Int.reduceToNat, *] <;> rfl)); exact rfl; (focus (simp only [LS] <;> rfl)); (focus (simp only [LS] <;> rfl))) | (((with_reducible apply F.build); exact rfl; exact rfl; (focus (repeat' (first | exact Prs.nil | (apply Prs.cons; exact rfl))))); (focus (simp (disch := first | assumption | omega | (simp only [lnX]; omega)) only [LS, buildV, fillV, over, buildSliceV, elemsOf, appendV, elems, arrAt, cut, roomy, mkAgg, allP, asP, V.cells, PC, Int.toNat_zero, Int.reduceToNat, *] <;> rfl))) | (((with_reducible apply E.rPc); exact rfl; exact rfl; (focus (exact look_of rfl)); exact rfl); (focus (simp (disch := first | assumption | omega | (simp only [lnX]; omega)) only [LS, storeV, loadV, partV, partP, cut, over, mkAgg, allP, asP, V.cells, PC, elDiv, elMod, elDiv0, Nat.mul_mod_left, Int.toNat_zero, Int.reduceToNat, *] <;> rfl))) | refine R.regs rfl ?_ | exact rfl
theorem take_run (ver n m : Nat) (hnm : n ≤ m) (hm : m ≤ 31) (h0 : 0 < n) (o1 o2 o3 : Ob) : CV cx 25 [.p (.int .i64 n), .ptr 0 0 0] [.box 0 [.arr 2 ver 3 0 m], o1, o2, o3] (.arr 2 ver 3 (m - n) n) [.box 0 [.arr 2 ver 3 0 (m - n)], o1, o2, o3] := by
  refine CV.run cxF25 rfl ?_
  simp only [args0, Nat.zero_add, Nat.reduceAdd]
  have e1 : (m : Int) - n = ((m - n : Nat) : Int) := by omega
  have b1 : Nat.beq (m - n) m = false := by
    cases hb : Nat.beq (m - n) m with
    | false => rfl
    | true => have := Nat.eq_of_beq_eq_true hb; omega
  have b2 : (Nat.beq 0 (m - n) && Nat.blt 0 0) = false := by cases Nat.beq 0 (m - n) <;> rfl
  have e2 : m - (m - n) = n := by omega
  have e3 : 0 + (m - n) = m - n := by omega
  repeat' first | (with_reducible first | apply M.free | apply M.done | apply R.ret) | ((with_reducible first | apply F.move | apply F.assign); exact rfl; exact rfl) | ((with_reducible apply F.load); (iterate 3 exact rfl)) | ((with_reducible apply F.len); (iterate 4 exact rfl)) | (((with_reducible apply F.sub); (iterate 3 exact rfl)); (focus (first | omega | (simp only [lnX]; omega)))) | ((with_reducible apply R.regs); exact rfl) | (((with_reducible apply F.store); (iterate 4 exact rfl)); (focus (simp (disch := first | assumption | omega | (simp only [lnX]; omega)) only [LS, storeV, loadV, partV, partP, cut, over, mkAgg, allP, asP, V.cells, PC, elDiv, elMod, elDiv0, Nat.mul_mod_left, Int.toNat_zero, Int.reduceToNat, *, b1, b2, Bool.false_and, e2, Nat.sub_zero] <;> rfl))) | (((with_reducible apply F.slice); (iterate 6 exact rfl)); (focus (simp (disch := first | assumption | omega | (simp only [lnX]; omega)) only [LS, indexAddrV, indexV, below_at, fieldV, fieldAddrV, convP, bytesOf, sliceV, bounds, bMax, bHi, bLo, upTo_at, makeFuncV, partV, partP, cut, binI, binS, binV, binP, arith, strOp_add, strOp_eql, strOp_neq, eqn, wrap64, wrap8, mkAgg, allP, asP, Option.getD_none, Int.toNat_zero, Int.reduceToNat, *, b1, b2, Bool.false_and, e2, Nat.sub_zero] <;> rfl))) | (((with_reducible apply E.r1); exact rfl; exact rfl; (focus (exact look_of rfl)))) | refine R.regs rfl ?_ | exact rfl
def sgnOf (op : Nat) : List UInt8 := (sgn.getD op []).dropLast
def lvlOf (op : Nat) : Int := ((sgn.getD op []).getLast?.getD 0).toNat
def lvl' (k : Int) : Int := if k = 51 then 52 else k
theorem between_run (op ver off fz : Nat) (h6 : 6 ≤ op) (h15 : op ≤ 15) (h9 : op ≠ 9) (h10 : op ≠ 10) (o0 o1 o3 : Ob) (es : List V) (s1 s2 : List UInt8) (k1 k2 : Int) (b1 b2 : Bool) (hs1 : s1.length ≤ 9007199254740992) (hs2 : s2.length ≤ 9007199254740992)
    (he1 : es[off]? = some (.p (pc s1 k1 b1))) (he2 : es[off + 1]? = some (.p (pc s2 k2 b2))) :
    CV cx 28 [.p (.int .i64 op), .arr 2 ver 3 off 2] [o0, o1, .arr ver fz 3 es, o3] (.p (pc (heldF s1 k1 (lvl' (lvlOf op)) ++ [32] ++ sgnOf op ++ [32] ++ heldF s2 k2 (lvlOf op + 1)) (lvlOf op) false))
      [o0, o1, .arr ver fz 3 es, o3, .box 0 [.p (.str (heldF s1 k1 (lvl' (lvlOf op)) ++ [32] ++ sgnOf op ++ [32] ++ heldF s2 k2 (lvlOf op + 1))), .p (.int .u8 (lvlOf op)), .p (.bool false)]] := by
  have hop : op = 6 ∨ op = 7 ∨ op = 8 ∨ op = 11 ∨ op = 12 ∨ op = 13 ∨ op = 14 ∨ op = 15 := by omega
  refine CV.run cxF28 rfl ?_
  simp only [args0, Nat.zero_add, Nat.reduceAdd]
  have g1 : ∀ q, (heldF s1 k1 q).length ≤ 9007199254741002 := by intro q; unfold heldF; split <;> first | (simp only [List.length_cons, List.length_append, List.length_nil]; omega) | omega
  have g2 : ∀ q, (heldF s2 k2 q).length ≤ 9007199254741002 := by intro q; unfold heldF; split <;> first | (simp only [List.length_cons, List.length_append, List.length_nil]; omega) | omega
  have i1 := g1 52
  have i2 := g1 53
  have i3 := g1 50
  have i4 := g1 49
  have j1 := g2 52
  have j2 := g2 53
  have j3 := g2 54
  have j4 := g2 51
  have j5 := g2 50
  clear g1 g2
  have hc1 := fun q => (held_run s1 (by omega) k1 q b1).fv
  have hc2 := fun q => (held_run s2 (by omega) k2 q b2).fv
  rcases hop with rfl | rfl | rfl | rfl | rfl | rfl | rfl | rfl
  rotate_left 7
  repeat' first | (with_reducible first | apply M.free | apply M.done | apply E.seqN | apply R.skip | apply R.ret) | ((with_reducible first | apply F.move | apply F.assign); exact rfl; exact rfl) | ((with_reducible apply F.load); (iterate 3 exact rfl)) | ((with_reducible first | apply F.cmp | apply F.len); (iterate 4 exact rfl)) | ((first | ((with_reducible apply F.sub); (iterate 3 exact rfl)) | ((with_reducible apply F.adds); (iterate 3 exact rfl))); (focus (first | omega | (simp only [lnX]; omega)))) | ((with_reducible apply R.regs); exact rfl) | ((with_reducible apply F.call0); exact rfl; exact rfl; (focus (repeat' (first | exact Evs.nil | (apply Evs.cons; exact rfl)))); exact rfl; (focus (first | exact hc1 49 | exact hc1 50 | exact hc1 52 | exact hc1 53 | exact hc2 50 | exact hc2 51 | exact hc2 52 | exact hc2 53 | exact hc2 54))) | ((first | (with_reducible apply R.cond) | ((with_reducible apply M.guard); exact rfl)); (focus (first | (refine Eq.trans (look_of rfl) ?_; first | (simp only [dtX, *, he1, he2, pc] <;> rfl) | exact rfl) | exact look_of rfl))) | refine imp_yes rfl ?_ | exact imp_no rfl | with_reducible apply R.seq | ((with_reducible apply R.region); exact rfl) | ((first | ((with_reducible apply F.store); (iterate 4 exact rfl)) | ((with_reducible apply F.loadS); (iterate 3 exact rfl))); (focus (simp (disch := first | assumption | omega | (simp only [lnX]; omega)) only [LS, storeV, loadV, partV, partP, cut, over, mkAgg, allP, asP, V.cells, PC, elDiv, elMod, elDiv0, Nat.mul_mod_left, Int.toNat_zero, Int.reduceToNat, *, he1, he2, pc] <;> rfl))) | (((with_reducible apply F.alloc); exact rfl; exact rfl); (focus (simp only [LS] <;> rfl)); (focus (simp only [LS] <;> rfl))) | (((with_reducible apply F.build); exact rfl; exact rfl; (focus (repeat' (first | exact Prs.nil | (apply Prs.cons; exact rfl))))); (focus (simp (disch := first | assumption | omega | (simp only [lnX]; omega)) only [LS, buildV, fillV, over, buildSliceV, elemsOf, appendV, elems, arrAt, cut, roomy, mkAgg, allP, asP, V.cells, PC, Int.toNat_zero, Int.reduceToNat, *, he1, he2, pc] <;> rfl))) | (((with_reducible apply F.indexAddr); (iterate 4 exact rfl)); (focus (simp (disch := first | assumption | omega | (simp only [lnX]; omega)) only [LS, lenV_L, idx_L, below_at, Int.toNat_zero, Int.reduceToNat, *, he1, he2, pc] <;> rfl))) | ((first | ((with_reducible apply F.indexAddr); (iterate 4 exact rfl)) | ((with_reducible apply F.index); (iterate 4 exact rfl)) | ((with_reducible apply F.slice); (iterate 6 exact rfl)) | ((with_reducible apply F.bin); (iterate 4 exact rfl))); (focus (simp (disch := first | assumption | omega | (simp only [lnX]; omega)) only [LS, indexAddrV, indexV, below_at, fieldV, fieldAddrV, convP, bytesOf, sliceV, bounds, bMax, bHi, bLo, upTo_at, makeFuncV, partV, partP, cut, binI, binS, binV, binP, arith, strOp_add, strOp_eql, strOp_neq, eqn, wrap64, wrap8, mkAgg, allP, asP, Option.getD_none, Int.toNat_zero, Int.reduceToNat, *, he1, he2, pc] <;> rfl))) | (((with_reducible apply E.rc); exact rfl; exact rfl; (focus (exact look_of rfl)); exact rfl); (focus (simp (disch := first | assumption | omega | (simp only [lnX]; omega)) only [LS, storeV, loadV, partV, partP, cut, over, mkAgg, allP, asP, V.cells, PC, elDiv, elMod, elDiv0, Nat.mul_mod_left, Int.toNat_zero, Int.reduceToNat, *, he1, he2, pc] <;> rfl))) | refine R.regs rfl ?_ | exact rfl
noncomputable def fi59 : FnI := { body := (Tryd.f59.body).getD .skip, ntmps := 15, results := Tryd.f59.results.toList, hints := [] }
theorem cxF59 : cx.F 59 = some fi59 := by kernel_rfl
noncomputable def fi40 : FnI := { body := (Tryd.f40.body).getD .skip, ntmps := 9, results := Tryd.f40.results.toList, hints := [] }
theorem cxF40 : cx.F 40 = some fi40 := by kernel_rfl
noncomputable def fi29 : FnI := { body := (Tryd.f29.body).getD .skip, ntmps := 88, results := Tryd.f29.results.toList, hints := [(6, { live := some [0, 1, 2, 8, 9] }), (8, { live := some [0, 1, 2, 8, 9], trunc := some 0 })] }
theorem cxF29 : cx.F 29 = some fi29 := by kernel_rfl
noncomputable def fi61 : FnI := { body := (Tryd.f61.body).getD .skip, ntmps := 20, results := Tryd.f61.results.toList, hints := [] }
theorem cxF61 : cx.F 61 = some fi61 := by kernel_rfl
theorem takes_lit {op : Int} (h1 : ¬ op < 1) (h2 : ¬ op > 16) : ([.int .i64 (-1), .int .i64 0, .int .i64 0, .int .i64 0, .int .i64 1, .int .i64 1, .int .i64 2, .int .i64 2, .int .i64 2, .int .i64 2, .int .i64 2, .int .i64 2, .int .i64 2, .int .i64 2, .int .i64 2, .int .i64 2, .int .i64 3] : List Pv)[op.toNat]? = some (.int .i64 (takesF op)) := by
  have : op = 1 ∨ op = 2 ∨ op = 3 ∨ op = 4 ∨ op = 5 ∨ op = 6 ∨ op = 7 ∨ op = 8 ∨ op = 9 ∨ op = 10 ∨ op = 11 ∨ op = 12 ∨ op = 13 ∨ op = 14 ∨ op = 15 ∨ op = 16 := by omega
  rcases this with rfl | rfl | rfl | rfl | rfl | rfl | rfl | rfl | rfl | rfl | rfl | rfl | rfl | rfl | rfl | rfl <;> rfl
theorem Takes_run (op : Int) : PV cx 59 [.p (.int .i64 op)] (.int .i64 (takesF op)) := by
  refine PV.run cxF59 rfl ?_
  simp only [args0, Nat.zero_add, Nat.reduceAdd]
  have hl := @takes_lit op
  repeat' first | (with_reducible first | apply M.free | apply M.done | apply E.seqN | apply E.seqR | apply R.skip | apply R.ret) | ((with_reducible first | apply F.move | apply F.assign); exact rfl; exact rfl) | ((with_reducible apply F.load); (iterate 3 exact rfl)) | ((with_reducible apply F.cmp); (iterate 4 exact rfl)) | ((with_reducible apply F.pickT); (iterate 3 exact rfl)) | ((with_reducible apply F.pickF); (iterate 3 exact rfl)) | ((with_reducible apply R.regs); exact rfl) | ((first | (with_reducible apply R.cond) | ((with_reducible apply M.guard); exact rfl)); (focus (first | (refine Eq.trans (look_of rfl) ?_; first | (simp only [dtX, *] <;> rfl) | exact rfl) | exact look_of rfl))) | refine imp_yes rfl ?_ | exact imp_no rfl | with_reducible apply R.seq | (((with_reducible apply F.buildSlice); exact rfl; exact rfl; (focus (repeat' (first | exact Prs.nil | (apply Prs.cons; exact rfl))))); (focus (simp (disch := first | assumption | omega | (simp only [lnX]; omega)) only [LS, buildV, fillV, over, buildSliceV, elemsOf, appendV, elems, arrAt, cut, roomy, mkAgg, allP, asP, V.cells, PC, Int.toNat_zero, Int.reduceToNat, *] <;> rfl))) | (((with_reducible apply F.indexAddr); (iterate 4 exact rfl)); (focus (simp (disch := first | assumption | omega | (simp only [lnX]; omega)) only [LS, lenV_L, idx_L, below_at, Int.toNat_zero, Int.reduceToNat, *] <;> rfl))) | (((with_reducible apply F.indexAddr); (iterate 4 exact rfl)); (focus (simp (disch := first | assumption | omega | (simp only [lnX]; omega)) only [LS, indexAddrV, indexV, below_at, fieldV, fieldAddrV, convP, bytesOf, sliceV, bounds, bMax, bHi, bLo, upTo_at, makeFuncV, partV, partP, cut, binI, binS, binV, binP, arith, strOp_add, strOp_eql, strOp_neq, eqn, wrap64, wrap8, mkAgg, allP, asP, Option.getD_none, Int.toNat_zero, Int.reduceToNat, *] <;> rfl))) | (intro hc; (try rw [hc]); (try simp only [decide_eq_true_eq, decide_eq_false_iff_not, Bool.not_eq_eq_eq_not, Bool.not_true, Bool.not_false] at hc); (try (exfalso; omega))) | (((with_reducible apply E.rP1); exact rfl; exact rfl; (focus (exact look_of rfl)))) | refine R.regs rfl ?_ | exact rfl
  all_goals first | rfl | (congr 1; (try simp only [takesF]); (try simp only [beq_iff_eq, beq_eq_false_iff_ne, ne_eq] at *); (repeat' split) <;> first | rfl | omega | (simp_all; done) | (exfalso; simp_all; done) | (simp_all; omega) | (exfalso; simp_all; omega) | trace_state)
theorem Value_run (n : Int) : PV cx 40 [.p (.int .i64 n)] (.bool (valueF n)) := by
  refine PV.run cxF40 rfl ?_
  simp only [args0, Nat.zero_add, Nat.reduceAdd]
  repeat' first | (with_reducible first | apply M.free | apply M.done | apply R.ret) | ((with_reducible first | apply F.move | apply F.assign); exact rfl; exact rfl) | ((with_reducible apply F.cmp); (iterate 4 exact rfl)) | ((with_reducible apply F.pickT); (iterate 3 exact rfl)) | ((with_reducible apply F.pickF); (iterate 3 exact rfl)) | ((with_reducible apply R.regs); exact rfl) | ((first | (with_reducible apply R.cond) | ((with_reducible apply M.guard); exact rfl)); (focus (first | (refine Eq.trans (look_of rfl) ?_; first | (simp only [dtX, *] <;> rfl) | exact rfl) | exact look_of rfl))) | refine imp_yes rfl ?_ | exact imp_no rfl | (intro hc; (try rw [hc]); (try simp only [decide_eq_true_eq, decide_eq_false_iff_not, Bool.not_eq_eq_eq_not, Bool.not_true, Bool.not_false] at hc); (try (exfalso; omega))) | (((with_reducible apply E.rP1); exact rfl; exact rfl; (focus (exact look_of rfl)))) | refine R.regs rfl ?_
  all_goals first | rfl | (congr 1; (try simp only [valueF]); (try simp only [beq_iff_eq, beq_eq_false_iff_ne, ne_eq] at *); (repeat' split) <;> first | rfl | omega | (simp_all; done) | (exfalso; simp_all; done) | (simp_all; omega) | (exfalso; simp_all; omega) | trace_state)
theorem rcheck_run (code : List Ins) (x : Pv) (hx : IsL 2 x) (hl : elemsP x = code.map Ins.pv) (vars args : Int) : PV cx 29 [.p x, .p (.int .i64 vars), .p (.int .i64 args)] (tup2 (checkF code vars args)) := by
  refine PV.run cxF29 rfl ?_
  simp only [args0, Nat.zero_add, Nat.reduceAdd]
  generalize hr : checkF code vars args = r
  repeat' first | (with_reducible first | apply M.free | apply M.done | apply E.seqN | apply E.seqR | apply R.skip | apply R.ret) | ((with_reducible first | apply F.move | apply F.assign); exact rfl; exact rfl) | ((with_reducible apply F.cmp); (iterate 4 exact rfl)) | ((with_reducible apply F.pickT); (iterate 3 exact rfl)) | ((with_reducible apply F.pickF); (iterate 3 exact rfl)) | ((with_reducible apply R.regs); exact rfl) | ((with_reducible apply R.regsL); exact rfl) | ((with_reducible apply Lv.of); (focus (repeat' (first | exact Kp.nil | (apply Kp.cons; exact rfl))))) | ((first | (with_reducible apply R.cond) | ((with_reducible apply M.guard); exact rfl)); (focus (first | (refine Eq.trans (look_of rfl) ?_; first | (simp only [dtX, *, hl, List.length_map] <;> rfl) | exact rfl) | exact look_of rfl))) | refine imp_yes rfl ?_ | exact imp_no rfl | with_reducible apply R.seq | with_reducible apply R.block | (((with_reducible apply F.len); (iterate 3 exact rfl)); (focus (simp (disch := first | assumption | omega | (simp only [lnX]; omega)) only [LS, lenV_L, idx_L, below_at, Int.toNat_zero, Int.reduceToNat, *, hl, List.length_map] <;> rfl))) | (intro hc; (try rw [hc]); (try simp only [decide_eq_true_eq, decide_eq_false_iff_not, Bool.not_eq_eq_eq_not, Bool.not_true, Bool.not_false] at hc); (try (exfalso; omega))) | (((with_reducible apply E.rP2); exact rfl; exact rfl; (focus (exact look_of rfl)); (focus (exact look_of rfl)))) | refine R.regs rfl ?_
  all_goals first | (subst hr; simp only [checkF, tup2]; (repeat' split) <;> first | rfl | omega) | skip
  have h31 : code.length ≤ 31 := by omega
  rw [checkF, if_neg (by omega), if_neg (by omega)] at hr
  refine R.loop (fun m e H => ∃ (i : Nat) (row : Int), e = [(0, .p x), (1, .p (.int .i64 vars)), (2, .p (.int .i64 args)), (8, .p (.int .i64 row)), (9, .p (.int .i64 i))] ∧ H = [] ∧ 0 ≤ row ∧ row ≤ i ∧ i ≤ code.length ∧ m = code.length - i ∧ chk vars args row i (code.drop i) = r) code.length
    ⟨0, 0, rfl, rfl, by omega, by omega, by omega, rfl, hr⟩ ?_
  clear hr
  rintro m e H ⟨i, row, rfl, rfl, h0, h1, h2, rfl, hr⟩
  by_cases hlt : (i : Int) < code.length
  · obtain ⟨a, hb⟩ : ∃ b, code[i]? = some b := ⟨code[i]'(by omega), by simp⟩
    rw [drop_at hb, chk] at hr
    have ht := takesF_le a.op
    obtain ⟨op, n⟩ := a
    have t1 : takesF 1 = 0 := rfl
    have t2 : takesF 2 = 0 := rfl
    have t3 : takesF 3 = 0 := rfl
    have hT := (Takes_run op).fv
    generalize hk : takesF op = k at *
    have hn : namedF vars args ⟨op, n⟩ = if op = 1 then valueF n else if op = 2 then decide (0 ≤ n ∧ n < vars) else if op = 3 then decide (0 ≤ n ∧ n < args) else decide (n = 0) := rfl
    rw [hn] at hr
    clear hn
    rcases (show op = 1 ∨ op = 2 ∨ op = 3 ∨ (¬ op = 1 ∧ ¬ op = 2 ∧ ¬ op = 3) by omega) with rfl | rfl | rfl | ⟨h1', h2', h3'⟩
    all_goals (try rw [if_pos rfl] at hr)
    all_goals
      repeat' first | (with_reducible first | apply M.free | apply M.done | apply E.seqN | apply E.seqR | apply E.blkN | apply E.blkR | apply R.skip | apply R.ret) | ((with_reducible first | apply F.move | apply F.assign); exact rfl; exact rfl) | ((with_reducible first | apply F.load | apply F.fieldAddr | apply F.not); (iterate 3 exact rfl)) | ((with_reducible apply F.cmp); (iterate 4 exact rfl)) | ((with_reducible apply F.pickT); (iterate 3 exact rfl)) | ((with_reducible apply F.pickF); (iterate 3 exact rfl)) | ((first | ((with_reducible apply F.add); (iterate 3 exact rfl)) | ((with_reducible apply F.sub); (iterate 3 exact rfl))); (focus (first | omega | (simp only [lnX]; omega)))) | ((with_reducible apply R.regs); exact rfl) | ((with_reducible apply Cut.of); (focus (repeat' (first | exact Kp.nil | (apply Kp.cons; exact rfl)))); (focus ((try simp only [List.take_succ_cons, List.take_zero, List.take_nil, Nat.zero_add, Nat.reduceAdd]) <;> rfl)); (focus (first | exact rfl | (simp [cutOk, lowOb, lowV, lowCell, lowCell1, low_map]; done)))) | ((with_reducible apply F.call0); exact rfl; exact rfl; (focus (repeat' (first | exact Evs.nil | (apply Evs.cons; exact rfl)))); exact rfl; (focus (first | exact hT | exact (Value_run _).fv))) | ((first | (with_reducible apply R.cond) | ((with_reducible apply M.guard); exact rfl)); (focus (first | (refine Eq.trans (look_of rfl) ?_; first | (simp only [dtX, *, hl, hb, List.length_map, List.getElem?_map, Ins.pv, hk] <;> rfl) | exact rfl) | exact look_of rfl))) | refine imp_yes rfl ?_ | exact imp_no rfl | with_reducible apply R.seq | ((with_reducible apply R.region); exact rfl) | ((with_reducible apply R.regionT); exact rfl) | with_reducible apply R.block | ((first | ((with_reducible apply F.store); (iterate 4 exact rfl)) | ((with_reducible apply F.loadS); (iterate 3 exact rfl))); (focus (simp (disch := first | assumption | omega | (simp only [lnX]; omega)) only [LS, storeV, loadV, partV, partP, cut, over, mkAgg, allP, asP, V.cells, PC, elDiv, elMod, elDiv0, Nat.mul_mod_left, Int.toNat_zero, Int.reduceToNat, *, hl, hb, List.length_map, List.getElem?_map, Ins.pv, hk] <;> rfl))) | (((with_reducible apply F.alloc); exact rfl; exact rfl); (focus (simp only [LS] <;> rfl)); (focus (simp only [LS] <;> rfl))) | ((first | ((with_reducible apply F.indexAddr); (iterate 4 exact rfl)) | ((with_reducible apply F.len); (iterate 3 exact rfl))); (focus (simp (disch := first | assumption | omega | (simp only [lnX]; omega)) only [LS, lenV_L, idx_L, below_at, Int.toNat_zero, Int.reduceToNat, *, hl, hb, List.length_map, List.getElem?_map, Ins.pv, hk] <;> rfl))) | (intro hc; (try rw [hc]); (try simp only [decide_eq_true_eq, decide_eq_false_iff_not, Bool.not_eq_eq_eq_not, Bool.not_true, Bool.not_false] at hc); (try (exfalso; omega))) | (((with_reducible apply E.rP2); exact rfl; exact rfl; (focus (exact look_of rfl)); (focus (exact look_of rfl))))
    all_goals first
      | (subst hr; (repeat' split) <;> first | rfl | (exfalso; omega) | (exfalso; simp_all; done) | (exfalso; simp_all; omega))
      | (rw [if_neg (by omega), if_neg (by simp_all), if_neg (by omega)] at hr; exact ⟨code.length - (i + 1), by omega, i + 1, row + (1 - k), by simp only [List.cons.injEq, Prod.mk.injEq, V.p.injEq, Pv.int.injEq, true_and, and_true]; omega, rfl, by omega, by omega, by omega, rfl, hr⟩)
  · have e : i = code.length := by omega
    subst e
    rw [List.drop_length, chk] at hr
    repeat' first | (with_reducible first | apply M.free | apply M.done | apply E.seqN | apply E.seqX | apply E.seqR | apply R.skip | apply R.ret | apply R.exit) | ((with_reducible first | apply F.move | apply F.assign); exact rfl; exact rfl) | ((with_reducible apply F.cmp); (iterate 4 exact rfl)) | ((with_reducible apply R.regs); exact rfl) | ((first | (with_reducible apply R.cond) | ((with_reducible apply M.guard); exact rfl)); (focus (first | (refine Eq.trans (look_of rfl) ?_; first | (simp only [dtX, *, hl, List.length_map] <;> rfl) | exact rfl) | exact look_of rfl))) | refine imp_yes rfl ?_ | exact imp_no rfl | with_reducible apply R.seq | ((with_reducible apply E.blkX); exact rfl) | (((with_reducible apply F.len); (iterate 3 exact rfl)); (focus (simp (disch := first | assumption | omega | (simp only [lnX]; omega)) only [LS, lenV_L, idx_L, below_at, Int.toNat_zero, Int.reduceToNat, *, hl, List.length_map] <;> rfl))) | (intro hc; (try rw [hc]); (try simp only [decide_eq_true_eq, decide_eq_false_iff_not, Bool.not_eq_eq_eq_not, Bool.not_true, Bool.not_false] at hc); (try (exfalso; omega))) | (((with_reducible apply E.rP2); exact rfl; exact rfl; (focus (exact look_of rfl)); (focus (exact look_of rfl))))
    all_goals (subst hr; simp_all [tup2])
theorem Digits_run (n : Nat) (hn : n < 9223372036854775808) : PV cx 61 [.p (.int .i64 n)] (.str (dec n)) := by
  induction n using Nat.strongRecOn with
  | _ n ih =>
    refine PV.run cxF61 rfl ?_
    simp only [args0, Nat.zero_add, Nat.reduceAdd]
    by_cases h : (n : Int) < 10
    · have e : dec n = [UInt8.ofNat (48 + (n : Int)).toNat] := by
        unfold dec
        rw [if_pos (by omega)]
        have : (48 + (n : Int)).toNat = 48 + n := by omega
        rw [this]
      rw [e]
      repeat' first | (with_reducible first | apply M.free | apply M.done | apply E.seqR | apply R.ret) | ((with_reducible first | apply F.move | apply F.assign); exact rfl; exact rfl) | ((with_reducible apply F.cmp); (iterate 4 exact rfl)) | (((with_reducible apply F.add); (iterate 3 exact rfl)); (focus (first | omega | (simp only [lnX]; omega)))) | ((with_reducible apply R.regs); exact rfl) | ((first | (with_reducible apply R.cond) | ((with_reducible apply M.guard); exact rfl)); (focus (first | (refine Eq.trans (look_of rfl) ?_; first | (simp only [dtX, *] <;> rfl) | exact rfl) | exact look_of rfl))) | refine imp_yes rfl ?_ | exact imp_no rfl | with_reducible apply R.seq | (((with_reducible apply F.buildSlice); exact rfl; exact rfl; (focus (repeat' (first | exact Prs.nil | (apply Prs.cons; exact rfl))))); (focus (simp (disch := first | assumption | omega | (simp only [lnX]; omega)) only [LS, buildV, fillV, over, buildSliceV, elemsOf, appendV, elems, arrAt, cut, roomy, mkAgg, allP, asP, V.cells, PC, Int.toNat_zero, Int.reduceToNat, *] <;> rfl))) | (((with_reducible apply F.convert); (iterate 4 exact rfl)); (focus (simp (disch := first | assumption | omega | (simp only [lnX]; omega)) only [LS, indexAddrV, indexV, below_at, fieldV, fieldAddrV, convP, bytesOf, sliceV, bounds, bMax, bHi, bLo, upTo_at, makeFuncV, partV, partP, cut, binI, binS, binV, binP, arith, strOp_add, strOp_eql, strOp_neq, eqn, wrap64, wrap8, mkAgg, allP, asP, Option.getD_none, Int.toNat_zero, Int.reduceToNat, *] <;> rfl))) | (((with_reducible apply E.rP1); exact rfl; exact rfl; (focus (exact look_of rfl)))) | refine R.regs rfl ?_ | exact rfl
    · have hr := (ih (n / 10) (by omega) (by omega)).fv
      have e : dec n = dec (n / 10) ++ [UInt8.ofNat (48 + ((n % 10 : Nat) : Int)).toNat] := by
        rw [dec, if_neg (by omega)]
        have : (48 + ((n % 10 : Nat) : Int)).toNat = 48 + n % 10 := by omega
        rw [this]
      rw [e]
      have hl := dec_20 (show n / 10 < 9223372036854775808 by omega)
      have e1 : (n : Int).tdiv 10 = ((n / 10 : Nat) : Int) := rfl
      have e2 : (n : Int).tmod 10 = ((n % 10 : Nat) : Int) := rfl
      have z : ¬ (10 : Int) = 0 := by decide
      clear ih e
      repeat' first | (with_reducible first | apply M.free | apply M.done | apply E.seqN | apply R.skip | apply R.ret) | ((with_reducible first | apply F.move | apply F.assign); exact rfl; exact rfl) | ((with_reducible apply F.cmp); (iterate 4 exact rfl)) | ((first | ((with_reducible apply F.add); (iterate 3 exact rfl)) | ((with_reducible apply F.adds); (iterate 3 exact rfl))); (focus (first | omega | (simp only [lnX]; omega)))) | ((with_reducible apply R.regs); exact rfl) | ((with_reducible apply F.call0); exact rfl; exact rfl; (focus (repeat' (first | exact Evs.nil | (apply Evs.cons; exact rfl)))); exact rfl; (focus (first | exact hr))) | ((first | (with_reducible apply R.cond) | ((with_reducible apply M.guard); exact rfl)); (focus (first | (refine Eq.trans (look_of rfl) ?_; first | (simp only [dtX, *] <;> rfl) | exact rfl) | exact look_of rfl))) | refine imp_yes rfl ?_ | exact imp_no rfl | with_reducible apply R.seq | (((with_reducible apply F.buildSlice); exact rfl; exact rfl; (focus (repeat' (first | exact Prs.nil | (apply Prs.cons; exact rfl))))); (focus (simp (disch := first | assumption | omega | (simp only [lnX]; omega)) only [LS, buildV, fillV, over, buildSliceV, elemsOf, appendV, elems, arrAt, cut, roomy, mkAgg, allP, asP, V.cells, PC, Int.toNat_zero, Int.reduceToNat, *] <;> rfl))) | ((first | ((with_reducible apply F.convert); (iterate 4 exact rfl)) | ((with_reducible apply F.bin); (iterate 4 exact rfl))); (focus (simp (disch := first | assumption | omega | (simp only [lnX]; omega)) only [LS, indexAddrV, indexV, below_at, fieldV, fieldAddrV, convP, bytesOf, sliceV, bounds, bMax, bHi, bLo, upTo_at, makeFuncV, partV, partP, cut, binI, binS, binV, binP, arith, strOp_add, strOp_eql, strOp_neq, eqn, wrap64, wrap8, mkAgg, allP, asP, Option.getD_none, Int.toNat_zero, Int.reduceToNat, *] <;> rfl))) | (((with_reducible apply E.rP1); exact rfl; exact rfl; (focus (exact look_of rfl)))) | refine R.regs rfl ?_ | exact rfl

noncomputable def fi96 : FnI := { body := (Tryd.f96.body).getD .skip, ntmps := 17, results := Tryd.f96.results.toList, hints := [] }
theorem cxF96 : cx.F 96 = some fi96 := by kernel_rfl
noncomputable def fi70 : FnI := { body := (Tryd.f70.body).getD .skip, ntmps := 22, results := Tryd.f70.results.toList, hints := [(0, { ops := [(0, 2), (1, 2)] })] }
theorem cxF70 : cx.F 70 = some fi70 := by kernel_rfl
noncomputable def fi71 : FnI := { body := (Tryd.f71.body).getD .skip, ntmps := 64, results := Tryd.f71.results.toList, hints := [(0, { ops := [(0, 2), (1, 2)] }), (3, { live := some [2, 3, 4, 7] }), (5, { live := some [2, 3, 4, 7], trunc := some 0 }), (9, { live := some [2, 3, 4, 7, 8, 9] }), (11, { live := some [2, 3, 4, 7, 8, 9] })] }
theorem cxF71 : cx.F 71 = some fi71 := by kernel_rfl
def badP (p : Int × Int) : Pv := .agg [.int .i64 p.1, .int .i64 p.2]
theorem rnames_run (x : Pv) (hx : IsL 1 x) (l : List (List UInt8)) (hl : elemsP x = l.map .str) (hs : ∀ s ∈ l, s.length ≤ 9223372036854775807) (most : Nat) (hm : most ≤ 100) : PV cx 39 [.p x, .p (.int .i64 most)] (badP (namesF l most)) := by
  refine PV.run cxF39 rfl ?_
  simp only [args0, Nat.zero_add, Nat.reduceAdd]
  generalize hr : namesF l most = r
  obtain ⟨ra, re⟩ := r
  simp only [badP]
  by_cases hb : most < l.length
  · rw [namesF, if_pos hb] at hr
    cases hr
    repeat' first | (with_reducible first | apply M.free | apply M.done | apply E.seqR | apply R.ret) | ((with_reducible apply F.move); exact rfl; exact rfl) | ((with_reducible apply F.cmp); (iterate 4 exact rfl)) | ((with_reducible apply R.regs); exact rfl) | ((first | (with_reducible apply R.cond) | ((with_reducible apply M.guard); exact rfl)); (focus (first | (refine Eq.trans (look_of rfl) ?_; first | (simp only [dtX, *, hl, List.length_map] <;> rfl) | exact rfl) | exact look_of rfl))) | with_reducible apply R.seq | (((with_reducible apply F.store); (iterate 4 exact rfl)); (focus (simp (disch := first | assumption | omega | (simp only [lnX]; omega)) only [LS, storeV, loadV, partV, partP, cut, over, mkAgg, allP, asP, V.cells, PC, elDiv, elMod, elDiv0, Nat.mul_mod_left, Int.toNat_zero, Int.reduceToNat, *, hl, List.length_map] <;> rfl))) | (((with_reducible apply F.alloc); exact rfl; exact rfl); (focus (simp only [LS] <;> rfl)); (focus (simp only [LS] <;> rfl))) | (((with_reducible apply F.build); exact rfl; exact rfl; (focus (repeat' (first | exact Prs.nil | (apply Prs.cons; exact rfl))))); (focus (simp (disch := first | assumption | omega | (simp only [lnX]; omega)) only [LS, buildV, fillV, over, buildSliceV, elemsOf, appendV, elems, arrAt, cut, roomy, mkAgg, allP, asP, V.cells, PC, Int.toNat_zero, Int.reduceToNat, *, hl, List.length_map] <;> rfl))) | (((with_reducible apply F.len); (iterate 3 exact rfl)); (focus (simp (disch := first | assumption | omega | (simp only [lnX]; omega)) only [LS, lenV_L, idx_L, below_at, Int.toNat_zero, Int.reduceToNat, *, hl, List.length_map] <;> rfl))) | (intro hc; (try rw [hc]); (try simp only [decide_eq_true_eq, decide_eq_false_iff_not, Bool.not_eq_eq_eq_not, Bool.not_true, Bool.not_false] at hc); (try (exfalso; omega))) | (((with_reducible apply E.rPc); exact rfl; exact rfl; (focus (exact look_of rfl)); exact rfl); (focus (simp (disch := first | assumption | omega | (simp only [lnX]; omega)) only [LS, storeV, loadV, partV, partP, cut, over, mkAgg, allP, asP, V.cells, PC, elDiv, elMod, elDiv0, Nat.mul_mod_left, Int.toNat_zero, Int.reduceToNat, *, hl, List.length_map] <;> rfl))) | refine R.regs rfl ?_ | exact rfl
  rw [namesF, if_neg hb] at hr
  repeat' first | (with_reducible first | apply M.free | apply M.done | apply E.seqN | apply R.skip) | ((with_reducible first | apply F.move | apply F.assign); exact rfl; exact rfl) | ((with_reducible apply F.cmp); (iterate 4 exact rfl)) | ((with_reducible apply R.regs); exact rfl) | ((with_reducible apply R.regsL); exact rfl) | ((with_reducible apply Lv.of); (focus (repeat' (first | exact Kp.nil | (apply Kp.cons; exact rfl))))) | ((first | (with_reducible apply R.cond) | ((with_reducible apply M.guard); exact rfl)); (focus (first | (refine Eq.trans (look_of rfl) ?_; first | (simp only [dtX, *, hl, List.length_map] <;> rfl) | exact rfl) | exact look_of rfl))) | with_reducible apply R.seq | with_reducible apply R.block | (((with_reducible apply F.alloc); exact rfl; exact rfl); (focus (simp only [LS] <;> rfl)); (focus (simp only [LS] <;> rfl))) | (((with_reducible apply F.len); (iterate 3 exact rfl)); (focus (simp (disch := first | assumption | omega | (simp only [lnX]; omega)) only [LS, lenV_L, idx_L, below_at, Int.toNat_zero, Int.reduceToNat, *, hl, List.length_map] <;> rfl))) | (intro hc; (try rw [hc]); (try simp only [decide_eq_true_eq, decide_eq_false_iff_not, Bool.not_eq_eq_eq_not, Bool.not_true, Bool.not_false] at hc); (try (exfalso; omega))) | refine R.regs rfl ?_
  refine R.loop (fun m e H => ∃ i : Nat, e = [(0,.p x),(4,.ptr 0 0 0),(5,.p (.int .i64 i))] ∧ H = [.box 0 [.p (.int .i64 0), .p (.int .i64 0)]] ∧ i ≤ l.length ∧ m = l.length - i ∧ namesG (l.take i) (l.drop i) = (ra, re)) l.length ⟨0, rfl, rfl, by omega, by omega, hr⟩ ?_
  clear hr
  rintro m e H ⟨i, rfl, rfl, h1, rfl, hr⟩
  by_cases hi : i = l.length
  · subst hi
    rw [List.drop_length, namesG] at hr
    cases hr
    repeat' first | (with_reducible first | apply M.free | apply M.done | apply E.seqN | apply E.seqX | apply R.ret | apply R.exit) | ((with_reducible apply F.move); exact rfl; exact rfl) | ((with_reducible apply F.cmp); (iterate 4 exact rfl)) | ((with_reducible apply R.regs); exact rfl) | ((first | (with_reducible apply R.cond) | ((with_reducible apply M.guard); exact rfl)); (focus (first | (refine Eq.trans (look_of rfl) ?_; first | (simp only [dtX, *, hl, List.length_map] <;> rfl) | exact rfl) | exact look_of rfl))) | with_reducible apply R.seq | ((with_reducible apply E.blkX); exact rfl) | (((with_reducible apply F.store); (iterate 4 exact rfl)); (focus (simp (disch := first | assumption | omega | (simp only [lnX]; omega)) only [LS, storeV, loadV, partV, partP, cut, over, mkAgg, allP, asP, V.cells, PC, elDiv, elMod, elDiv0, Nat.mul_mod_left, Int.toNat_zero, Int.reduceToNat, *, hl, List.length_map] <;> rfl))) | (((with_reducible apply F.build); exact rfl; exact rfl; (focus (repeat' (first | exact Prs.nil | (apply Prs.cons; exact rfl))))); (focus (simp (disch := first | assumption | omega | (simp only [lnX]; omega)) only [LS, buildV, fillV, over, buildSliceV, elemsOf, appendV, elems, arrAt, cut, roomy, mkAgg, allP, asP, V.cells, PC, Int.toNat_zero, Int.reduceToNat, *, hl, List.length_map] <;> rfl))) | (((with_reducible apply F.len); (iterate 3 exact rfl)); (focus (simp (disch := first | assumption | omega | (simp only [lnX]; omega)) only [LS, lenV_L, idx_L, below_at, Int.toNat_zero, Int.reduceToNat, *, hl, List.length_map] <;> rfl))) | (intro hc; (try rw [hc]); (try simp only [decide_eq_true_eq, decide_eq_false_iff_not, Bool.not_eq_eq_eq_not, Bool.not_true, Bool.not_false] at hc); (try (exfalso; omega))) | (((with_reducible apply E.rPc); exact rfl; exact rfl; (focus (exact look_of rfl)); exact rfl); (focus (simp (disch := first | assumption | omega | (simp only [lnX]; omega)) only [LS, storeV, loadV, partV, partP, cut, over, mkAgg, allP, asP, V.cells, PC, elDiv, elMod, elDiv0, Nat.mul_mod_left, Int.toNat_zero, Int.reduceToNat, *, hl, List.length_map] <;> rfl))) | exact rfl
  obtain ⟨s, hg⟩ := at_some (show i < l.length by omega)
  have hil : i < l.length := by omega
  have hn := (rname_run s (hs s (List.mem_of_getElem? hg))).fv
  have htl : (l.take i).length = i := by simp; omega
  rw [drop_at hg, namesG, htl, snoc_take hg] at hr
  by_cases hnf : nameF s = false
  · rw [if_pos hnf] at hr
    rw [hnf] at hn
    cases hr
    repeat' first | (with_reducible first | apply M.free | apply M.done | apply E.seqN | apply E.seqR | apply E.blkR | apply R.skip | apply R.ret) | ((with_reducible apply F.move); exact rfl; exact rfl) | ((with_reducible first | apply F.load | apply F.not); (iterate 3 exact rfl)) | ((with_reducible apply F.cmp); (iterate 4 exact rfl)) | ((with_reducible apply R.regs); exact rfl) | ((with_reducible apply F.call0); exact rfl; exact rfl; (focus (repeat' (first | exact Evs.nil | (apply Evs.cons; exact rfl)))); exact rfl; (focus (first | exact hn))) | ((first | (with_reducible apply R.cond) | ((with_reducible apply M.guard); exact rfl)); (focus (first | (refine Eq.trans (look_of rfl) ?_; first | (simp only [dtX, *, hl, hg, List.length_map, List.getElem?_map] <;> rfl) | exact rfl) | exact look_of rfl))) | refine imp_yes rfl ?_ | exact imp_no rfl | with_reducible apply R.seq | with_reducible apply R.block | (((with_reducible apply F.store); (iterate 4 exact rfl)); (focus (simp (disch := first | assumption | omega | (simp only [lnX]; omega)) only [LS, storeV, loadV, partV, partP, cut, over, mkAgg, allP, asP, V.cells, PC, elDiv, elMod, elDiv0, Nat.mul_mod_left, Int.toNat_zero, Int.reduceToNat, *, hl, hg, List.length_map, List.getElem?_map] <;> rfl))) | (((with_reducible apply F.build); exact rfl; exact rfl; (focus (repeat' (first | exact Prs.nil | (apply Prs.cons; exact rfl))))); (focus (simp (disch := first | assumption | omega | (simp only [lnX]; omega)) only [LS, buildV, fillV, over, buildSliceV, elemsOf, appendV, elems, arrAt, cut, roomy, mkAgg, allP, asP, V.cells, PC, Int.toNat_zero, Int.reduceToNat, *, hl, hg, List.length_map, List.getElem?_map] <;> rfl))) | ((first | ((with_reducible apply F.indexAddr); (iterate 4 exact rfl)) | ((with_reducible apply F.len); (iterate 3 exact rfl))); (focus (simp (disch := first | assumption | omega | (simp only [lnX]; omega)) only [LS, lenV_L, idx_L, below_at, Int.toNat_zero, Int.reduceToNat, *, hl, hg, List.length_map, List.getElem?_map] <;> rfl))) | (intro hc; (try rw [hc]); (try simp only [decide_eq_true_eq, decide_eq_false_iff_not, Bool.not_eq_eq_eq_not, Bool.not_true, Bool.not_false] at hc); (try (exfalso; omega))) | (((with_reducible apply E.rPc); exact rfl; exact rfl; (focus (exact look_of rfl)); exact rfl); (focus (simp (disch := first | assumption | omega | (simp only [lnX]; omega)) only [LS, storeV, loadV, partV, partP, cut, over, mkAgg, allP, asP, V.cells, PC, elDiv, elMod, elDiv0, Nat.mul_mod_left, Int.toNat_zero, Int.reduceToNat, *, hl, hg, List.length_map, List.getElem?_map] <;> rfl))) | exact rfl
  have hnf : nameF s = true := by simpa using hnf
  rw [hnf, if_neg (by decide)] at hr
  rw [hnf] at hn
  repeat' first | (with_reducible first | apply M.free | apply M.done | apply E.seqN | apply R.skip) | ((with_reducible first | apply F.move | apply F.assign); exact rfl; exact rfl) | ((with_reducible first | apply F.load | apply F.not); (iterate 3 exact rfl)) | ((with_reducible apply F.cmp); (iterate 4 exact rfl)) | ((with_reducible apply R.regs); exact rfl) | ((with_reducible apply R.regsL); exact rfl) | ((with_reducible apply Lv.of); (focus (repeat' (first | exact Kp.nil | (apply Kp.cons; exact rfl))))) | ((with_reducible apply F.call0); exact rfl; exact rfl; (focus (repeat' (first | exact Evs.nil | (apply Evs.cons; exact rfl)))); exact rfl; (focus (first | exact hn))) | ((first | (with_reducible apply R.cond) | ((with_reducible apply M.guard); exact rfl)); (focus (first | (refine Eq.trans (look_of rfl) ?_; first | (simp only [dtX, *, hl, hg, List.length_map, List.getElem?_map] <;> rfl) | exact rfl) | exact look_of rfl))) | refine imp_yes rfl ?_ | exact imp_no rfl | with_reducible apply R.seq | with_reducible apply R.block | ((first | ((with_reducible apply F.indexAddr); (iterate 4 exact rfl)) | ((with_reducible apply F.len); (iterate 3 exact rfl))); (focus (simp (disch := first | assumption | omega | (simp only [lnX]; omega)) only [LS, lenV_L, idx_L, below_at, Int.toNat_zero, Int.reduceToNat, *, hl, hg, List.length_map, List.getElem?_map] <;> rfl))) | (intro hc; (try rw [hc]); (try simp only [decide_eq_true_eq, decide_eq_false_iff_not, Bool.not_eq_eq_eq_not, Bool.not_true, Bool.not_false] at hc); (try (exfalso; omega)))
  refine R.loop (fun m e H => ∃ k : Nat, e = [(0,.p x),(4,.ptr 0 0 0),(5,.p (.int .i64 i)),(6,.p (.int .i64 k))] ∧ H = [.box 0 [.p (.int .i64 0), .p (.int .i64 0)]] ∧ k ≤ i ∧ m = i - k ∧ (l.take k).any (· == s) = false) i ⟨0, rfl, rfl, by omega, by omega, by simp⟩ ?_
  rintro m e H ⟨k, rfl, rfl, hk, rfl, ha⟩
  by_cases hki : k = i
  · subst hki
    rw [ha, if_neg (by decide)] at hr
    repeat' first | (with_reducible first | apply M.free | apply M.done | apply E.seqN | apply E.seqX | apply E.blkN | apply R.exit) | ((with_reducible first | apply F.move | apply F.assign); exact rfl; exact rfl) | ((with_reducible apply F.cmp); (iterate 4 exact rfl)) | (((with_reducible apply F.add); (iterate 3 exact rfl)); (focus (first | omega | (simp only [lnX]; omega)))) | ((with_reducible apply R.regs); exact rfl) | ((with_reducible apply Lv.of); (focus (repeat' (first | exact Kp.nil | (apply Kp.cons; exact rfl))))) | ((first | (with_reducible apply R.cond) | ((with_reducible apply M.guard); exact rfl)); (focus (first | (refine Eq.trans (look_of rfl) ?_; first | (simp only [dtX, *, hl, List.length_map] <;> rfl) | exact rfl) | exact look_of rfl))) | with_reducible apply R.seq | ((with_reducible apply R.regionL); exact rfl) | ((with_reducible apply E.blkX); exact rfl) | (intro hc; (try rw [hc]); (try simp only [decide_eq_true_eq, decide_eq_false_iff_not, Bool.not_eq_eq_eq_not, Bool.not_true, Bool.not_false] at hc); (try (exfalso; omega)))
    all_goals exact ⟨l.length - (k + 1), by omega, k + 1, rfl, rfl, by omega, rfl, hr⟩
  obtain ⟨w, hw⟩ := at_some (show k < l.length by omega)
  have hnx := any_snoc _ ha hw
  have hq : (w == s) = true → ((i : Int), (9 : Int)) = (ra, re) := by
    intro h
    rw [any_at (show k < i by omega) hw h, if_pos rfl] at hr
    exact hr
  clear hr ha
  repeat' first | (with_reducible first | apply M.free | apply M.done | apply E.seqN | apply E.seqR | apply E.blkN | apply E.blkR | apply R.skip | apply R.ret) | ((with_reducible first | apply F.move | apply F.assign); exact rfl; exact rfl) | ((with_reducible apply F.load); (iterate 3 exact rfl)) | ((with_reducible apply F.cmp); (iterate 4 exact rfl)) | ((with_reducible apply F.cmpS); (iterate 4 exact rfl)) | (((with_reducible apply F.add); (iterate 3 exact rfl)); (focus (first | omega | (simp only [lnX]; omega)))) | ((with_reducible apply R.regs); exact rfl) | ((with_reducible apply Lv.of); (focus (repeat' (first | exact Kp.nil | (apply Kp.cons; exact rfl))))) | ((first | (with_reducible apply R.cond) | ((with_reducible apply M.guard); exact rfl)); (focus (first | (refine Eq.trans (look_of rfl) ?_; first | (simp only [dtX, *, hl, hg, hw, List.length_map, List.getElem?_map] <;> rfl) | exact rfl) | exact look_of rfl))) | with_reducible apply R.seq | ((with_reducible apply R.regionL); exact rfl) | with_reducible apply R.block | (((with_reducible apply F.store); (iterate 4 exact rfl)); (focus (simp (disch := first | assumption | omega | (simp only [lnX]; omega)) only [LS, storeV, loadV, partV, partP, cut, over, mkAgg, allP, asP, V.cells, PC, elDiv, elMod, elDiv0, Nat.mul_mod_left, Int.toNat_zero, Int.reduceToNat, *, hl, hg, hw, List.length_map, List.getElem?_map] <;> rfl))) | (((with_reducible apply F.build); exact rfl; exact rfl; (focus (repeat' (first | exact Prs.nil | (apply Prs.cons; exact rfl))))); (focus (simp (disch := first | assumption | omega | (simp only [lnX]; omega)) only [LS, buildV, fillV, over, buildSliceV, elemsOf, appendV, elems, arrAt, cut, roomy, mkAgg, allP, asP, V.cells, PC, Int.toNat_zero, Int.reduceToNat, *, hl, hg, hw, List.length_map, List.getElem?_map] <;> rfl))) | (((with_reducible apply F.indexAddr); (iterate 4 exact rfl)); (focus (simp (disch := first | assumption | omega | (simp only [lnX]; omega)) only [LS, lenV_L, idx_L, below_at, Int.toNat_zero, Int.reduceToNat, *, hl, hg, hw, List.length_map, List.getElem?_map] <;> rfl))) | (intro hc; (try rw [hc]); (try simp only [decide_eq_true_eq, decide_eq_false_iff_not, Bool.not_eq_eq_eq_not, Bool.not_true, Bool.not_false] at hc); (try (exfalso; omega))) | (((with_reducible apply E.rPc); exact rfl; exact rfl; (focus (exact look_of rfl)); exact rfl); (focus (simp (disch := first | assumption | omega | (simp only [lnX]; omega)) only [LS, storeV, loadV, partV, partP, cut, over, mkAgg, allP, asP, V.cells, PC, elDiv, elMod, elDiv0, Nat.mul_mod_left, Int.toNat_zero, Int.reduceToNat, *, hl, hg, hw, List.length_map, List.getElem?_map] <;> rfl)))
  all_goals first
    | (cases hq (by assumption); rfl)
    | exact ⟨i - (k + 1), by omega, k + 1, rfl, rfl, by omega, rfl, by rw [hnx]; assumption⟩
    | trace_state
theorem code_run (code : List Ins) (x : Pv) (hx : IsL 2 x) (hl : elemsP x = code.map Ins.pv) (vars args : Int) : PV cx 96 [.p x, .p (.int .i64 vars), .p (.int .i64 args)] (.int .i64 (checkF code vars args).2) := by
  refine PV.run cxF96 rfl ?_
  simp only [args0, Nat.zero_add, Nat.reduceAdd]
  have hck := (rcheck_run code x hx hl vars args).fv
  generalize checkF code vars args = c at *
  obtain ⟨c1, c2⟩ := c
  simp only [tup2] at hck
  repeat' first | (with_reducible first | apply M.free | apply M.done | apply R.ret) | ((with_reducible first | apply F.move | apply F.assign); exact rfl; exact rfl) | ((with_reducible apply F.extract); (iterate 3 exact rfl)) | ((with_reducible apply R.regs); exact rfl) | ((with_reducible apply F.call0); exact rfl; exact rfl; (focus (repeat' (first | exact Evs.nil | (apply Evs.cons; exact rfl)))); exact rfl; (focus (first | exact hck))) | (((with_reducible apply E.rP1); exact rfl; exact rfl; (focus (exact look_of rfl)))) | refine R.regs rfl ?_ | exact rfl
def guardE (vars args : Int) (g : Gd) : Int := if g.code < 16 ∨ 63 < g.code then 3 else (checkF g.test vars args).2
theorem rguard_run (g : Gd) (t s v a b : Pv) (hv : IsL 1 v) (ht1 : IsL 2 t) (ht2 : elemsP t = g.test.map Ins.pv) (args : Int) : PV cx 70 [.p (.agg [.int .i64 g.code, t]), .p (.agg [s, v, a, b]), .p (.int .i64 args)] (.int .i64 (guardE (elemsP v).length args g)) := by
  refine PV.run cxF70 rfl ?_
  simp only [args0, Nat.zero_add, Nat.reduceAdd]
  have hck := (code_run g.test t ht1 ht2 (elemsP v).length args).fv
  generalize hr : guardE (elemsP v).length args g = r
  unfold guardE at hr
  generalize (checkF g.test (elemsP v).length args).2 = c at *
  by_cases hc : g.code < 16 ∨ 63 < g.code
  · rw [if_pos hc] at hr
    subst hr
    clear ht2
    repeat' first | (with_reducible first | apply M.free | apply M.done | apply E.seqR | apply R.ret) | ((with_reducible first | apply F.move | apply F.assign); exact rfl; exact rfl) | ((with_reducible apply F.load); (iterate 3 exact rfl)) | ((with_reducible apply F.cmp); (iterate 4 exact rfl)) | ((with_reducible apply F.pickT); (iterate 3 exact rfl)) | ((with_reducible apply F.pickF); (iterate 3 exact rfl)) | ((with_reducible apply R.regs); exact rfl) | ((first | (with_reducible apply R.cond) | ((with_reducible apply M.guard); exact rfl)); (focus (first | (refine Eq.trans (look_of rfl) ?_; first | (simp only [dtX, *] <;> rfl) | exact rfl) | exact look_of rfl))) | refine imp_yes rfl ?_ | exact imp_no rfl | with_reducible apply R.seq | (((with_reducible apply F.boxE); (iterate 3 exact rfl)); (focus (simp (disch := first | assumption | omega | (simp only [lnX]; omega)) only [LS, storeV, loadV, partV, partP, cut, over, mkAgg, allP, asP, V.cells, PC, elDiv, elMod, elDiv0, Nat.mul_mod_left, Int.toNat_zero, Int.reduceToNat, *] <;> rfl)); exact rfl; (focus (simp only [evOf, allP, asP] <;> rfl))) | (((with_reducible apply F.fieldAddrS); (iterate 3 exact rfl)); (focus (simp (disch := first | assumption | omega | (simp only [lnX]; omega)) only [LS, indexAddrV, indexV, below_at, fieldV, fieldAddrV, convP, bytesOf, sliceV, bounds, bMax, bHi, bLo, upTo_at, makeFuncV, partV, partP, cut, binI, binS, binV, binP, arith, strOp_add, strOp_eql, strOp_neq, eqn, wrap64, wrap8, mkAgg, allP, asP, Option.getD_none, Int.toNat_zero, Int.reduceToNat, *] <;> rfl))) | (intro hc; (try rw [hc]); (try simp only [decide_eq_true_eq, decide_eq_false_iff_not, Bool.not_eq_eq_eq_not, Bool.not_true, Bool.not_false] at hc); (try (exfalso; omega))) | (((with_reducible apply E.rP1); exact rfl; exact rfl; (focus (exact look_of rfl)))) | refine R.regs rfl ?_ | exact rfl
  rw [if_neg hc] at hr
  subst hr
  clear ht2
  repeat' first | (with_reducible first | apply M.free | apply M.done | apply E.seqN | apply R.skip | apply R.ret) | ((with_reducible first | apply F.move | apply F.assign); exact rfl; exact rfl) | ((with_reducible apply F.load); (iterate 3 exact rfl)) | ((with_reducible apply F.cmp); (iterate 4 exact rfl)) | ((with_reducible apply F.pickF); (iterate 3 exact rfl)) | ((with_reducible apply R.regs); exact rfl) | ((with_reducible apply F.call0); exact rfl; exact rfl; (focus (repeat' (first | exact Evs.nil | (apply Evs.cons; exact rfl)))); exact rfl; (focus (first | exact hck))) | ((first | (with_reducible apply R.cond) | ((with_reducible apply M.guard); exact rfl)); (focus (first | (refine Eq.trans (look_of rfl) ?_; first | (simp only [dtX, *] <;> rfl) | exact rfl) | exact look_of rfl))) | refine imp_yes rfl ?_ | exact imp_no rfl | with_reducible apply R.seq | (((with_reducible apply F.boxE); (iterate 3 exact rfl)); (focus (simp (disch := first | assumption | omega | (simp only [lnX]; omega)) only [LS, storeV, loadV, partV, partP, cut, over, mkAgg, allP, asP, V.cells, PC, elDiv, elMod, elDiv0, Nat.mul_mod_left, Int.toNat_zero, Int.reduceToNat, *] <;> rfl)); exact rfl; (focus (simp only [evOf, allP, asP] <;> rfl))) | (((with_reducible apply F.len); (iterate 3 exact rfl)); (focus (simp (disch := first | assumption | omega | (simp only [lnX]; omega)) only [LS, lenV_L, idx_L, below_at, Int.toNat_zero, Int.reduceToNat, *] <;> rfl))) | (((with_reducible apply F.fieldAddrS); (iterate 3 exact rfl)); (focus (simp (disch := first | assumption | omega | (simp only [lnX]; omega)) only [LS, indexAddrV, indexV, below_at, fieldV, fieldAddrV, convP, bytesOf, sliceV, bounds, bMax, bHi, bLo, upTo_at, makeFuncV, partV, partP, cut, binI, binS, binV, binP, arith, strOp_add, strOp_eql, strOp_neq, eqn, wrap64, wrap8, mkAgg, allP, asP, Option.getD_none, Int.toNat_zero, Int.reduceToNat, *] <;> rfl))) | (intro hc; (try rw [hc]); (try simp only [decide_eq_true_eq, decide_eq_false_iff_not, Bool.not_eq_eq_eq_not, Bool.not_true, Bool.not_false] at hc); (try (exfalso; omega))) | (((with_reducible apply E.rP1); exact rfl; exact rfl; (focus (exact look_of rfl)))) | refine R.regs rfl ?_ | exact rfl
def stepE (states vars args : Int) (s : Stp) : Int := if states ≤ s.to then 3 else setsG vars args [] s.sets
theorem rstep_run (x : Pv) (hx : IsL 2 x) (g : Stp) (hl : L2 SxR (elemsP x) g.sets) (hB : g.sets.length ≤ 140737488355328) (s v a b : Pv) (hs : IsL 1 s) (hv : IsL 1 v) (args : Int) : PV cx 71 [.p (.agg [x, .int .i64 g.to]), .p (.agg [s, v, a, b]), .p (.int .i64 args)] (.int .i64 (stepE (elemsP s).length (elemsP v).length args g)) := by
  refine PV.run cxF71 rfl ?_
  simp only [args0, Nat.zero_add, Nat.reduceAdd]
  obtain ⟨l, to⟩ := g
  simp only at hl hB ⊢
  have hlen := hl.1
  generalize hr : stepE (elemsP s).length (elemsP v).length args ⟨l, to⟩ = r
  unfold stepE at hr
  simp only at hr
  by_cases ht : ((elemsP s).length : Int) ≤ to
  · rw [if_pos ht] at hr
    subst hr
    repeat' first | (with_reducible first | apply M.free | apply M.done | apply E.seqR | apply R.ret) | ((with_reducible apply F.load); (iterate 3 exact rfl)) | ((with_reducible apply F.cmp); (iterate 4 exact rfl)) | ((with_reducible apply F.assign); exact rfl; exact rfl) | ((with_reducible apply R.regs); exact rfl) | ((first | (with_reducible apply R.cond) | ((with_reducible apply M.guard); exact rfl)); (focus (first | (refine Eq.trans (look_of rfl) ?_; first | (simp only [dtX, *] <;> rfl) | exact rfl) | exact look_of rfl))) | refine imp_yes rfl ?_ | exact imp_no rfl | with_reducible apply R.seq | (((with_reducible apply F.boxE); (iterate 3 exact rfl)); (focus (simp (disch := first | assumption | omega | (simp only [lnX]; omega)) only [LS, storeV, loadV, partV, partP, cut, over, mkAgg, allP, asP, V.cells, PC, elDiv, elMod, elDiv0, Nat.mul_mod_left, Int.toNat_zero, Int.reduceToNat, *] <;> rfl)); exact rfl; (focus (simp only [evOf, allP, asP] <;> rfl))) | (((with_reducible apply F.len); (iterate 3 exact rfl)); (focus (simp (disch := first | assumption | omega | (simp only [lnX]; omega)) only [LS, lenV_L, idx_L, below_at, Int.toNat_zero, Int.reduceToNat, *] <;> rfl))) | (((with_reducible apply F.fieldAddrS); (iterate 3 exact rfl)); (focus (simp (disch := first | assumption | omega | (simp only [lnX]; omega)) only [LS, indexAddrV, indexV, below_at, fieldV, fieldAddrV, convP, bytesOf, sliceV, bounds, bMax, bHi, bLo, upTo_at, makeFuncV, partV, partP, cut, binI, binS, binV, binP, arith, strOp_add, strOp_eql, strOp_neq, eqn, wrap64, wrap8, mkAgg, allP, asP, Option.getD_none, Int.toNat_zero, Int.reduceToNat, *] <;> rfl))) | (((with_reducible apply E.rP1); exact rfl; exact rfl; (focus (exact look_of rfl)))) | refine R.regs rfl ?_ | exact rfl
  rw [if_neg ht] at hr
  repeat' first | (with_reducible first | apply M.free | apply M.done | apply E.seqN | apply R.skip) | ((with_reducible apply F.load); (iterate 3 exact rfl)) | ((with_reducible apply F.cmp); (iterate 4 exact rfl)) | ((with_reducible apply F.assign); exact rfl; exact rfl) | ((with_reducible apply R.regs); exact rfl) | ((with_reducible apply R.regsL); exact rfl) | ((with_reducible apply Lv.of); (focus (repeat' (first | exact Kp.nil | (apply Kp.cons; exact rfl))))) | ((first | (with_reducible apply R.cond) | ((with_reducible apply M.guard); exact rfl)); (focus (first | (refine Eq.trans (look_of rfl) ?_; first | (simp only [dtX, *, hlen] <;> rfl) | exact rfl) | exact look_of rfl))) | refine imp_yes rfl ?_ | exact imp_no rfl | with_reducible apply R.seq | with_reducible apply R.block | (((with_reducible apply F.boxE); (iterate 3 exact rfl)); (focus (simp (disch := first | assumption | omega | (simp only [lnX]; omega)) only [LS, storeV, loadV, partV, partP, cut, over, mkAgg, allP, asP, V.cells, PC, elDiv, elMod, elDiv0, Nat.mul_mod_left, Int.toNat_zero, Int.reduceToNat, *, hlen] <;> rfl)); exact rfl; (focus (simp only [evOf, allP, asP] <;> rfl))) | (((with_reducible apply F.len); (iterate 3 exact rfl)); (focus (simp (disch := first | assumption | omega | (simp only [lnX]; omega)) only [LS, lenV_L, idx_L, below_at, Int.toNat_zero, Int.reduceToNat, *, hlen] <;> rfl))) | (((with_reducible apply F.fieldAddrS); (iterate 3 exact rfl)); (focus (simp (disch := first | assumption | omega | (simp only [lnX]; omega)) only [LS, indexAddrV, indexV, below_at, fieldV, fieldAddrV, convP, bytesOf, sliceV, bounds, bMax, bHi, bLo, upTo_at, makeFuncV, partV, partP, cut, binI, binS, binV, binP, arith, strOp_add, strOp_eql, strOp_neq, eqn, wrap64, wrap8, mkAgg, allP, asP, Option.getD_none, Int.toNat_zero, Int.reduceToNat, *, hlen] <;> rfl))) | refine R.regs rfl ?_
  refine R.loop (fun m e H => ∃ i : Nat, e = [(2,.p (.int .i64 args)),(3,.p (.ep [x, .int .i64 to])),(4,.p (.ep [s, v, a, b])),(7,.p (.int .i64 i))] ∧ H = [] ∧ i ≤ l.length ∧ m = l.length - i ∧ setsG (elemsP v).length args (l.take i) (l.drop i) = r) l.length ⟨0, rfl, rfl, by omega, by omega, hr⟩ ?_
  clear hr
  rintro m e H ⟨i, rfl, rfl, h1, rfl, hr⟩
  by_cases hi : i = l.length
  · subst hi
    rw [List.drop_length, setsG] at hr
    cases hr
    repeat' first | (with_reducible first | apply M.free | apply M.done | apply E.seqN | apply E.seqX | apply R.ret | apply R.exit) | ((with_reducible first | apply F.move | apply F.assign); exact rfl; exact rfl) | ((with_reducible apply F.load); (iterate 3 exact rfl)) | ((with_reducible apply F.cmp); (iterate 4 exact rfl)) | ((with_reducible apply R.regs); exact rfl) | ((first | (with_reducible apply R.cond) | ((with_reducible apply M.guard); exact rfl)); (focus (first | (refine Eq.trans (look_of rfl) ?_; first | (simp only [dtX, *, hlen] <;> rfl) | exact rfl) | exact look_of rfl))) | with_reducible apply R.seq | ((with_reducible apply E.blkX); exact rfl) | (((with_reducible apply F.len); (iterate 3 exact rfl)); (focus (simp (disch := first | assumption | omega | (simp only [lnX]; omega)) only [LS, lenV_L, idx_L, below_at, Int.toNat_zero, Int.reduceToNat, *, hlen] <;> rfl))) | (((with_reducible apply F.fieldAddrS); (iterate 3 exact rfl)); (focus (simp (disch := first | assumption | omega | (simp only [lnX]; omega)) only [LS, indexAddrV, indexV, below_at, fieldV, fieldAddrV, convP, bytesOf, sliceV, bounds, bMax, bHi, bLo, upTo_at, makeFuncV, partV, partP, cut, binI, binS, binV, binP, arith, strOp_add, strOp_eql, strOp_neq, eqn, wrap64, wrap8, mkAgg, allP, asP, Option.getD_none, Int.toNat_zero, Int.reduceToNat, *, hlen] <;> rfl))) | (intro hc; (try rw [hc]); (try simp only [decide_eq_true_eq, decide_eq_false_iff_not, Bool.not_eq_eq_eq_not, Bool.not_true, Bool.not_false] at hc); (try (exfalso; omega))) | (((with_reducible apply E.rP1); exact rfl; exact rfl; (focus (exact look_of rfl)))) | exact rfl
  obtain ⟨w, hg⟩ := at_some (show i < l.length by omega)
  have hil : i < l.length := by omega
  have htl : (l.take i).length = i := by simp; omega
  obtain ⟨y, hy, t, rfl, ht1, ht2⟩ := hl.at hg
  rw [drop_at hg, setsG, snoc_take hg] at hr
  have hck := (code_run w.value t ht1 ht2 (elemsP v).length args).fv
  generalize (checkF w.value (elemsP v).length args).2 = ce at *
  by_cases hb : w.var < 0 ∨ ((elemsP v).length : Int) ≤ w.var
  · rw [if_pos hb] at hr
    cases hr
    clear hl
    repeat' first | (with_reducible first | apply M.free | apply M.done | apply E.seqN | apply E.seqR | apply E.blkR | apply R.skip | apply R.ret) | ((with_reducible first | apply F.move | apply F.assign); exact rfl; exact rfl) | ((with_reducible first | apply F.load | apply F.fieldAddr); (iterate 3 exact rfl)) | ((with_reducible apply F.cmp); (iterate 4 exact rfl)) | ((with_reducible apply F.pickT); (iterate 3 exact rfl)) | ((with_reducible apply F.pickF); (iterate 3 exact rfl)) | ((with_reducible apply R.regs); exact rfl) | ((first | (with_reducible apply R.cond) | ((with_reducible apply M.guard); exact rfl)); (focus (first | (refine Eq.trans (look_of rfl) ?_; first | (simp only [dtX, *, hlen, hy] <;> rfl) | exact rfl) | exact look_of rfl))) | refine imp_yes rfl ?_ | exact imp_no rfl | with_reducible apply R.seq | with_reducible apply R.block | ((first | ((with_reducible apply F.store); (iterate 4 exact rfl)) | ((with_reducible apply F.loadS); (iterate 3 exact rfl))); (focus (simp (disch := first | assumption | omega | (simp only [lnX]; omega)) only [LS, storeV, loadV, partV, partP, cut, over, mkAgg, allP, asP, V.cells, PC, elDiv, elMod, elDiv0, Nat.mul_mod_left, Int.toNat_zero, Int.reduceToNat, *, hlen, hy] <;> rfl))) | (((with_reducible apply F.alloc); exact rfl; exact rfl); (focus (simp only [LS] <;> rfl)); (focus (simp only [LS] <;> rfl))) | ((first | ((with_reducible apply F.indexAddr); (iterate 4 exact rfl)) | ((with_reducible apply F.len); (iterate 3 exact rfl))); (focus (simp (disch := first | assumption | omega | (simp only [lnX]; omega)) only [LS, lenV_L, idx_L, below_at, Int.toNat_zero, Int.reduceToNat, *, hlen, hy] <;> rfl))) | (((with_reducible apply F.fieldAddrS); (iterate 3 exact rfl)); (focus (simp (disch := first | assumption | omega | (simp only [lnX]; omega)) only [LS, indexAddrV, indexV, below_at, fieldV, fieldAddrV, convP, bytesOf, sliceV, bounds, bMax, bHi, bLo, upTo_at, makeFuncV, partV, partP, cut, binI, binS, binV, binP, arith, strOp_add, strOp_eql, strOp_neq, eqn, wrap64, wrap8, mkAgg, allP, asP, Option.getD_none, Int.toNat_zero, Int.reduceToNat, *, hlen, hy] <;> rfl))) | (intro hc; (try rw [hc]); (try simp only [decide_eq_true_eq, decide_eq_false_iff_not, Bool.not_eq_eq_eq_not, Bool.not_true, Bool.not_false] at hc); (try (exfalso; omega))) | (((with_reducible apply E.rP1); exact rfl; exact rfl; (focus (exact look_of rfl)))) | exact rfl
  rw [if_neg hb] at hr
  have hsub : ∀ (k : Nat) z, l[k]? = some z → ∃ u, (elemsP x)[k]? = some (.agg [.int .i64 z.var, u]) := by
    intro k z hz
    obtain ⟨y', hy', u, rfl, -, -⟩ := hl.at hz
    exact ⟨u, hy'⟩
  clear hl ht2
  repeat' first | (with_reducible first | apply M.free | apply M.done | apply E.seqN | apply R.skip) | ((with_reducible first | apply F.move | apply F.assign); exact rfl; exact rfl) | ((with_reducible first | apply F.load | apply F.fieldAddr); (iterate 3 exact rfl)) | ((with_reducible apply F.cmp); (iterate 4 exact rfl)) | ((with_reducible apply F.pickF); (iterate 3 exact rfl)) | ((with_reducible apply R.regs); exact rfl) | ((with_reducible apply R.regsL); exact rfl) | ((with_reducible apply Lv.of); (focus (repeat' (first | exact Kp.nil | (apply Kp.cons; exact rfl))))) | ((first | (with_reducible apply R.cond) | ((with_reducible apply M.guard); exact rfl)); (focus (first | (refine Eq.trans (look_of rfl) ?_; first | (simp only [dtX, *, hy, hlen] <;> rfl) | exact rfl) | exact look_of rfl))) | refine imp_yes rfl ?_ | exact imp_no rfl | with_reducible apply R.seq | with_reducible apply R.block | ((first | ((with_reducible apply F.store); (iterate 4 exact rfl)) | ((with_reducible apply F.loadS); (iterate 3 exact rfl))); (focus (simp (disch := first | assumption | omega | (simp only [lnX]; omega)) only [LS, storeV, loadV, partV, partP, cut, over, mkAgg, allP, asP, V.cells, PC, elDiv, elMod, elDiv0, Nat.mul_mod_left, Int.toNat_zero, Int.reduceToNat, *, hy, hlen] <;> rfl))) | (((with_reducible apply F.alloc); exact rfl; exact rfl); (focus (simp only [LS] <;> rfl)); (focus (simp only [LS] <;> rfl))) | ((first | ((with_reducible apply F.indexAddr); (iterate 4 exact rfl)) | ((with_reducible apply F.len); (iterate 3 exact rfl))); (focus (simp (disch := first | assumption | omega | (simp only [lnX]; omega)) only [LS, lenV_L, idx_L, below_at, Int.toNat_zero, Int.reduceToNat, *, hy, hlen] <;> rfl))) | (((with_reducible apply F.fieldAddrS); (iterate 3 exact rfl)); (focus (simp (disch := first | assumption | omega | (simp only [lnX]; omega)) only [LS, indexAddrV, indexV, below_at, fieldV, fieldAddrV, convP, bytesOf, sliceV, bounds, bMax, bHi, bLo, upTo_at, makeFuncV, partV, partP, cut, binI, binS, binV, binP, arith, strOp_add, strOp_eql, strOp_neq, eqn, wrap64, wrap8, mkAgg, allP, asP, Option.getD_none, Int.toNat_zero, Int.reduceToNat, *, hy, hlen] <;> rfl))) | (intro hc; (try rw [hc]); (try simp only [decide_eq_true_eq, decide_eq_false_iff_not, Bool.not_eq_eq_eq_not, Bool.not_true, Bool.not_false] at hc); (try (exfalso; omega)))
  refine R.loop (fun m e H => ∃ k : Nat, e = [(2,.p (.int .i64 args)),(3,.p (.ep [x, .int .i64 to])),(4,.p (.ep [s, v, a, b])),(7,.p (.int .i64 i)),(8,.ptr 0 0 0),(9,.p (.int .i64 k))] ∧ H = [.box 0 [.p (.int .i64 w.var), .p t]] ∧ k ≤ i ∧ m = i - k ∧ (l.take k).any (fun z => decide (z.var = w.var)) = false) i ⟨0, rfl, rfl, by omega, by omega, by simp⟩ ?_
  rintro m e H ⟨k, rfl, rfl, hk, rfl, ha⟩
  by_cases hki : k = i
  · subst hki
    rw [ha, if_neg (by decide)] at hr
    clear hsub
    by_cases he : ce = 0
    · rw [if_neg (by simpa using he)] at hr
      subst he
      repeat' first | (with_reducible first | apply M.free | apply M.done | apply E.seqN | apply E.seqX | apply E.blkN | apply R.skip | apply R.exit) | ((with_reducible first | apply F.move | apply F.assign); exact rfl; exact rfl) | ((with_reducible first | apply F.load | apply F.fieldAddr); (iterate 3 exact rfl)) | ((with_reducible apply F.cmp); (iterate 4 exact rfl)) | (((with_reducible apply F.add); (iterate 3 exact rfl)); (focus (first | omega | (simp only [lnX]; omega)))) | ((with_reducible apply R.regs); exact rfl) | ((with_reducible apply Cut.of); (focus (repeat' (first | exact Kp.nil | (apply Kp.cons; exact rfl)))); (focus ((try simp only [List.take_succ_cons, List.take_zero, List.take_nil, Nat.zero_add, Nat.reduceAdd]) <;> rfl)); (focus (first | exact rfl | (simp [cutOk, lowOb, lowV, lowCell, lowCell1, low_map]; done)))) | ((with_reducible apply F.call0); exact rfl; exact rfl; (focus (repeat' (first | exact Evs.nil | (apply Evs.cons; exact rfl)))); exact rfl; (focus (first | exact hck))) | ((first | (with_reducible apply R.cond) | ((with_reducible apply M.guard); exact rfl)); (focus (first | (refine Eq.trans (look_of rfl) ?_; first | (simp only [dtX, *] <;> rfl) | exact rfl) | exact look_of rfl))) | refine imp_yes rfl ?_ | exact imp_no rfl | with_reducible apply R.seq | ((with_reducible apply R.regionT); exact rfl) | ((with_reducible apply E.blkX); exact rfl) | (((with_reducible apply F.len); (iterate 3 exact rfl)); (focus (simp (disch := first | assumption | omega | (simp only [lnX]; omega)) only [LS, lenV_L, idx_L, below_at, Int.toNat_zero, Int.reduceToNat, *] <;> rfl))) | (((with_reducible apply F.fieldAddrS); (iterate 3 exact rfl)); (focus (simp (disch := first | assumption | omega | (simp only [lnX]; omega)) only [LS, indexAddrV, indexV, below_at, fieldV, fieldAddrV, convP, bytesOf, sliceV, bounds, bMax, bHi, bLo, upTo_at, makeFuncV, partV, partP, cut, binI, binS, binV, binP, arith, strOp_add, strOp_eql, strOp_neq, eqn, wrap64, wrap8, mkAgg, allP, asP, Option.getD_none, Int.toNat_zero, Int.reduceToNat, *] <;> rfl))) | (intro hc; (try rw [hc]); (try simp only [decide_eq_true_eq, decide_eq_false_iff_not, Bool.not_eq_eq_eq_not, Bool.not_true, Bool.not_false] at hc); (try (exfalso; omega)))
      all_goals exact ⟨l.length - (k + 1), by omega, k + 1, rfl, rfl, by omega, rfl, hr⟩
    · rw [if_pos he] at hr
      subst hr
      repeat' first | (with_reducible first | apply M.free | apply M.done | apply E.seqN | apply E.seqX | apply E.seqR | apply E.blkR | apply R.ret | apply R.exit) | ((with_reducible first | apply F.move | apply F.assign); exact rfl; exact rfl) | ((with_reducible first | apply F.load | apply F.fieldAddr); (iterate 3 exact rfl)) | ((with_reducible apply F.cmp); (iterate 4 exact rfl)) | ((with_reducible apply R.regs); exact rfl) | ((with_reducible apply F.call0); exact rfl; exact rfl; (focus (repeat' (first | exact Evs.nil | (apply Evs.cons; exact rfl)))); exact rfl; (focus (first | exact hck))) | ((first | (with_reducible apply R.cond) | ((with_reducible apply M.guard); exact rfl)); (focus (first | (refine Eq.trans (look_of rfl) ?_; first | (simp only [dtX, *] <;> rfl) | exact rfl) | exact look_of rfl))) | refine imp_yes rfl ?_ | exact imp_no rfl | with_reducible apply R.seq | ((with_reducible apply E.blkX); exact rfl) | (((with_reducible apply F.len); (iterate 3 exact rfl)); (focus (simp (disch := first | assumption | omega | (simp only [lnX]; omega)) only [LS, lenV_L, idx_L, below_at, Int.toNat_zero, Int.reduceToNat, *] <;> rfl))) | (((with_reducible apply F.fieldAddrS); (iterate 3 exact rfl)); (focus (simp (disch := first | assumption | omega | (simp only [lnX]; omega)) only [LS, indexAddrV, indexV, below_at, fieldV, fieldAddrV, convP, bytesOf, sliceV, bounds, bMax, bHi, bLo, upTo_at, makeFuncV, partV, partP, cut, binI, binS, binV, binP, arith, strOp_add, strOp_eql, strOp_neq, eqn, wrap64, wrap8, mkAgg, allP, asP, Option.getD_none, Int.toNat_zero, Int.reduceToNat, *] <;> rfl))) | (intro hc; (try rw [hc]); (try simp only [decide_eq_true_eq, decide_eq_false_iff_not, Bool.not_eq_eq_eq_not, Bool.not_true, Bool.not_false] at hc); (try (exfalso; omega))) | (((with_reducible apply E.rP1); exact rfl; exact rfl; (focus (exact look_of rfl)))) | exact rfl
  obtain ⟨z, hz⟩ := at_some (show k < l.length by omega)
  obtain ⟨u, hzt⟩ := hsub k z hz
  have hnx := any_snoc _ ha hz
  have hq : z.var = w.var → (9 : Int) = r := by
    intro h
    rw [any_at (show k < i by omega) hz (by simpa using h), if_pos rfl] at hr
    exact hr
  clear hr ha hsub hck
  repeat' first | (with_reducible first | apply M.free | apply M.done | apply E.seqN | apply E.seqR | apply E.blkN | apply E.blkR | apply R.skip | apply R.ret) | ((with_reducible first | apply F.move | apply F.assign); exact rfl; exact rfl) | ((with_reducible first | apply F.load | apply F.fieldAddr); (iterate 3 exact rfl)) | ((with_reducible apply F.cmp); (iterate 4 exact rfl)) | (((with_reducible apply F.add); (iterate 3 exact rfl)); (focus (first | omega | (simp only [lnX]; omega)))) | ((with_reducible apply R.regs); exact rfl) | ((with_reducible apply Lv.of); (focus (repeat' (first | exact Kp.nil | (apply Kp.cons; exact rfl))))) | ((first | (with_reducible apply R.cond) | ((with_reducible apply M.guard); exact rfl)); (focus (first | (refine Eq.trans (look_of rfl) ?_; first | (simp only [dtX, *, hzt, hlen] <;> rfl) | exact rfl) | exact look_of rfl))) | with_reducible apply R.seq | ((with_reducible apply R.regionL); exact rfl) | with_reducible apply R.block | (((with_reducible apply F.indexAddr); (iterate 4 exact rfl)); (focus (simp (disch := first | assumption | omega | (simp only [lnX]; omega)) only [LS, lenV_L, idx_L, below_at, Int.toNat_zero, Int.reduceToNat, *, hzt, hlen] <;> rfl))) | (((with_reducible apply F.fieldAddrS); (iterate 3 exact rfl)); (focus (simp (disch := first | assumption | omega | (simp only [lnX]; omega)) only [LS, indexAddrV, indexV, below_at, fieldV, fieldAddrV, convP, bytesOf, sliceV, bounds, bMax, bHi, bLo, upTo_at, makeFuncV, partV, partP, cut, binI, binS, binV, binP, arith, strOp_add, strOp_eql, strOp_neq, eqn, wrap64, wrap8, mkAgg, allP, asP, Option.getD_none, Int.toNat_zero, Int.reduceToNat, *, hzt, hlen] <;> rfl))) | (intro hc; (try rw [hc]); (try simp only [decide_eq_true_eq, decide_eq_false_iff_not, Bool.not_eq_eq_eq_not, Bool.not_true, Bool.not_false] at hc); (try (exfalso; omega))) | (((with_reducible apply E.rP1); exact rfl; exact rfl; (focus (exact look_of rfl))))
  all_goals first
    | (cases hq (by assumption); rfl)
    | exact ⟨i - (k + 1), by omega, k + 1, rfl, rfl, by omega, rfl, by rw [hnx]; simp only [decide_eq_false_iff_not]; assumption⟩
    | trace_state
noncomputable def fi41 : FnI := { body := (Tryd.f41.body).getD .skip, ntmps := 126, results := Tryd.f41.results.toList, hints := [(0, { ops := [(0, 2)] }), (2, { live := some [1, 2, 4, 5, 6] }), (4, { live := some [1, 2, 4, 5, 6] }), (7, { live := some [1, 2, 4, 5, 6, 7] }), (9, { live := some [1, 2, 4, 5, 6, 7] }), (14, { live := some [1, 2, 4, 5, 8] }), (16, { live := some [1, 2, 4, 5, 8] }), (24, { live := some [1, 2, 4, 5, 10] }), (26, { live := some [1, 2, 4, 5, 10] })] }
theorem cxF41 : cx.F 41 = some fi41 := by kernel_rfl
noncomputable def fi17 : FnI := { body := (Tryd.f17.body).getD .skip, ntmps := 122, results := Tryd.f17.results.toList, hints := [(0, { ops := [(0, 2)] }), (11, { live := some [1, 2, 4] }), (13, { live := some [1, 2, 4] }), (18, { live := some [1, 2, 5] }), (20, { live := some [1, 2, 5], trunc := some 2 }), (24, { live := some [1, 2, 5, 6, 7] }), (26, { live := some [1, 2, 5, 6, 7] })] }
theorem cxF17 : cx.F 17 = some fi17 := by kernel_rfl
theorem guardsG_cons (vars args : Int) (k : Nat) (g : Gd) (l : List Gd) : guardsG vars args k (g :: l) = if guardE vars args g ≠ 0 then ((k : Int), guardE vars args g) else guardsG vars args (k + 1) l := by
  rw [guardsG, guardE]
  by_cases h : g.code < 16 ∨ 63 < g.code
  · rw [if_pos h, if_pos h, if_pos (by decide)]
  · rw [if_neg h, if_neg h]
theorem stepsG_cons (states vars args : Int) (k : Nat) (s : Stp) (l : List Stp) : stepsG states vars args k (s :: l) = if stepE states vars args s ≠ 0 then ((k : Int), stepE states vars args s) else stepsG states vars args (k + 1) l := by
  rw [stepsG, stepE]
  by_cases h : states ≤ s.to
  · rw [if_pos h, if_pos h, if_pos (by decide)]
  · rw [if_neg h, if_neg h]
def ruleL (states vars : Int) (n : Nat) (r : Rl) : Flt :=
  if (fromG states [] r.from_).2 ≠ 0 then ((fromG states [] r.from_).2, n, 7, (fromG states [] r.from_).1)
  else if (guardsF vars r.args r.guards).2 ≠ 0 then ((guardsF vars r.args r.guards).2, n, 8, (guardsF vars r.args r.guards).1)
  else if (stepsF states vars r.args r.steps).2 ≠ 0 then ((stepsF states vars r.args r.steps).2, n, 9, (stepsF states vars r.args r.steps).1)
  else (0, 0, 0, 0)
theorem rrule_run (t : Tb) (hB : TbB t) (s v a q : Pv) (T : TbP s v a q t) (n : Nat) (r : Rl) (hr : t.rules[n]? = some r) :
    PV cx 41 [.p (.agg [s, v, a, q]), .p (.int .i64 n)] (fltP (ruleL (elemsP s).length (elemsP v).length n r)) := by
  refine PV.run cxF41 rfl ?_
  simp only [args0, Nat.zero_add, Nat.reduceAdd]
  obtain ⟨s1, s2, v1, v2, a1, a2, q1, q2⟩ := T
  have hlen := q2.1
  have hn := (List.getElem?_eq_some_iff.1 hr).1
  have hnB := hB.rules
  have hm := List.mem_of_getElem? hr
  obtain ⟨y, hy, f, g, ss, rfl, hf1, hf2, hg1, hg2, hss1, hss2⟩ := q2.at hr
  have hfB := hB.from_ r hm
  have hsB := hB.sets r hm
  have hgl := hg2.1
  have hsl := hss2.1
  generalize hF : ruleL (elemsP s).length (elemsP v).length n r = F
  unfold ruleL at hF
  obtain ⟨F1, F2, F3, F4⟩ := F
  obtain ⟨rn, ra, rf, rg, rs⟩ := r
  simp only at hF hf2 hg2 hss2 hfB hsB hgl hsl hy
  simp only [fltP]
  have hfl : (elemsP f).length = rf.length := by rw [hf2, List.length_map]
  -- what is left, once the states are right, and once the guards are
  have h1 : fromG (elemsP s).length [] rf = fromG (elemsP s).length (rf.take 0) (rf.drop 0) := rfl
  clear s2 v2 a2 q2 hB hm hr
  repeat' first | (with_reducible first | apply M.free | apply M.done) | ((with_reducible first | apply F.move | apply F.assign); exact rfl; exact rfl) | ((with_reducible apply F.load); (iterate 3 exact rfl)) | ((with_reducible apply R.regs); exact rfl) | ((with_reducible apply R.regsL); exact rfl) | ((with_reducible apply Lv.of); (focus (repeat' (first | exact Kp.nil | (apply Kp.cons; exact rfl))))) | with_reducible apply R.seq | with_reducible apply R.block | ((first | ((with_reducible apply F.store); (iterate 4 exact rfl)) | ((with_reducible apply F.loadS); (iterate 3 exact rfl))); (focus (simp (disch := first | assumption | omega | (simp only [lnX]; omega)) only [LS, storeV, loadV, partV, partP, cut, over, mkAgg, allP, asP, V.cells, PC, elDiv, elMod, elDiv0, Nat.mul_mod_left, Int.toNat_zero, Int.reduceToNat, *, hlen, hy, hfl] <;> rfl))) | (((with_reducible apply F.alloc); exact rfl; exact rfl); (focus (simp only [LS] <;> rfl)); (focus (simp only [LS] <;> rfl))) | (((with_reducible apply F.boxE); (iterate 3 exact rfl)); (focus (simp (disch := first | assumption | omega | (simp only [lnX]; omega)) only [LS, storeV, loadV, partV, partP, cut, over, mkAgg, allP, asP, V.cells, PC, elDiv, elMod, elDiv0, Nat.mul_mod_left, Int.toNat_zero, Int.reduceToNat, *, hlen, hy, hfl] <;> rfl)); exact rfl; (focus (simp only [evOf, allP, asP] <;> rfl))) | (((with_reducible apply F.indexAddr); (iterate 4 exact rfl)); (focus (simp (disch := first | assumption | omega | (simp only [lnX]; omega)) only [LS, lenV_L, idx_L, below_at, Int.toNat_zero, Int.reduceToNat, *, hlen, hy, hfl] <;> rfl))) | (((with_reducible apply F.fieldAddrS); (iterate 3 exact rfl)); (focus (simp (disch := first | assumption | omega | (simp only [lnX]; omega)) only [LS, indexAddrV, indexV, below_at, fieldV, fieldAddrV, convP, bytesOf, sliceV, bounds, bMax, bHi, bLo, upTo_at, makeFuncV, partV, partP, cut, binI, binS, binV, binP, arith, strOp_add, strOp_eql, strOp_neq, eqn, wrap64, wrap8, mkAgg, allP, asP, Option.getD_none, Int.toNat_zero, Int.reduceToNat, *, hlen, hy, hfl] <;> rfl))) | refine R.regs rfl ?_
  refine R.loop (fun m e H => ∃ i : Nat, e = [(1,.p (.int .i64 n)),(2,.p (.ep [s, v, a, q])),(4,.ptr 0 0 0),(5,.ptr 1 0 0),(6,.p (.int .i64 i))] ∧ H = [.box 0 [.p (.int .i64 0), .p (.int .i64 0), .p (.int .i64 0), .p (.int .i64 0)], .box 0 [.p (.str rn), .p (.int .i64 ra), .p f, .p g, .p ss]] ∧ i ≤ rf.length ∧ m = rf.length - i ∧ fromG (elemsP s).length (rf.take i) (rf.drop i) = fromG (elemsP s).length [] rf) rf.length ⟨0, rfl, rfl, by omega, by omega, rfl⟩ ?_
  clear h1
  rintro m e H ⟨i, rfl, rfl, h1, rfl, hq⟩
  by_cases hi : i = rf.length
  rotate_left 1
  · obtain ⟨w, hw⟩ := at_some (show i < rf.length by omega)
    have hil : i < rf.length := by omega
    have htl : (rf.take i).length = i := by simp; omega
    rw [drop_at hw, fromG, htl, snoc_take hw] at hq
    generalize hG : fromG (elemsP s).length [] rf = G at *
    by_cases hb : w < 0 ∨ ((elemsP s).length : Int) ≤ w
    · rw [if_pos hb] at hq
      subst hq
      simp only [ne_eq, show ¬ ((3 : Int) = 0) by decide, not_false_eq_true, if_true] at hF
      cases hF
      clear hG
      repeat' first | (with_reducible first | apply M.free | apply M.done | apply E.seqN | apply E.seqR | apply E.blkR | apply R.skip | apply R.ret) | ((with_reducible apply F.move); exact rfl; exact rfl) | ((with_reducible first | apply F.load | apply F.fieldAddr); (iterate 3 exact rfl)) | ((with_reducible apply F.cmp); (iterate 4 exact rfl)) | ((with_reducible apply F.pickT); (iterate 3 exact rfl)) | ((with_reducible apply F.pickF); (iterate 3 exact rfl)) | ((with_reducible apply R.regs); exact rfl) | ((first | (with_reducible apply R.cond) | ((with_reducible apply M.guard); exact rfl)); (focus (first | (refine Eq.trans (look_of rfl) ?_; first | (simp only [dtX, *, hf2, hfl, hw, List.length_map, List.getElem?_map] <;> rfl) | exact rfl) | exact look_of rfl))) | refine imp_yes rfl ?_ | exact imp_no rfl | with_reducible apply R.seq | with_reducible apply R.block | (((with_reducible apply F.store); (iterate 4 exact rfl)); (focus (simp (disch := first | assumption | omega | (simp only [lnX]; omega)) only [LS, storeV, loadV, partV, partP, cut, over, mkAgg, allP, asP, V.cells, PC, elDiv, elMod, elDiv0, Nat.mul_mod_left, Int.toNat_zero, Int.reduceToNat, *, hf2, hfl, hw, List.length_map, List.getElem?_map] <;> rfl))) | (((with_reducible apply F.build); exact rfl; exact rfl; (focus (repeat' (first | exact Prs.nil | (apply Prs.cons; exact rfl))))); (focus (simp (disch := first | assumption | omega | (simp only [lnX]; omega)) only [LS, buildV, fillV, over, buildSliceV, elemsOf, appendV, elems, arrAt, cut, roomy, mkAgg, allP, asP, V.cells, PC, Int.toNat_zero, Int.reduceToNat, *, hf2, hfl, hw, List.length_map, List.getElem?_map] <;> rfl))) | ((first | ((with_reducible apply F.indexAddr); (iterate 4 exact rfl)) | ((with_reducible apply F.len); (iterate 3 exact rfl))); (focus (simp (disch := first | assumption | omega | (simp only [lnX]; omega)) only [LS, lenV_L, idx_L, below_at, Int.toNat_zero, Int.reduceToNat, *, hf2, hfl, hw, List.length_map, List.getElem?_map] <;> rfl))) | (((with_reducible apply F.fieldAddrS); (iterate 3 exact rfl)); (focus (simp (disch := first | assumption | omega | (simp only [lnX]; omega)) only [LS, indexAddrV, indexV, below_at, fieldV, fieldAddrV, convP, bytesOf, sliceV, bounds, bMax, bHi, bLo, upTo_at, makeFuncV, partV, partP, cut, binI, binS, binV, binP, arith, strOp_add, strOp_eql, strOp_neq, eqn, wrap64, wrap8, mkAgg, allP, asP, Option.getD_none, Int.toNat_zero, Int.reduceToNat, *, hf2, hfl, hw, List.length_map, List.getElem?_map] <;> rfl))) | (intro hc; (try rw [hc]); (try simp only [decide_eq_true_eq, decide_eq_false_iff_not, Bool.not_eq_eq_eq_not, Bool.not_true, Bool.not_false] at hc); (try (exfalso; omega))) | (((with_reducible apply E.rPc); exact rfl; exact rfl; (focus (exact look_of rfl)); exact rfl); (focus (simp (disch := first | assumption | omega | (simp only [lnX]; omega)) only [LS, storeV, loadV, partV, partP, cut, over, mkAgg, allP, asP, V.cells, PC, elDiv, elMod, elDiv0, Nat.mul_mod_left, Int.toNat_zero, Int.reduceToNat, *, hf2, hfl, hw, List.length_map, List.getElem?_map] <;> rfl))) | exact rfl
    rw [if_neg hb] at hq
    repeat' first | (with_reducible first | apply M.free | apply M.done | apply E.seqN | apply R.skip) | ((with_reducible first | apply F.move | apply F.assign); exact rfl; exact rfl) | ((with_reducible first | apply F.load | apply F.fieldAddr); (iterate 3 exact rfl)) | ((with_reducible apply F.cmp); (iterate 4 exact rfl)) | ((with_reducible apply F.pickF); (iterate 3 exact rfl)) | ((with_reducible apply R.regs); exact rfl) | ((with_reducible apply R.regsL); exact rfl) | ((with_reducible apply Lv.of); (focus (repeat' (first | exact Kp.nil | (apply Kp.cons; exact rfl))))) | ((first | (with_reducible apply R.cond) | ((with_reducible apply M.guard); exact rfl)); (focus (first | (refine Eq.trans (look_of rfl) ?_; first | (simp only [dtX, *, hf2, hfl, hw, List.length_map, List.getElem?_map] <;> rfl) | exact rfl) | exact look_of rfl))) | refine imp_yes rfl ?_ | exact imp_no rfl | with_reducible apply R.seq | with_reducible apply R.block | ((first | ((with_reducible apply F.indexAddr); (iterate 4 exact rfl)) | ((with_reducible apply F.len); (iterate 3 exact rfl))); (focus (simp (disch := first | assumption | omega | (simp only [lnX]; omega)) only [LS, lenV_L, idx_L, below_at, Int.toNat_zero, Int.reduceToNat, *, hf2, hfl, hw, List.length_map, List.getElem?_map] <;> rfl))) | (((with_reducible apply F.fieldAddrS); (iterate 3 exact rfl)); (focus (simp (disch := first | assumption | omega | (simp only [lnX]; omega)) only [LS, indexAddrV, indexV, below_at, fieldV, fieldAddrV, convP, bytesOf, sliceV, bounds, bMax, bHi, bLo, upTo_at, makeFuncV, partV, partP, cut, binI, binS, binV, binP, arith, strOp_add, strOp_eql, strOp_neq, eqn, wrap64, wrap8, mkAgg, allP, asP, Option.getD_none, Int.toNat_zero, Int.reduceToNat, *, hf2, hfl, hw, List.length_map, List.getElem?_map] <;> rfl))) | (intro hc; (try rw [hc]); (try simp only [decide_eq_true_eq, decide_eq_false_iff_not, Bool.not_eq_eq_eq_not, Bool.not_true, Bool.not_false] at hc); (try (exfalso; omega)))
    refine R.loop (fun m e H => ∃ k : Nat, e = [(1,.p (.int .i64 n)),(2,.p (.ep [s, v, a, q])),(4,.ptr 0 0 0),(5,.ptr 1 0 0),(6,.p (.int .i64 i)),(7,.p (.int .i64 k))] ∧ H = [.box 0 [.p (.int .i64 0), .p (.int .i64 0), .p (.int .i64 0), .p (.int .i64 0)], .box 0 [.p (.str rn), .p (.int .i64 ra), .p f, .p g, .p ss]] ∧ k ≤ i ∧ m = i - k ∧ (rf.take k).any (fun z => decide (z = w)) = false) i ⟨0, rfl, rfl, by omega, by omega, by simp⟩ ?_
    rintro m e H ⟨k, rfl, rfl, hk, rfl, ha⟩
    by_cases hki : k = i
    · subst hki
      rw [ha, if_neg (by decide)] at hq
      clear hG
      repeat' first | (with_reducible first | apply M.free | apply M.done | apply E.seqN | apply E.seqX | apply E.blkN | apply R.exit) | ((with_reducible first | apply F.move | apply F.assign); exact rfl; exact rfl) | ((with_reducible apply F.cmp); (iterate 4 exact rfl)) | (((with_reducible apply F.add); (iterate 3 exact rfl)); (focus (first | omega | (simp only [lnX]; omega)))) | ((with_reducible apply R.regs); exact rfl) | ((with_reducible apply Lv.of); (focus (repeat' (first | exact Kp.nil | (apply Kp.cons; exact rfl))))) | ((first | (with_reducible apply R.cond) | ((with_reducible apply M.guard); exact rfl)); (focus (first | (refine Eq.trans (look_of rfl) ?_; first | (simp only [dtX, *] <;> rfl) | exact rfl) | exact look_of rfl))) | with_reducible apply R.seq | ((with_reducible apply R.regionL); exact rfl) | ((with_reducible apply E.blkX); exact rfl) | (intro hc; (try rw [hc]); (try simp only [decide_eq_true_eq, decide_eq_false_iff_not, Bool.not_eq_eq_eq_not, Bool.not_true, Bool.not_false] at hc); (try (exfalso; omega)))
      all_goals exact ⟨rf.length - (k + 1), by omega, k + 1, rfl, rfl, by omega, rfl, hq⟩
    obtain ⟨z, hz⟩ := at_some (show k < rf.length by omega)
    have hnx := any_snoc _ ha hz
    have hq9 : z = w → ((9 : Int), (n : Int), (7 : Int), (i : Int)) = (F1, F2, F3, F4) := by
      intro h
      rw [any_at (show k < i by omega) hz (by simpa using h), if_pos rfl] at hq
      subst hq
      exact hF
    clear hq ha hG hF
    repeat' first | (with_reducible first | apply M.free | apply M.done | apply E.seqN | apply E.seqR | apply E.blkN | apply E.blkR | apply R.skip | apply R.ret) | ((with_reducible first | apply F.move | apply F.assign); exact rfl; exact rfl) | ((with_reducible first | apply F.load | apply F.fieldAddr); (iterate 3 exact rfl)) | ((with_reducible apply F.cmp); (iterate 4 exact rfl)) | (((with_reducible apply F.add); (iterate 3 exact rfl)); (focus (first | omega | (simp only [lnX]; omega)))) | ((with_reducible apply R.regs); exact rfl) | ((with_reducible apply Lv.of); (focus (repeat' (first | exact Kp.nil | (apply Kp.cons; exact rfl))))) | ((first | (with_reducible apply R.cond) | ((with_reducible apply M.guard); exact rfl)); (focus (first | (refine Eq.trans (look_of rfl) ?_; first | (simp only [dtX, *, hf2, hfl, hw, hz, List.length_map, List.getElem?_map] <;> rfl) | exact rfl) | exact look_of rfl))) | with_reducible apply R.seq | ((with_reducible apply R.regionL); exact rfl) | with_reducible apply R.block | (((with_reducible apply F.store); (iterate 4 exact rfl)); (focus (simp (disch := first | assumption | omega | (simp only [lnX]; omega)) only [LS, storeV, loadV, partV, partP, cut, over, mkAgg, allP, asP, V.cells, PC, elDiv, elMod, elDiv0, Nat.mul_mod_left, Int.toNat_zero, Int.reduceToNat, *, hf2, hfl, hw, hz, List.length_map, List.getElem?_map] <;> rfl))) | (((with_reducible apply F.build); exact rfl; exact rfl; (focus (repeat' (first | exact Prs.nil | (apply Prs.cons; exact rfl))))); (focus (simp (disch := first | assumption | omega | (simp only [lnX]; omega)) only [LS, buildV, fillV, over, buildSliceV, elemsOf, appendV, elems, arrAt, cut, roomy, mkAgg, allP, asP, V.cells, PC, Int.toNat_zero, Int.reduceToNat, *, hf2, hfl, hw, hz, List.length_map, List.getElem?_map] <;> rfl))) | (((with_reducible apply F.indexAddr); (iterate 4 exact rfl)); (focus (simp (disch := first | assumption | omega | (simp only [lnX]; omega)) only [LS, lenV_L, idx_L, below_at, Int.toNat_zero, Int.reduceToNat, *, hf2, hfl, hw, hz, List.length_map, List.getElem?_map] <;> rfl))) | (intro hc; (try rw [hc]); (try simp only [decide_eq_true_eq, decide_eq_false_iff_not, Bool.not_eq_eq_eq_not, Bool.not_true, Bool.not_false] at hc); (try (exfalso; omega))) | (((with_reducible apply E.rPc); exact rfl; exact rfl; (focus (exact look_of rfl)); exact rfl); (focus (simp (disch := first | assumption | omega | (simp only [lnX]; omega)) only [LS, storeV, loadV, partV, partP, cut, over, mkAgg, allP, asP, V.cells, PC, elDiv, elMod, elDiv0, Nat.mul_mod_left, Int.toNat_zero, Int.reduceToNat, *, hf2, hfl, hw, hz, List.length_map, List.getElem?_map] <;> rfl)))
    all_goals first
      | (cases hq9 (by assumption); rfl)
      | exact ⟨i - (k + 1), by omega, k + 1, rfl, rfl, by omega, rfl, by rw [hnx]; simp only [decide_eq_false_iff_not]; assumption⟩
      | trace_state
  -- the guards
  subst hi
  rw [List.drop_length, fromG] at hq
  rw [← hq] at hF
  simp only [ne_eq, not_true_eq_false, if_false] at hF
  clear hq hf2
  by_cases hg4 : 4 < rg.length
  · rw [guardsF, if_pos hg4] at hF
    simp only [ne_eq, show ¬ ((4 : Int) = 0) by decide, not_false_eq_true, if_true] at hF
    cases hF
    clear hg2 hss2
    repeat' first | (with_reducible first | apply M.free | apply M.done | apply E.seqN | apply E.seqX | apply E.seqR | apply R.ret | apply R.exit) | ((with_reducible apply F.move); exact rfl; exact rfl) | ((with_reducible first | apply F.load | apply F.fieldAddr); (iterate 3 exact rfl)) | ((with_reducible apply F.cmp); (iterate 4 exact rfl)) | ((with_reducible apply R.regs); exact rfl) | ((first | (with_reducible apply R.cond) | ((with_reducible apply M.guard); exact rfl)); (focus (first | (refine Eq.trans (look_of rfl) ?_; first | (simp only [dtX, *, hfl, hgl] <;> rfl) | exact rfl) | exact look_of rfl))) | with_reducible apply R.seq | ((with_reducible apply E.blkX); exact rfl) | (((with_reducible apply F.store); (iterate 4 exact rfl)); (focus (simp (disch := first | assumption | omega | (simp only [lnX]; omega)) only [LS, storeV, loadV, partV, partP, cut, over, mkAgg, allP, asP, V.cells, PC, elDiv, elMod, elDiv0, Nat.mul_mod_left, Int.toNat_zero, Int.reduceToNat, *, hfl, hgl] <;> rfl))) | (((with_reducible apply F.build); exact rfl; exact rfl; (focus (repeat' (first | exact Prs.nil | (apply Prs.cons; exact rfl))))); (focus (simp (disch := first | assumption | omega | (simp only [lnX]; omega)) only [LS, buildV, fillV, over, buildSliceV, elemsOf, appendV, elems, arrAt, cut, roomy, mkAgg, allP, asP, V.cells, PC, Int.toNat_zero, Int.reduceToNat, *, hfl, hgl] <;> rfl))) | (((with_reducible apply F.len); (iterate 3 exact rfl)); (focus (simp (disch := first | assumption | omega | (simp only [lnX]; omega)) only [LS, lenV_L, idx_L, below_at, Int.toNat_zero, Int.reduceToNat, *, hfl, hgl] <;> rfl))) | (intro hc; (try rw [hc]); (try simp only [decide_eq_true_eq, decide_eq_false_iff_not, Bool.not_eq_eq_eq_not, Bool.not_true, Bool.not_false] at hc); (try (exfalso; omega))) | (((with_reducible apply E.rPc); exact rfl; exact rfl; (focus (exact look_of rfl)); exact rfl); (focus (simp (disch := first | assumption | omega | (simp only [lnX]; omega)) only [LS, storeV, loadV, partV, partP, cut, over, mkAgg, allP, asP, V.cells, PC, elDiv, elMod, elDiv0, Nat.mul_mod_left, Int.toNat_zero, Int.reduceToNat, *, hfl, hgl] <;> rfl))) | exact rfl
  rw [guardsF, if_neg hg4] at hF
  repeat' first | (with_reducible first | apply M.free | apply M.done | apply E.seqN | apply E.seqX | apply R.skip | apply R.exit) | ((with_reducible first | apply F.move | apply F.assign); exact rfl; exact rfl) | ((with_reducible first | apply F.load | apply F.fieldAddr); (iterate 3 exact rfl)) | ((with_reducible apply F.cmp); (iterate 4 exact rfl)) | ((with_reducible apply R.regs); exact rfl) | ((with_reducible apply R.regsL); exact rfl) | ((with_reducible apply Lv.of); (focus (repeat' (first | exact Kp.nil | (apply Kp.cons; exact rfl))))) | ((first | (with_reducible apply R.cond) | ((with_reducible apply M.guard); exact rfl)); (focus (first | (refine Eq.trans (look_of rfl) ?_; first | (simp only [dtX, *, hfl, hgl] <;> rfl) | exact rfl) | exact look_of rfl))) | with_reducible apply R.seq | ((with_reducible apply E.blkX); exact rfl) | with_reducible apply R.block | (((with_reducible apply F.len); (iterate 3 exact rfl)); (focus (simp (disch := first | assumption | omega | (simp only [lnX]; omega)) only [LS, lenV_L, idx_L, below_at, Int.toNat_zero, Int.reduceToNat, *, hfl, hgl] <;> rfl))) | (intro hc; (try rw [hc]); (try simp only [decide_eq_true_eq, decide_eq_false_iff_not, Bool.not_eq_eq_eq_not, Bool.not_true, Bool.not_false] at hc); (try (exfalso; omega)))
  refine R.loop (fun m e H => ∃ i : Nat, e = [(1,.p (.int .i64 n)),(2,.p (.ep [s, v, a, q])),(4,.ptr 0 0 0),(5,.ptr 1 0 0),(8,.p (.int .i64 i))] ∧ H = [.box 0 [.p (.int .i64 0), .p (.int .i64 0), .p (.int .i64 0), .p (.int .i64 0)], .box 0 [.p (.str rn), .p (.int .i64 ra), .p f, .p g, .p ss]] ∧ i ≤ rg.length ∧ m = rg.length - i ∧ guardsG (elemsP v).length ra i (rg.drop i) = guardsG (elemsP v).length ra 0 rg) rg.length ⟨0, rfl, rfl, by omega, by omega, rfl⟩ ?_
  rintro m e H ⟨i, rfl, rfl, h1, rfl, hq⟩
  by_cases hi : i = rg.length
  rotate_left 1
  · obtain ⟨w, hw⟩ := at_some (show i < rg.length by omega)
    have hil : i < rg.length := by omega
    obtain ⟨y, hyg, t', rfl, ht1, ht2⟩ := hg2.at hw
    rw [drop_at hw, guardsG_cons] at hq
    have hck := (rguard_run w t' s v a q v1 ht1 ht2 ra).fv
    generalize guardE (elemsP v).length ra w = ce at *
    clear hg2 ht2
    by_cases he : ce = 0
    · rw [if_neg (by simpa using he)] at hq
      subst he
      clear hF
      repeat' first | (with_reducible first | apply M.free | apply M.done | apply E.seqN | apply E.blkN | apply R.skip) | ((with_reducible first | apply F.move | apply F.assign); exact rfl; exact rfl) | ((with_reducible first | apply F.load | apply F.fieldAddr); (iterate 3 exact rfl)) | ((with_reducible apply F.cmp); (iterate 4 exact rfl)) | (((with_reducible apply F.add); (iterate 3 exact rfl)); (focus (first | omega | (simp only [lnX]; omega)))) | ((with_reducible apply R.regs); exact rfl) | ((with_reducible apply Lv.of); (focus (repeat' (first | exact Kp.nil | (apply Kp.cons; exact rfl))))) | ((with_reducible apply F.call0); exact rfl; exact rfl; (focus (repeat' (first | exact Evs.nil | (apply Evs.cons; exact rfl)))); exact rfl; (focus (first | exact hck))) | ((first | (with_reducible apply R.cond) | ((with_reducible apply M.guard); exact rfl)); (focus (first | (refine Eq.trans (look_of rfl) ?_; first | (simp only [dtX, *, hgl, hyg] <;> rfl) | exact rfl) | exact look_of rfl))) | refine imp_yes rfl ?_ | exact imp_no rfl | with_reducible apply R.seq | ((with_reducible apply R.regionL); exact rfl) | with_reducible apply R.block | (((with_reducible apply F.loadS); (iterate 3 exact rfl)); (focus (simp (disch := first | assumption | omega | (simp only [lnX]; omega)) only [LS, storeV, loadV, partV, partP, cut, over, mkAgg, allP, asP, V.cells, PC, elDiv, elMod, elDiv0, Nat.mul_mod_left, Int.toNat_zero, Int.reduceToNat, *, hgl, hyg] <;> rfl))) | ((first | ((with_reducible apply F.indexAddr); (iterate 4 exact rfl)) | ((with_reducible apply F.len); (iterate 3 exact rfl))); (focus (simp (disch := first | assumption | omega | (simp only [lnX]; omega)) only [LS, lenV_L, idx_L, below_at, Int.toNat_zero, Int.reduceToNat, *, hgl, hyg] <;> rfl))) | (intro hc; (try rw [hc]); (try simp only [decide_eq_true_eq, decide_eq_false_iff_not, Bool.not_eq_eq_eq_not, Bool.not_true, Bool.not_false] at hc); (try (exfalso; omega)))
      all_goals exact ⟨rg.length - (i + 1), by omega, i + 1, rfl, rfl, by omega, rfl, hq⟩
    · rw [if_pos he] at hq
      rw [← hq] at hF
      simp only [ne_eq, he, not_false_eq_true, if_true] at hF
      cases hF
      clear hq
      repeat' first | (with_reducible first | apply M.free | apply M.done | apply E.seqN | apply E.seqR | apply E.blkR | apply R.skip | apply R.ret) | ((with_reducible first | apply F.move | apply F.assign); exact rfl; exact rfl) | ((with_reducible first | apply F.load | apply F.fieldAddr); (iterate 3 exact rfl)) | ((with_reducible apply F.cmp); (iterate 4 exact rfl)) | ((with_reducible apply R.regs); exact rfl) | ((with_reducible apply F.call0); exact rfl; exact rfl; (focus (repeat' (first | exact Evs.nil | (apply Evs.cons; exact rfl)))); exact rfl; (focus (first | exact hck))) | ((first | (with_reducible apply R.cond) | ((with_reducible apply M.guard); exact rfl)); (focus (first | (refine Eq.trans (look_of rfl) ?_; first | (simp only [dtX, *, hgl, hyg] <;> rfl) | exact rfl) | exact look_of rfl))) | refine imp_yes rfl ?_ | exact imp_no rfl | with_reducible apply R.seq | with_reducible apply R.block | ((first | ((with_reducible apply F.store); (iterate 4 exact rfl)) | ((with_reducible apply F.loadS); (iterate 3 exact rfl))); (focus (simp (disch := first | assumption | omega | (simp only [lnX]; omega)) only [LS, storeV, loadV, partV, partP, cut, over, mkAgg, allP, asP, V.cells, PC, elDiv, elMod, elDiv0, Nat.mul_mod_left, Int.toNat_zero, Int.reduceToNat, *, hgl, hyg] <;> rfl))) | (((with_reducible apply F.build); exact rfl; exact rfl; (focus (repeat' (first | exact Prs.nil | (apply Prs.cons; exact rfl))))); (focus (simp (disch := first | assumption | omega | (simp only [lnX]; omega)) only [LS, buildV, fillV, over, buildSliceV, elemsOf, appendV, elems, arrAt, cut, roomy, mkAgg, allP, asP, V.cells, PC, Int.toNat_zero, Int.reduceToNat, *, hgl, hyg] <;> rfl))) | ((first | ((with_reducible apply F.indexAddr); (iterate 4 exact rfl)) | ((with_reducible apply F.len); (iterate 3 exact rfl))); (focus (simp (disch := first | assumption | omega | (simp only [lnX]; omega)) only [LS, lenV_L, idx_L, below_at, Int.toNat_zero, Int.reduceToNat, *, hgl, hyg] <;> rfl))) | (intro hc; (try rw [hc]); (try simp only [decide_eq_true_eq, decide_eq_false_iff_not, Bool.not_eq_eq_eq_not, Bool.not_true, Bool.not_false] at hc); (try (exfalso; omega))) | (((with_reducible apply E.rPc); exact rfl; exact rfl; (focus (exact look_of rfl)); exact rfl); (focus (simp (disch := first | assumption | omega | (simp only [lnX]; omega)) only [LS, storeV, loadV, partV, partP, cut, over, mkAgg, allP, asP, V.cells, PC, elDiv, elMod, elDiv0, Nat.mul_mod_left, Int.toNat_zero, Int.reduceToNat, *, hgl, hyg] <;> rfl))) | exact rfl
  subst hi
  rw [List.drop_length, guardsG] at hq
  rw [← hq] at hF
  simp only [ne_eq, not_true_eq_false, if_false] at hF
  clear hq hg2
  -- the steps
  by_cases hs0 : rs.length = 0
  · rw [stepsF, if_pos hs0] at hF
    simp only [ne_eq, show ¬ ((2 : Int) = 0) by decide, not_false_eq_true, if_true] at hF
    cases hF
    clear hss2
    repeat' first | (with_reducible first | apply M.free | apply M.done | apply E.seqN | apply E.seqX | apply E.seqR | apply R.ret | apply R.exit) | ((with_reducible apply F.move); exact rfl; exact rfl) | ((with_reducible first | apply F.load | apply F.fieldAddr); (iterate 3 exact rfl)) | ((with_reducible apply F.cmp); (iterate 4 exact rfl)) | ((with_reducible apply R.regs); exact rfl) | ((first | (with_reducible apply R.cond) | ((with_reducible apply M.guard); exact rfl)); (focus (first | (refine Eq.trans (look_of rfl) ?_; first | (simp only [dtX, *, hgl, hsl] <;> rfl) | exact rfl) | exact look_of rfl))) | refine imp_yes rfl ?_ | exact imp_no rfl | with_reducible apply R.seq | ((with_reducible apply E.blkX); exact rfl) | (((with_reducible apply F.store); (iterate 4 exact rfl)); (focus (simp (disch := first | assumption | omega | (simp only [lnX]; omega)) only [LS, storeV, loadV, partV, partP, cut, over, mkAgg, allP, asP, V.cells, PC, elDiv, elMod, elDiv0, Nat.mul_mod_left, Int.toNat_zero, Int.reduceToNat, *, hgl, hsl] <;> rfl))) | (((with_reducible apply F.build); exact rfl; exact rfl; (focus (repeat' (first | exact Prs.nil | (apply Prs.cons; exact rfl))))); (focus (simp (disch := first | assumption | omega | (simp only [lnX]; omega)) only [LS, buildV, fillV, over, buildSliceV, elemsOf, appendV, elems, arrAt, cut, roomy, mkAgg, allP, asP, V.cells, PC, Int.toNat_zero, Int.reduceToNat, *, hgl, hsl] <;> rfl))) | (((with_reducible apply F.len); (iterate 3 exact rfl)); (focus (simp (disch := first | assumption | omega | (simp only [lnX]; omega)) only [LS, lenV_L, idx_L, below_at, Int.toNat_zero, Int.reduceToNat, *, hgl, hsl] <;> rfl))) | (intro hc; (try rw [hc]); (try simp only [decide_eq_true_eq, decide_eq_false_iff_not, Bool.not_eq_eq_eq_not, Bool.not_true, Bool.not_false] at hc); (try (exfalso; omega))) | (((with_reducible apply E.rPc); exact rfl; exact rfl; (focus (exact look_of rfl)); exact rfl); (focus (simp (disch := first | assumption | omega | (simp only [lnX]; omega)) only [LS, storeV, loadV, partV, partP, cut, over, mkAgg, allP, asP, V.cells, PC, elDiv, elMod, elDiv0, Nat.mul_mod_left, Int.toNat_zero, Int.reduceToNat, *, hgl, hsl] <;> rfl))) | exact rfl
  by_cases hs3 : 3 < rs.length
  · rw [stepsF, if_neg hs0, if_pos hs3] at hF
    simp only [ne_eq, show ¬ ((4 : Int) = 0) by decide, not_false_eq_true, if_true] at hF
    cases hF
    clear hss2
    repeat' first | (with_reducible first | apply M.free | apply M.done | apply E.seqN | apply E.seqX | apply E.seqR | apply R.skip | apply R.ret | apply R.exit) | ((with_reducible apply F.move); exact rfl; exact rfl) | ((with_reducible first | apply F.load | apply F.fieldAddr); (iterate 3 exact rfl)) | ((with_reducible apply F.cmp); (iterate 4 exact rfl)) | ((with_reducible apply R.regs); exact rfl) | ((first | (with_reducible apply R.cond) | ((with_reducible apply M.guard); exact rfl)); (focus (first | (refine Eq.trans (look_of rfl) ?_; first | (simp only [dtX, *, hgl, hsl] <;> rfl) | exact rfl) | exact look_of rfl))) | with_reducible apply R.seq | ((with_reducible apply E.blkX); exact rfl) | (((with_reducible apply F.store); (iterate 4 exact rfl)); (focus (simp (disch := first | assumption | omega | (simp only [lnX]; omega)) only [LS, storeV, loadV, partV, partP, cut, over, mkAgg, allP, asP, V.cells, PC, elDiv, elMod, elDiv0, Nat.mul_mod_left, Int.toNat_zero, Int.reduceToNat, *, hgl, hsl] <;> rfl))) | (((with_reducible apply F.build); exact rfl; exact rfl; (focus (repeat' (first | exact Prs.nil | (apply Prs.cons; exact rfl))))); (focus (simp (disch := first | assumption | omega | (simp only [lnX]; omega)) only [LS, buildV, fillV, over, buildSliceV, elemsOf, appendV, elems, arrAt, cut, roomy, mkAgg, allP, asP, V.cells, PC, Int.toNat_zero, Int.reduceToNat, *, hgl, hsl] <;> rfl))) | (((with_reducible apply F.len); (iterate 3 exact rfl)); (focus (simp (disch := first | assumption | omega | (simp only [lnX]; omega)) only [LS, lenV_L, idx_L, below_at, Int.toNat_zero, Int.reduceToNat, *, hgl, hsl] <;> rfl))) | (intro hc; (try rw [hc]); (try simp only [decide_eq_true_eq, decide_eq_false_iff_not, Bool.not_eq_eq_eq_not, Bool.not_true, Bool.not_false] at hc); (try (exfalso; omega))) | (((with_reducible apply E.rPc); exact rfl; exact rfl; (focus (exact look_of rfl)); exact rfl); (focus (simp (disch := first | assumption | omega | (simp only [lnX]; omega)) only [LS, storeV, loadV, partV, partP, cut, over, mkAgg, allP, asP, V.cells, PC, elDiv, elMod, elDiv0, Nat.mul_mod_left, Int.toNat_zero, Int.reduceToNat, *, hgl, hsl] <;> rfl))) | exact rfl
  rw [stepsF, if_neg hs0, if_neg hs3] at hF
  repeat' first | (with_reducible first | apply M.free | apply M.done | apply E.seqN | apply E.seqX | apply R.skip | apply R.exit) | ((with_reducible first | apply F.move | apply F.assign); exact rfl; exact rfl) | ((with_reducible first | apply F.load | apply F.fieldAddr); (iterate 3 exact rfl)) | ((with_reducible apply F.cmp); (iterate 4 exact rfl)) | ((with_reducible apply R.regs); exact rfl) | ((with_reducible apply R.regsL); exact rfl) | ((with_reducible apply Lv.of); (focus (repeat' (first | exact Kp.nil | (apply Kp.cons; exact rfl))))) | ((first | (with_reducible apply R.cond) | ((with_reducible apply M.guard); exact rfl)); (focus (first | (refine Eq.trans (look_of rfl) ?_; first | (simp only [dtX, *, hgl, hsl] <;> rfl) | exact rfl) | exact look_of rfl))) | with_reducible apply R.seq | ((with_reducible apply E.blkX); exact rfl) | with_reducible apply R.block | (((with_reducible apply F.len); (iterate 3 exact rfl)); (focus (simp (disch := first | assumption | omega | (simp only [lnX]; omega)) only [LS, lenV_L, idx_L, below_at, Int.toNat_zero, Int.reduceToNat, *, hgl, hsl] <;> rfl))) | (intro hc; (try rw [hc]); (try simp only [decide_eq_true_eq, decide_eq_false_iff_not, Bool.not_eq_eq_eq_not, Bool.not_true, Bool.not_false] at hc); (try (exfalso; omega)))
  refine R.loop (fun m e H => ∃ i : Nat, e = [(1,.p (.int .i64 n)),(2,.p (.ep [s, v, a, q])),(4,.ptr 0 0 0),(5,.ptr 1 0 0),(10,.p (.int .i64 i))] ∧ H = [.box 0 [.p (.int .i64 0), .p (.int .i64 0), .p (.int .i64 0), .p (.int .i64 0)], .box 0 [.p (.str rn), .p (.int .i64 ra), .p f, .p g, .p ss]] ∧ i ≤ rs.length ∧ m = rs.length - i ∧ stepsG (elemsP s).length (elemsP v).length ra i (rs.drop i) = stepsG (elemsP s).length (elemsP v).length ra 0 rs) rs.length ⟨0, rfl, rfl, by omega, by omega, rfl⟩ ?_
  rintro m e H ⟨i, rfl, rfl, h1, rfl, hq⟩
  by_cases hi : i = rs.length
  rotate_left 1
  · obtain ⟨w, hw⟩ := at_some (show i < rs.length by omega)
    have hil : i < rs.length := by omega
    obtain ⟨y, hyg, t', rfl, ht1, ht2⟩ := hss2.at hw
    rw [drop_at hw, stepsG_cons] at hq
    have hck := (rstep_run t' ht1 w ht2 (hsB w (List.mem_of_getElem? hw)) s v a q s1 v1 ra).fv
    generalize stepE (elemsP s).length (elemsP v).length ra w = ce at *
    clear hss2 ht2 hsB
    by_cases he : ce = 0
    · rw [if_neg (by simpa using he)] at hq
      subst he
      clear hF
      repeat' first | (with_reducible first | apply M.free | apply M.done | apply E.seqN | apply E.blkN | apply R.skip) | ((with_reducible first | apply F.move | apply F.assign); exact rfl; exact rfl) | ((with_reducible first | apply F.load | apply F.fieldAddr); (iterate 3 exact rfl)) | ((with_reducible apply F.cmp); (iterate 4 exact rfl)) | (((with_reducible apply F.add); (iterate 3 exact rfl)); (focus (first | omega | (simp only [lnX]; omega)))) | ((with_reducible apply R.regs); exact rfl) | ((with_reducible apply Lv.of); (focus (repeat' (first | exact Kp.nil | (apply Kp.cons; exact rfl))))) | ((with_reducible apply F.call0); exact rfl; exact rfl; (focus (repeat' (first | exact Evs.nil | (apply Evs.cons; exact rfl)))); exact rfl; (focus (first | exact hck))) | ((first | (with_reducible apply R.cond) | ((with_reducible apply M.guard); exact rfl)); (focus (first | (refine Eq.trans (look_of rfl) ?_; first | (simp only [dtX, *, hsl, hyg] <;> rfl) | exact rfl) | exact look_of rfl))) | refine imp_yes rfl ?_ | exact imp_no rfl | with_reducible apply R.seq | ((with_reducible apply R.regionL); exact rfl) | with_reducible apply R.block | (((with_reducible apply F.loadS); (iterate 3 exact rfl)); (focus (simp (disch := first | assumption | omega | (simp only [lnX]; omega)) only [LS, storeV, loadV, partV, partP, cut, over, mkAgg, allP, asP, V.cells, PC, elDiv, elMod, elDiv0, Nat.mul_mod_left, Int.toNat_zero, Int.reduceToNat, *, hsl, hyg] <;> rfl))) | ((first | ((with_reducible apply F.indexAddr); (iterate 4 exact rfl)) | ((with_reducible apply F.len); (iterate 3 exact rfl))); (focus (simp (disch := first | assumption | omega | (simp only [lnX]; omega)) only [LS, lenV_L, idx_L, below_at, Int.toNat_zero, Int.reduceToNat, *, hsl, hyg] <;> rfl))) | (intro hc; (try rw [hc]); (try simp only [decide_eq_true_eq, decide_eq_false_iff_not, Bool.not_eq_eq_eq_not, Bool.not_true, Bool.not_false] at hc); (try (exfalso; omega)))
      all_goals exact ⟨rs.length - (i + 1), by omega, i + 1, rfl, rfl, by omega, rfl, hq⟩
    · rw [if_pos he] at hq
      rw [← hq] at hF
      simp only [ne_eq, he, not_false_eq_true, if_true] at hF
      cases hF
      clear hq
      repeat' first | (with_reducible first | apply M.free | apply M.done | apply E.seqN | apply E.seqR | apply E.blkR | apply R.skip | apply R.ret) | ((with_reducible first | apply F.move | apply F.assign); exact rfl; exact rfl) | ((with_reducible first | apply F.load | apply F.fieldAddr); (iterate 3 exact rfl)) | ((with_reducible apply F.cmp); (iterate 4 exact rfl)) | ((with_reducible apply R.regs); exact rfl) | ((with_reducible apply F.call0); exact rfl; exact rfl; (focus (repeat' (first | exact Evs.nil | (apply Evs.cons; exact rfl)))); exact rfl; (focus (first | exact hck))) | ((first | (with_reducible apply R.cond) | ((with_reducible apply M.guard); exact rfl)); (focus (first | (refine Eq.trans (look_of rfl) ?_; first | (simp only [dtX, *, hsl, hyg] <;> rfl) | exact rfl) | exact look_of rfl))) | refine imp_yes rfl ?_ | exact imp_no rfl | with_reducible apply R.seq | with_reducible apply R.block | ((first | ((with_reducible apply F.store); (iterate 4 exact rfl)) | ((with_reducible apply F.loadS); (iterate 3 exact rfl))); (focus (simp (disch := first | assumption | omega | (simp only [lnX]; omega)) only [LS, storeV, loadV, partV, partP, cut, over, mkAgg, allP, asP, V.cells, PC, elDiv, elMod, elDiv0, Nat.mul_mod_left, Int.toNat_zero, Int.reduceToNat, *, hsl, hyg] <;> rfl))) | (((with_reducible apply F.build); exact rfl; exact rfl; (focus (repeat' (first | exact Prs.nil | (apply Prs.cons; exact rfl))))); (focus (simp (disch := first | assumption | omega | (simp only [lnX]; omega)) only [LS, buildV, fillV, over, buildSliceV, elemsOf, appendV, elems, arrAt, cut, roomy, mkAgg, allP, asP, V.cells, PC, Int.toNat_zero, Int.reduceToNat, *, hsl, hyg] <;> rfl))) | ((first | ((with_reducible apply F.indexAddr); (iterate 4 exact rfl)) | ((with_reducible apply F.len); (iterate 3 exact rfl))); (focus (simp (disch := first | assumption | omega | (simp only [lnX]; omega)) only [LS, lenV_L, idx_L, below_at, Int.toNat_zero, Int.reduceToNat, *, hsl, hyg] <;> rfl))) | (intro hc; (try rw [hc]); (try simp only [decide_eq_true_eq, decide_eq_false_iff_not, Bool.not_eq_eq_eq_not, Bool.not_true, Bool.not_false] at hc); (try (exfalso; omega))) | (((with_reducible apply E.rPc); exact rfl; exact rfl; (focus (exact look_of rfl)); exact rfl); (focus (simp (disch := first | assumption | omega | (simp only [lnX]; omega)) only [LS, storeV, loadV, partV, partP, cut, over, mkAgg, allP, asP, V.cells, PC, elDiv, elMod, elDiv0, Nat.mul_mod_left, Int.toNat_zero, Int.reduceToNat, *, hsl, hyg] <;> rfl))) | exact rfl
  subst hi
  rw [List.drop_length, stepsG] at hq
  rw [← hq] at hF
  simp only [ne_eq, not_true_eq_false, if_false] at hF
  cases hF
  clear hq hss2
  repeat' first | (with_reducible first | apply M.free | apply M.done | apply E.seqN | apply E.seqX | apply R.ret | apply R.exit) | ((with_reducible apply F.move); exact rfl; exact rfl) | ((with_reducible first | apply F.load | apply F.fieldAddr); (iterate 3 exact rfl)) | ((with_reducible apply F.cmp); (iterate 4 exact rfl)) | ((with_reducible apply R.regs); exact rfl) | ((first | (with_reducible apply R.cond) | ((with_reducible apply M.guard); exact rfl)); (focus (first | (refine Eq.trans (look_of rfl) ?_; first | (simp only [dtX, *, hsl] <;> rfl) | exact rfl) | exact look_of rfl))) | with_reducible apply R.seq | ((with_reducible apply E.blkX); exact rfl) | (((with_reducible apply F.store); (iterate 4 exact rfl)); (focus (simp (disch := first | assumption | omega | (simp only [lnX]; omega)) only [LS, storeV, loadV, partV, partP, cut, over, mkAgg, allP, asP, V.cells, PC, elDiv, elMod, elDiv0, Nat.mul_mod_left, Int.toNat_zero, Int.reduceToNat, *, hsl] <;> rfl))) | (((with_reducible apply F.build); exact rfl; exact rfl; (focus (repeat' (first | exact Prs.nil | (apply Prs.cons; exact rfl))))); (focus (simp (disch := first | assumption | omega | (simp only [lnX]; omega)) only [LS, buildV, fillV, over, buildSliceV, elemsOf, appendV, elems, arrAt, cut, roomy, mkAgg, allP, asP, V.cells, PC, Int.toNat_zero, Int.reduceToNat, *, hsl] <;> rfl))) | (((with_reducible apply F.len); (iterate 3 exact rfl)); (focus (simp (disch := first | assumption | omega | (simp only [lnX]; omega)) only [LS, lenV_L, idx_L, below_at, Int.toNat_zero, Int.reduceToNat, *, hsl] <;> rfl))) | (intro hc; (try rw [hc]); (try simp only [decide_eq_true_eq, decide_eq_false_iff_not, Bool.not_eq_eq_eq_not, Bool.not_true, Bool.not_false] at hc); (try (exfalso; omega))) | (((with_reducible apply E.rPc); exact rfl; exact rfl; (focus (exact look_of rfl)); exact rfl); (focus (simp (disch := first | assumption | omega | (simp only [lnX]; omega)) only [LS, storeV, loadV, partV, partP, cut, over, mkAgg, allP, asP, V.cells, PC, elDiv, elMod, elDiv0, Nat.mul_mod_left, Int.toNat_zero, Int.reduceToNat, *, hsl] <;> rfl))) | exact rfl
  all_goals trace_state
theorem namesG_zero : ∀ (l seen : List (List UInt8)), (namesG seen l).2 = 0 → namesG seen l = (0, 0)
  | [], seen, _ => rfl
  | s :: l, seen, h => by
    rw [namesG] at h ⊢
    split
    · rename_i h1; rw [if_pos h1] at h; cases h
    · rename_i h1
      rw [if_neg h1] at h
      split
      · rename_i h2; rw [if_pos h2] at h; cases h
      · rename_i h2
        rw [if_neg h2] at h
        exact namesG_zero l _ h
theorem namesF_zero {l : List (List UInt8)} {m : Nat} (h : (namesF l m).2 = 0) : namesF l m = (0, 0) := by
  unfold namesF at h ⊢
  split
  · rename_i h1; rw [if_pos h1] at h; cases h
  · rename_i h1; rw [if_neg h1] at h; exact namesG_zero _ _ h
theorem ruleF_eq (t : Tb) (n : Nat) (r : Rl) : ruleF t n r = if nameF r.name = false then (6, (n : Int), 5, 0)
  else if (t.rules.take n).any (fun w => decide (w.name = r.name)) = true then (9, n, 5, 0)
  else if r.args < 0 ∨ 4 < r.args then (3, n, 6, 0) else ruleL t.states.length t.vars.length n r := rfl
theorem ruleL_e (a b : Int) (n : Nat) (r : Rl) : ruleL a b n r = (0, 0, 0, 0) ∨ (ruleL a b n r).1 ≠ 0 := by
  unfold ruleL
  (repeat' split) <;> first | exact .inl rfl | exact .inr (by assumption)
set_option maxHeartbeats 2000000 in
theorem rtcheck_run (t : Tb) (hB : TbB t) (s v a q : Pv) (T : TbP s v a q t) : PV cx 17 [.p (.agg [s, v, a, q])] (fltP (checkT t)) := by
  refine PV.run cxF17 rfl ?_
  simp only [args0, Nat.zero_add, Nat.reduceAdd]
  have hrule := fun n r h => (rrule_run t hB s v a q T n r h).fv
  obtain ⟨s1, s2, v1, v2, a1, a2, q1, q2⟩ := T
  have hlq := q2.1
  have hls : (elemsP s).length = t.states.length := by rw [s2, List.length_map]
  have hlv : (elemsP v).length = t.vars.length := by rw [v2, List.length_map]
  have hla : (elemsP a).length = t.start.length := by rw [a2, List.length_map]
  have hns := (rnames_run s s1 t.states s2 (fun w hw => Nat.le_trans (hB.names w (by simp [hw])) (by decide)) 8 (by decide)).fv
  have hnv := (rnames_run v v1 t.vars v2 (fun w hw => Nat.le_trans (hB.names w (by simp [hw])) (by decide)) 6 (by decide)).fv
  have hnr : ∀ (i : Nat) r, t.rules[i]? = some r → FV cx 32 [.p (.str r.name)] (.bool (nameF r.name)) := fun i r h =>
    (rname_run r.name (Nat.le_trans (hB.names _ (by simp only [List.mem_append, List.mem_map]; exact .inr ⟨r, List.mem_of_getElem? h, rfl⟩)) (by decide))).fv
  have hst := hB.start
  have hrb := hB.rules
  generalize hF : checkT t = F
  unfold checkT at hF
  have hz1 := @namesF_zero t.states 8
  have hz2 := @namesF_zero t.vars 6
  have hF0 : tableF t ≠ (0, 0, 0, 0) → tableF t = F := fun h => by rw [if_neg h] at hF; exact hF
  have hF1 : tableF t = (0, 0, 0, 0) → rulesG t 0 t.rules = F := fun h => by rw [if_pos h] at hF; exact hF
  clear hF
  have htab : tableF t = if (namesF t.states 8).2 = 0 ∧ t.states.length = 0 then ((2, -1, 1, 0) : Flt)
    else if (namesF t.states 8).2 ≠ 0 then ((namesF t.states 8).2, -1, 1, (namesF t.states 8).1)
    else if (namesF t.vars 6).2 ≠ 0 then ((namesF t.vars 6).2, -1, 2, (namesF t.vars 6).1)
    else if t.start.length ≠ t.vars.length then (2, -1, 3, 0)
    else match startG 0 t.start with
      | some k => (3, -1, 3, k)
      | none => if 12 < t.rules.length then (4, -1, 4, 0) else (0, 0, 0, 0) := rfl
  generalize tableF t = TF at *
  generalize namesF t.states 8 = c1 at *
  generalize namesF t.vars 6 = c2 at *
  obtain ⟨c11, c12⟩ := c1
  obtain ⟨c21, c22⟩ := c2
  obtain ⟨F1, F2, F3, F4⟩ := F
  simp only [badP] at hns hnv
  simp only at htab hz1 hz2
  simp only [fltP]
  clear s2 v2 hB
  by_cases e1 : c12 = 0 ∧ t.states.length = 0
  · rw [if_pos e1] at htab
    obtain ⟨e1, e2⟩ := e1
    have := hF0 (by rw [htab]; intro h; cases h)
    rw [htab] at this
    cases this
    cases hz1 e1
    clear hF0 hF1 htab hz2 hz1 hrule hnr a2
    repeat' first | (with_reducible first | apply M.free | apply M.done | apply E.seqN | apply E.seqR | apply R.ret) | ((with_reducible apply F.move); exact rfl; exact rfl) | ((with_reducible first | apply F.load | apply F.fieldAddr); (iterate 3 exact rfl)) | ((with_reducible apply F.cmp); (iterate 4 exact rfl)) | ((with_reducible apply F.pickT); (iterate 3 exact rfl)) | ((with_reducible apply R.regs); exact rfl) | ((with_reducible apply F.call0); exact rfl; exact rfl; (focus (repeat' (first | exact Evs.nil | (apply Evs.cons; exact rfl)))); exact rfl; (focus (first | exact hns))) | ((first | (with_reducible apply R.cond) | ((with_reducible apply M.guard); exact rfl)); (focus (first | (refine Eq.trans (look_of rfl) ?_; first | (simp only [dtX, *, hls, e2] <;> rfl) | exact rfl) | exact look_of rfl))) | refine imp_yes rfl ?_ | exact imp_no rfl | with_reducible apply R.seq | ((with_reducible apply R.region); exact rfl) | (((with_reducible apply F.store); (iterate 4 exact rfl)); (focus (simp (disch := first | assumption | omega | (simp only [lnX]; omega)) only [LS, storeV, loadV, partV, partP, cut, over, mkAgg, allP, asP, V.cells, PC, elDiv, elMod, elDiv0, Nat.mul_mod_left, Int.toNat_zero, Int.reduceToNat, *, hls, e2] <;> rfl))) | (((with_reducible apply F.alloc); exact rfl; exact rfl); (focus (simp only [LS] <;> rfl)); (focus (simp only [LS] <;> rfl))) | (((with_reducible apply F.boxE); (iterate 3 exact rfl)); (focus (simp (disch := first | assumption | omega | (simp only [lnX]; omega)) only [LS, storeV, loadV, partV, partP, cut, over, mkAgg, allP, asP, V.cells, PC, elDiv, elMod, elDiv0, Nat.mul_mod_left, Int.toNat_zero, Int.reduceToNat, *, hls, e2] <;> rfl)); exact rfl; (focus (simp only [evOf, allP, asP] <;> rfl))) | (((with_reducible apply F.build); exact rfl; exact rfl; (focus (repeat' (first | exact Prs.nil | (apply Prs.cons; exact rfl))))); (focus (simp (disch := first | assumption | omega | (simp only [lnX]; omega)) only [LS, buildV, fillV, over, buildSliceV, elemsOf, appendV, elems, arrAt, cut, roomy, mkAgg, allP, asP, V.cells, PC, Int.toNat_zero, Int.reduceToNat, *, hls, e2] <;> rfl))) | (((with_reducible apply F.len); (iterate 3 exact rfl)); (focus (simp (disch := first | assumption | omega | (simp only [lnX]; omega)) only [LS, lenV_L, idx_L, below_at, Int.toNat_zero, Int.reduceToNat, *, hls, e2] <;> rfl))) | (((with_reducible apply F.fieldAddrS); (iterate 3 exact rfl)); (focus (simp (disch := first | assumption | omega | (simp only [lnX]; omega)) only [LS, indexAddrV, indexV, below_at, fieldV, fieldAddrV, convP, bytesOf, sliceV, bounds, bMax, bHi, bLo, upTo_at, makeFuncV, partV, partP, cut, binI, binS, binV, binP, arith, strOp_add, strOp_eql, strOp_neq, eqn, wrap64, wrap8, mkAgg, allP, asP, Option.getD_none, Int.toNat_zero, Int.reduceToNat, *, hls, e2] <;> rfl))) | (((with_reducible apply E.rPc); exact rfl; exact rfl; (focus (exact look_of rfl)); exact rfl); (focus (simp (disch := first | assumption | omega | (simp only [lnX]; omega)) only [LS, storeV, loadV, partV, partP, cut, over, mkAgg, allP, asP, V.cells, PC, elDiv, elMod, elDiv0, Nat.mul_mod_left, Int.toNat_zero, Int.reduceToNat, *, hls, e2] <;> rfl))) | refine R.regs rfl ?_ | exact rfl
  rw [if_neg e1] at htab
  by_cases e2 : c12 = 0
  rotate_left 1
  · rw [if_pos e2] at htab
    have := hF0 (by rw [htab]; intro h; exact e2 (congrArg Prod.fst h))
    rw [htab] at this
    cases this
    clear hF0 hF1 htab hz2 hz1 hrule hnr a2 e1
    repeat' first | (with_reducible first | apply M.free | apply M.done | apply E.seqN | apply E.seqR | apply R.skip | apply R.ret) | ((with_reducible apply F.move); exact rfl; exact rfl) | ((with_reducible first | apply F.load | apply F.fieldAddr); (iterate 3 exact rfl)) | ((with_reducible apply F.cmp); (iterate 4 exact rfl)) | ((with_reducible apply R.regs); exact rfl) | ((with_reducible apply F.call0); exact rfl; exact rfl; (focus (repeat' (first | exact Evs.nil | (apply Evs.cons; exact rfl)))); exact rfl; (focus (first | exact hns))) | ((first | (with_reducible apply R.cond) | ((with_reducible apply M.guard); exact rfl)); (focus (first | (refine Eq.trans (look_of rfl) ?_; first | (simp only [dtX, *, hls] <;> rfl) | exact rfl) | exact look_of rfl))) | refine imp_yes rfl ?_ | exact imp_no rfl | with_reducible apply R.seq | (((with_reducible apply F.store); (iterate 4 exact rfl)); (focus (simp (disch := first | assumption | omega | (simp only [lnX]; omega)) only [LS, storeV, loadV, partV, partP, cut, over, mkAgg, allP, asP, V.cells, PC, elDiv, elMod, elDiv0, Nat.mul_mod_left, Int.toNat_zero, Int.reduceToNat, *, hls] <;> rfl))) | (((with_reducible apply F.alloc); exact rfl; exact rfl); (focus (simp only [LS] <;> rfl)); (focus (simp only [LS] <;> rfl))) | (((with_reducible apply F.boxE); (iterate 3 exact rfl)); (focus (simp (disch := first | assumption | omega | (simp only [lnX]; omega)) only [LS, storeV, loadV, partV, partP, cut, over, mkAgg, allP, asP, V.cells, PC, elDiv, elMod, elDiv0, Nat.mul_mod_left, Int.toNat_zero, Int.reduceToNat, *, hls] <;> rfl)); exact rfl; (focus (simp only [evOf, allP, asP] <;> rfl))) | (((with_reducible apply F.build); exact rfl; exact rfl; (focus (repeat' (first | exact Prs.nil | (apply Prs.cons; exact rfl))))); (focus (simp (disch := first | assumption | omega | (simp only [lnX]; omega)) only [LS, buildV, fillV, over, buildSliceV, elemsOf, appendV, elems, arrAt, cut, roomy, mkAgg, allP, asP, V.cells, PC, Int.toNat_zero, Int.reduceToNat, *, hls] <;> rfl))) | (((with_reducible apply F.fieldAddrS); (iterate 3 exact rfl)); (focus (simp (disch := first | assumption | omega | (simp only [lnX]; omega)) only [LS, indexAddrV, indexV, below_at, fieldV, fieldAddrV, convP, bytesOf, sliceV, bounds, bMax, bHi, bLo, upTo_at, makeFuncV, partV, partP, cut, binI, binS, binV, binP, arith, strOp_add, strOp_eql, strOp_neq, eqn, wrap64, wrap8, mkAgg, allP, asP, Option.getD_none, Int.toNat_zero, Int.reduceToNat, *, hls] <;> rfl))) | ((with_reducible apply F.pickF'); exact rfl; exact rfl; (focus (simp only [dtX, List.toList_toArray, *, hls]; done)); exact rfl) | (((with_reducible apply E.rPc); exact rfl; exact rfl; (focus (exact look_of rfl)); exact rfl); (focus (simp (disch := first | assumption | omega | (simp only [lnX]; omega)) only [LS, storeV, loadV, partV, partP, cut, over, mkAgg, allP, asP, V.cells, PC, elDiv, elMod, elDiv0, Nat.mul_mod_left, Int.toNat_zero, Int.reduceToNat, *, hls] <;> rfl))) | refine R.regs rfl ?_ | exact rfl
  rw [if_neg (by simpa using e2)] at htab
  cases hz1 e2
  have e1 : ¬ t.states.length = 0 := fun h => e1 ⟨rfl, h⟩
  clear hz1 e2
  by_cases e3 : c22 = 0
  rotate_left 1
  · rw [if_pos e3] at htab
    have := hF0 (by rw [htab]; intro h; exact e3 (congrArg Prod.fst h))
    rw [htab] at this
    cases this
    clear hF0 hF1 htab hz2 hrule hnr a2
    repeat' first | (with_reducible first | apply M.free | apply M.done | apply E.seqN | apply E.seqR | apply R.skip | apply R.ret) | ((with_reducible apply F.move); exact rfl; exact rfl) | ((with_reducible first | apply F.load | apply F.fieldAddr); (iterate 3 exact rfl)) | ((with_reducible apply F.cmp); (iterate 4 exact rfl)) | ((with_reducible apply F.pickT); (iterate 3 exact rfl)) | ((with_reducible apply R.regs); exact rfl) | ((with_reducible apply F.call0); exact rfl; exact rfl; (focus (repeat' (first | exact Evs.nil | (apply Evs.cons; exact rfl)))); exact rfl; (focus (first | exact hns | exact hnv))) | ((first | (with_reducible apply R.cond) | ((with_reducible apply M.guard); exact rfl)); (focus (first | (refine Eq.trans (look_of rfl) ?_; first | (simp only [dtX, *, hls] <;> rfl) | exact rfl) | exact look_of rfl))) | refine imp_yes rfl ?_ | exact imp_no rfl | with_reducible apply R.seq | (((with_reducible apply F.store); (iterate 4 exact rfl)); (focus (simp (disch := first | assumption | omega | (simp only [lnX]; omega)) only [LS, storeV, loadV, partV, partP, cut, over, mkAgg, allP, asP, V.cells, PC, elDiv, elMod, elDiv0, Nat.mul_mod_left, Int.toNat_zero, Int.reduceToNat, *, hls] <;> rfl))) | (((with_reducible apply F.alloc); exact rfl; exact rfl); (focus (simp only [LS] <;> rfl)); (focus (simp only [LS] <;> rfl))) | (((with_reducible apply F.boxE); (iterate 3 exact rfl)); (focus (simp (disch := first | assumption | omega | (simp only [lnX]; omega)) only [LS, storeV, loadV, partV, partP, cut, over, mkAgg, allP, asP, V.cells, PC, elDiv, elMod, elDiv0, Nat.mul_mod_left, Int.toNat_zero, Int.reduceToNat, *, hls] <;> rfl)); exact rfl; (focus (simp only [evOf, allP, asP] <;> rfl))) | (((with_reducible apply F.build); exact rfl; exact rfl; (focus (repeat' (first | exact Prs.nil | (apply Prs.cons; exact rfl))))); (focus (simp (disch := first | assumption | omega | (simp only [lnX]; omega)) only [LS, buildV, fillV, over, buildSliceV, elemsOf, appendV, elems, arrAt, cut, roomy, mkAgg, allP, asP, V.cells, PC, Int.toNat_zero, Int.reduceToNat, *, hls] <;> rfl))) | (((with_reducible apply F.len); (iterate 3 exact rfl)); (focus (simp (disch := first | assumption | omega | (simp only [lnX]; omega)) only [LS, lenV_L, idx_L, below_at, Int.toNat_zero, Int.reduceToNat, *, hls] <;> rfl))) | (((with_reducible apply F.fieldAddrS); (iterate 3 exact rfl)); (focus (simp (disch := first | assumption | omega | (simp only [lnX]; omega)) only [LS, indexAddrV, indexV, below_at, fieldV, fieldAddrV, convP, bytesOf, sliceV, bounds, bMax, bHi, bLo, upTo_at, makeFuncV, partV, partP, cut, binI, binS, binV, binP, arith, strOp_add, strOp_eql, strOp_neq, eqn, wrap64, wrap8, mkAgg, allP, asP, Option.getD_none, Int.toNat_zero, Int.reduceToNat, *, hls] <;> rfl))) | (intro hc; (try rw [hc]); (try simp only [decide_eq_true_eq, decide_eq_false_iff_not, Bool.not_eq_eq_eq_not, Bool.not_true, Bool.not_false] at hc); (try (exfalso; omega))) | (((with_reducible apply E.rPc); exact rfl; exact rfl; (focus (exact look_of rfl)); exact rfl); (focus (simp (disch := first | assumption | omega | (simp only [lnX]; omega)) only [LS, storeV, loadV, partV, partP, cut, over, mkAgg, allP, asP, V.cells, PC, elDiv, elMod, elDiv0, Nat.mul_mod_left, Int.toNat_zero, Int.reduceToNat, *, hls] <;> rfl))) | refine R.regs rfl ?_ | exact rfl
  rw [if_neg (by simpa using e3)] at htab
  cases hz2 e3
  clear hz2 e3
  by_cases e4 : t.start.length = t.vars.length
  rotate_left 1
  · rw [if_pos e4] at htab
    have := hF0 (by rw [htab]; intro h; cases h)
    rw [htab] at this
    cases this
    clear hF0 hF1 htab hrule hnr a2
    have e4' : ¬ (t.start.length : Int) = t.vars.length := by omega
    repeat' first | (with_reducible first | apply M.free | apply M.done | apply E.seqN | apply E.seqR | apply R.skip | apply R.ret) | ((with_reducible apply F.move); exact rfl; exact rfl) | ((with_reducible first | apply F.load | apply F.fieldAddr); (iterate 3 exact rfl)) | ((with_reducible apply F.cmp); (iterate 4 exact rfl)) | ((with_reducible apply F.pickT); (iterate 3 exact rfl)) | ((with_reducible apply R.regs); exact rfl) | ((with_reducible apply F.call0); exact rfl; exact rfl; (focus (repeat' (first | exact Evs.nil | (apply Evs.cons; exact rfl)))); exact rfl; (focus (first | exact hns | exact hnv))) | ((first | (with_reducible apply R.cond) | ((with_reducible apply M.guard); exact rfl)); (focus (first | (refine Eq.trans (look_of rfl) ?_; first | (simp only [dtX, *, hls, hlv, hla, decide_eq_false e4'] <;> rfl) | exact rfl) | exact look_of rfl))) | refine imp_yes rfl ?_ | exact imp_no rfl | with_reducible apply R.seq | (((with_reducible apply F.store); (iterate 4 exact rfl)); (focus (simp (disch := first | assumption | omega | (simp only [lnX]; omega)) only [LS, storeV, loadV, partV, partP, cut, over, mkAgg, allP, asP, V.cells, PC, elDiv, elMod, elDiv0, Nat.mul_mod_left, Int.toNat_zero, Int.reduceToNat, *, hls, hlv, hla, decide_eq_false e4'] <;> rfl))) | (((with_reducible apply F.alloc); exact rfl; exact rfl); (focus (simp only [LS] <;> rfl)); (focus (simp only [LS] <;> rfl))) | (((with_reducible apply F.boxE); (iterate 3 exact rfl)); (focus (simp (disch := first | assumption | omega | (simp only [lnX]; omega)) only [LS, storeV, loadV, partV, partP, cut, over, mkAgg, allP, asP, V.cells, PC, elDiv, elMod, elDiv0, Nat.mul_mod_left, Int.toNat_zero, Int.reduceToNat, *, hls, hlv, hla, decide_eq_false e4'] <;> rfl)); exact rfl; (focus (simp only [evOf, allP, asP] <;> rfl))) | (((with_reducible apply F.build); exact rfl; exact rfl; (focus (repeat' (first | exact Prs.nil | (apply Prs.cons; exact rfl))))); (focus (simp (disch := first | assumption | omega | (simp only [lnX]; omega)) only [LS, buildV, fillV, over, buildSliceV, elemsOf, appendV, elems, arrAt, cut, roomy, mkAgg, allP, asP, V.cells, PC, Int.toNat_zero, Int.reduceToNat, *, hls, hlv, hla, decide_eq_false e4'] <;> rfl))) | (((with_reducible apply F.len); (iterate 3 exact rfl)); (focus (simp (disch := first | assumption | omega | (simp only [lnX]; omega)) only [LS, lenV_L, idx_L, below_at, Int.toNat_zero, Int.reduceToNat, *, hls, hlv, hla, decide_eq_false e4'] <;> rfl))) | (((with_reducible apply F.fieldAddrS); (iterate 3 exact rfl)); (focus (simp (disch := first | assumption | omega | (simp only [lnX]; omega)) only [LS, indexAddrV, indexV, below_at, fieldV, fieldAddrV, convP, bytesOf, sliceV, bounds, bMax, bHi, bLo, upTo_at, makeFuncV, partV, partP, cut, binI, binS, binV, binP, arith, strOp_add, strOp_eql, strOp_neq, eqn, wrap64, wrap8, mkAgg, allP, asP, Option.getD_none, Int.toNat_zero, Int.reduceToNat, *, hls, hlv, hla, decide_eq_false e4'] <;> rfl))) | (intro hc; (try rw [hc]); (try simp only [decide_eq_true_eq, decide_eq_false_iff_not, Bool.not_eq_eq_eq_not, Bool.not_true, Bool.not_false] at hc); (try (exfalso; omega))) | (((with_reducible apply E.rPc); exact rfl; exact rfl; (focus (exact look_of rfl)); exact rfl); (focus (simp (disch := first | assumption | omega | (simp only [lnX]; omega)) only [LS, storeV, loadV, partV, partP, cut, over, mkAgg, allP, asP, V.cells, PC, elDiv, elMod, elDiv0, Nat.mul_mod_left, Int.toNat_zero, Int.reduceToNat, *, hls, hlv, hla, decide_eq_false e4'] <;> rfl))) | refine R.regs rfl ?_ | exact rfl
  rw [if_neg (by simpa using e4)] at htab
  rw [← e4] at hlv
  have e5 : t.vars.length = t.start.length := e4.symm
  generalize hsg : startG 0 t.start = sg at htab
  have hbad : ∀ k, sg = some k → ((3, -1, 3, (k : Int)) : Flt) = (F1, F2, F3, F4) := by
    intro k h
    rw [h] at htab
    have := hF0 (by rw [htab]; intro h; cases h)
    rw [htab] at this
    exact this
  have h12 : sg = none → 12 < t.rules.length → ((4, -1, 4, 0) : Flt) = (F1, F2, F3, F4) := by
    intro h h'
    rw [h] at htab
    simp only [if_pos h'] at htab
    have := hF0 (by rw [htab]; intro h; cases h)
    rw [htab] at this
    exact this
  have hok : sg = none → ¬ 12 < t.rules.length → rulesG t 0 t.rules = (F1, F2, F3, F4) := by
    intro h h'
    rw [h] at htab
    simp only [if_neg h'] at htab
    exact hF1 htab
  clear hF0 hF1 htab e4
  repeat' first | (with_reducible first | apply M.free | apply M.done | apply E.seqN | apply R.skip) | ((with_reducible first | apply F.move | apply F.assign); exact rfl; exact rfl) | ((with_reducible first | apply F.load | apply F.fieldAddr); (iterate 3 exact rfl)) | ((with_reducible apply F.cmp); (iterate 4 exact rfl)) | ((with_reducible apply F.pickT); (iterate 3 exact rfl)) | ((with_reducible apply R.regs); exact rfl) | ((with_reducible apply R.regsL); exact rfl) | ((with_reducible apply Lv.of); (focus (repeat' (first | exact Kp.nil | (apply Kp.cons; exact rfl))))) | ((with_reducible apply F.call0); exact rfl; exact rfl; (focus (repeat' (first | exact Evs.nil | (apply Evs.cons; exact rfl)))); exact rfl; (focus (first | exact hns | exact hnv))) | ((first | (with_reducible apply R.cond) | ((with_reducible apply M.guard); exact rfl)); (focus (first | (refine Eq.trans (look_of rfl) ?_; first | (simp only [dtX, *, hls, hlv, hla, List.length_map] <;> rfl) | exact rfl) | exact look_of rfl))) | refine imp_yes rfl ?_ | exact imp_no rfl | with_reducible apply R.seq | with_reducible apply R.block | (((with_reducible apply F.store); (iterate 4 exact rfl)); (focus (simp (disch := first | assumption | omega | (simp only [lnX]; omega)) only [LS, storeV, loadV, partV, partP, cut, over, mkAgg, allP, asP, V.cells, PC, elDiv, elMod, elDiv0, Nat.mul_mod_left, Int.toNat_zero, Int.reduceToNat, *, hls, hlv, hla, List.length_map] <;> rfl))) | (((with_reducible apply F.alloc); exact rfl; exact rfl); (focus (simp only [LS] <;> rfl)); (focus (simp only [LS] <;> rfl))) | (((with_reducible apply F.boxE); (iterate 3 exact rfl)); (focus (simp (disch := first | assumption | omega | (simp only [lnX]; omega)) only [LS, storeV, loadV, partV, partP, cut, over, mkAgg, allP, asP, V.cells, PC, elDiv, elMod, elDiv0, Nat.mul_mod_left, Int.toNat_zero, Int.reduceToNat, *, hls, hlv, hla, List.length_map] <;> rfl)); exact rfl; (focus (simp only [evOf, allP, asP] <;> rfl))) | (((with_reducible apply F.len); (iterate 3 exact rfl)); (focus (simp (disch := first | assumption | omega | (simp only [lnX]; omega)) only [LS, lenV_L, idx_L, below_at, Int.toNat_zero, Int.reduceToNat, *, hls, hlv, hla, List.length_map] <;> rfl))) | (((with_reducible apply F.fieldAddrS); (iterate 3 exact rfl)); (focus (simp (disch := first | assumption | omega | (simp only [lnX]; omega)) only [LS, indexAddrV, indexV, below_at, fieldV, fieldAddrV, convP, bytesOf, sliceV, bounds, bMax, bHi, bLo, upTo_at, makeFuncV, partV, partP, cut, binI, binS, binV, binP, arith, strOp_add, strOp_eql, strOp_neq, eqn, wrap64, wrap8, mkAgg, allP, asP, Option.getD_none, Int.toNat_zero, Int.reduceToNat, *, hls, hlv, hla, List.length_map] <;> rfl))) | (intro hc; (try rw [hc]); (try simp only [decide_eq_true_eq, decide_eq_false_iff_not, Bool.not_eq_eq_eq_not, Bool.not_true, Bool.not_false] at hc); (try (exfalso; omega))) | refine R.regs rfl ?_
  refine R.loop (fun m e H => ∃ i : Nat, e = [(1,.p (.ep [s, v, a, q])),(2,.ptr 0 0 0),(4,.p (.int .i64 i))] ∧ H = [.box 0 [.p (.int .i64 0), .p (.int .i64 0), .p (.int .i64 0), .p (.int .i64 0)], .box 0 [.p (.int .i64 0), .p (.int .i64 0)]] ∧ i ≤ t.start.length ∧ m = t.start.length - i ∧ startG i (t.start.drop i) = sg) t.start.length ⟨0, rfl, rfl, by omega, by omega, hsg⟩ ?_
  clear hsg
  rintro m e H ⟨i, rfl, rfl, h1, rfl, hsg⟩
  by_cases hi : i = t.start.length
  rotate_left 1
  · obtain ⟨n, hg⟩ := at_some (show i < t.start.length by omega)
    have hil : i < t.start.length := by omega
    rw [drop_at hg, startG] at hsg
    have hval := (Value_run n).fv
    clear hok h12 hrule hnr
    cases hv : valueF n
    · rw [hv, if_pos rfl] at hsg
      rw [hv] at hval
      cases hbad i hsg.symm
      clear hbad hsg
      repeat' first | (with_reducible first | apply M.free | apply M.done | apply E.seqN | apply E.seqR | apply E.blkR | apply R.skip | apply R.ret) | ((with_reducible apply F.move); exact rfl; exact rfl) | ((with_reducible first | apply F.load | apply F.not); (iterate 3 exact rfl)) | ((with_reducible apply F.cmp); (iterate 4 exact rfl)) | ((with_reducible apply R.regs); exact rfl) | ((with_reducible apply F.call0); exact rfl; exact rfl; (focus (repeat' (first | exact Evs.nil | (apply Evs.cons; exact rfl)))); exact rfl; (focus (first | exact hval))) | ((first | (with_reducible apply R.cond) | ((with_reducible apply M.guard); exact rfl)); (focus (first | (refine Eq.trans (look_of rfl) ?_; first | (simp only [dtX, *, hg, List.length_map, List.getElem?_map] <;> rfl) | exact rfl) | exact look_of rfl))) | refine imp_yes rfl ?_ | exact imp_no rfl | with_reducible apply R.seq | with_reducible apply R.block | (((with_reducible apply F.store); (iterate 4 exact rfl)); (focus (simp (disch := first | assumption | omega | (simp only [lnX]; omega)) only [LS, storeV, loadV, partV, partP, cut, over, mkAgg, allP, asP, V.cells, PC, elDiv, elMod, elDiv0, Nat.mul_mod_left, Int.toNat_zero, Int.reduceToNat, *, hg, List.length_map, List.getElem?_map] <;> rfl))) | (((with_reducible apply F.build); exact rfl; exact rfl; (focus (repeat' (first | exact Prs.nil | (apply Prs.cons; exact rfl))))); (focus (simp (disch := first | assumption | omega | (simp only [lnX]; omega)) only [LS, buildV, fillV, over, buildSliceV, elemsOf, appendV, elems, arrAt, cut, roomy, mkAgg, allP, asP, V.cells, PC, Int.toNat_zero, Int.reduceToNat, *, hg, List.length_map, List.getElem?_map] <;> rfl))) | ((first | ((with_reducible apply F.indexAddr); (iterate 4 exact rfl)) | ((with_reducible apply F.len); (iterate 3 exact rfl))); (focus (simp (disch := first | assumption | omega | (simp only [lnX]; omega)) only [LS, lenV_L, idx_L, below_at, Int.toNat_zero, Int.reduceToNat, *, hg, List.length_map, List.getElem?_map] <;> rfl))) | (((with_reducible apply F.fieldAddrS); (iterate 3 exact rfl)); (focus (simp (disch := first | assumption | omega | (simp only [lnX]; omega)) only [LS, indexAddrV, indexV, below_at, fieldV, fieldAddrV, convP, bytesOf, sliceV, bounds, bMax, bHi, bLo, upTo_at, makeFuncV, partV, partP, cut, binI, binS, binV, binP, arith, strOp_add, strOp_eql, strOp_neq, eqn, wrap64, wrap8, mkAgg, allP, asP, Option.getD_none, Int.toNat_zero, Int.reduceToNat, *, hg, List.length_map, List.getElem?_map] <;> rfl))) | (intro hc; (try rw [hc]); (try simp only [decide_eq_true_eq, decide_eq_false_iff_not, Bool.not_eq_eq_eq_not, Bool.not_true, Bool.not_false] at hc); (try (exfalso; omega))) | (((with_reducible apply E.rPc); exact rfl; exact rfl; (focus (exact look_of rfl)); exact rfl); (focus (simp (disch := first | assumption | omega | (simp only [lnX]; omega)) only [LS, storeV, loadV, partV, partP, cut, over, mkAgg, allP, asP, V.cells, PC, elDiv, elMod, elDiv0, Nat.mul_mod_left, Int.toNat_zero, Int.reduceToNat, *, hg, List.length_map, List.getElem?_map] <;> rfl))) | exact rfl
    · rw [hv, if_neg (by decide)] at hsg
      rw [hv] at hval
      clear hbad
      repeat' first | (with_reducible first | apply M.free | apply M.done | apply E.seqN | apply E.blkN | apply R.skip) | ((with_reducible first | apply F.move | apply F.assign); exact rfl; exact rfl) | ((with_reducible first | apply F.load | apply F.not); (iterate 3 exact rfl)) | ((with_reducible apply F.cmp); (iterate 4 exact rfl)) | (((with_reducible apply F.add); (iterate 3 exact rfl)); (focus (first | omega | (simp only [lnX]; omega)))) | ((with_reducible apply R.regs); exact rfl) | ((with_reducible apply Lv.of); (focus (repeat' (first | exact Kp.nil | (apply Kp.cons; exact rfl))))) | ((with_reducible apply F.call0); exact rfl; exact rfl; (focus (repeat' (first | exact Evs.nil | (apply Evs.cons; exact rfl)))); exact rfl; (focus (first | exact hval))) | ((first | (with_reducible apply R.cond) | ((with_reducible apply M.guard); exact rfl)); (focus (first | (refine Eq.trans (look_of rfl) ?_; first | (simp only [dtX, *, hg, List.length_map, List.getElem?_map] <;> rfl) | exact rfl) | exact look_of rfl))) | refine imp_yes rfl ?_ | exact imp_no rfl | with_reducible apply R.seq | ((with_reducible apply R.regionL); exact rfl) | with_reducible apply R.block | ((first | ((with_reducible apply F.indexAddr); (iterate 4 exact rfl)) | ((with_reducible apply F.len); (iterate 3 exact rfl))); (focus (simp (disch := first | assumption | omega | (simp only [lnX]; omega)) only [LS, lenV_L, idx_L, below_at, Int.toNat_zero, Int.reduceToNat, *, hg, List.length_map, List.getElem?_map] <;> rfl))) | (((with_reducible apply F.fieldAddrS); (iterate 3 exact rfl)); (focus (simp (disch := first | assumption | omega | (simp only [lnX]; omega)) only [LS, indexAddrV, indexV, below_at, fieldV, fieldAddrV, convP, bytesOf, sliceV, bounds, bMax, bHi, bLo, upTo_at, makeFuncV, partV, partP, cut, binI, binS, binV, binP, arith, strOp_add, strOp_eql, strOp_neq, eqn, wrap64, wrap8, mkAgg, allP, asP, Option.getD_none, Int.toNat_zero, Int.reduceToNat, *, hg, List.length_map, List.getElem?_map] <;> rfl))) | (intro hc; (try rw [hc]); (try simp only [decide_eq_true_eq, decide_eq_false_iff_not, Bool.not_eq_eq_eq_not, Bool.not_true, Bool.not_false] at hc); (try (exfalso; omega)))
      all_goals exact ⟨t.start.length - (i + 1), by omega, i + 1, rfl, rfl, by omega, rfl, hsg⟩
  subst hi
  rw [List.drop_length, startG] at hsg
  have h12 := h12 hsg.symm
  have hok := hok hsg.symm
  clear hbad hsg
  by_cases hb : 12 < t.rules.length
  · cases h12 hb
    clear hok hrule hnr
    repeat' first | (with_reducible first | apply M.free | apply M.done | apply E.seqN | apply E.seqX | apply E.seqR | apply R.ret | apply R.exit) | ((with_reducible apply F.move); exact rfl; exact rfl) | ((with_reducible apply F.load); (iterate 3 exact rfl)) | ((with_reducible apply F.cmp); (iterate 4 exact rfl)) | ((with_reducible apply R.regs); exact rfl) | ((first | (with_reducible apply R.cond) | ((with_reducible apply M.guard); exact rfl)); (focus (first | (refine Eq.trans (look_of rfl) ?_; first | (simp only [dtX, *, hls, hlv, hla, hlq, List.length_map] <;> rfl) | exact rfl) | exact look_of rfl))) | with_reducible apply R.seq | ((with_reducible apply E.blkX); exact rfl) | (((with_reducible apply F.store); (iterate 4 exact rfl)); (focus (simp (disch := first | assumption | omega | (simp only [lnX]; omega)) only [LS, storeV, loadV, partV, partP, cut, over, mkAgg, allP, asP, V.cells, PC, elDiv, elMod, elDiv0, Nat.mul_mod_left, Int.toNat_zero, Int.reduceToNat, *, hls, hlv, hla, hlq, List.length_map] <;> rfl))) | (((with_reducible apply F.build); exact rfl; exact rfl; (focus (repeat' (first | exact Prs.nil | (apply Prs.cons; exact rfl))))); (focus (simp (disch := first | assumption | omega | (simp only [lnX]; omega)) only [LS, buildV, fillV, over, buildSliceV, elemsOf, appendV, elems, arrAt, cut, roomy, mkAgg, allP, asP, V.cells, PC, Int.toNat_zero, Int.reduceToNat, *, hls, hlv, hla, hlq, List.length_map] <;> rfl))) | (((with_reducible apply F.len); (iterate 3 exact rfl)); (focus (simp (disch := first | assumption | omega | (simp only [lnX]; omega)) only [LS, lenV_L, idx_L, below_at, Int.toNat_zero, Int.reduceToNat, *, hls, hlv, hla, hlq, List.length_map] <;> rfl))) | (((with_reducible apply F.fieldAddrS); (iterate 3 exact rfl)); (focus (simp (disch := first | assumption | omega | (simp only [lnX]; omega)) only [LS, indexAddrV, indexV, below_at, fieldV, fieldAddrV, convP, bytesOf, sliceV, bounds, bMax, bHi, bLo, upTo_at, makeFuncV, partV, partP, cut, binI, binS, binV, binP, arith, strOp_add, strOp_eql, strOp_neq, eqn, wrap64, wrap8, mkAgg, allP, asP, Option.getD_none, Int.toNat_zero, Int.reduceToNat, *, hls, hlv, hla, hlq, List.length_map] <;> rfl))) | (intro hc; (try rw [hc]); (try simp only [decide_eq_true_eq, decide_eq_false_iff_not, Bool.not_eq_eq_eq_not, Bool.not_true, Bool.not_false] at hc); (try (exfalso; omega))) | (((with_reducible apply E.rPc); exact rfl; exact rfl; (focus (exact look_of rfl)); exact rfl); (focus (simp (disch := first | assumption | omega | (simp only [lnX]; omega)) only [LS, storeV, loadV, partV, partP, cut, over, mkAgg, allP, asP, V.cells, PC, elDiv, elMod, elDiv0, Nat.mul_mod_left, Int.toNat_zero, Int.reduceToNat, *, hls, hlv, hla, hlq, List.length_map] <;> rfl))) | exact rfl
  have hok := hok hb
  clear h12
  repeat' first | (with_reducible first | apply M.free | apply M.done | apply E.seqN | apply E.seqX | apply R.skip | apply R.exit) | ((with_reducible first | apply F.move | apply F.assign); exact rfl; exact rfl) | ((with_reducible apply F.load); (iterate 3 exact rfl)) | ((with_reducible apply F.cmp); (iterate 4 exact rfl)) | ((with_reducible apply R.regs); exact rfl) | ((with_reducible apply R.regsL); exact rfl) | ((with_reducible apply Lv.of); (focus (repeat' (first | exact Kp.nil | (apply Kp.cons; exact rfl))))) | ((first | (with_reducible apply R.cond) | ((with_reducible apply M.guard); exact rfl)); (focus (first | (refine Eq.trans (look_of rfl) ?_; first | (simp only [dtX, *, hls, hlv, hla, hlq, List.length_map] <;> rfl) | exact rfl) | exact look_of rfl))) | with_reducible apply R.seq | ((with_reducible apply E.blkX); exact rfl) | with_reducible apply R.block | (((with_reducible apply F.len); (iterate 3 exact rfl)); (focus (simp (disch := first | assumption | omega | (simp only [lnX]; omega)) only [LS, lenV_L, idx_L, below_at, Int.toNat_zero, Int.reduceToNat, *, hls, hlv, hla, hlq, List.length_map] <;> rfl))) | (((with_reducible apply F.fieldAddrS); (iterate 3 exact rfl)); (focus (simp (disch := first | assumption | omega | (simp only [lnX]; omega)) only [LS, indexAddrV, indexV, below_at, fieldV, fieldAddrV, convP, bytesOf, sliceV, bounds, bMax, bHi, bLo, upTo_at, makeFuncV, partV, partP, cut, binI, binS, binV, binP, arith, strOp_add, strOp_eql, strOp_neq, eqn, wrap64, wrap8, mkAgg, allP, asP, Option.getD_none, Int.toNat_zero, Int.reduceToNat, *, hls, hlv, hla, hlq, List.length_map] <;> rfl))) | (intro hc; (try rw [hc]); (try simp only [decide_eq_true_eq, decide_eq_false_iff_not, Bool.not_eq_eq_eq_not, Bool.not_true, Bool.not_false] at hc); (try (exfalso; omega)))
  refine R.loop (fun m e H => ∃ i : Nat, e = [(1,.p (.ep [s, v, a, q])),(2,.ptr 0 0 0),(5,.p (.int .i64 i))] ∧ H = [.box 0 [.p (.int .i64 0), .p (.int .i64 0), .p (.int .i64 0), .p (.int .i64 0)], .box 0 [.p (.int .i64 0), .p (.int .i64 0)]] ∧ i ≤ t.rules.length ∧ m = t.rules.length - i ∧ rulesG t i (t.rules.drop i) = (F1, F2, F3, F4)) t.rules.length ⟨0, rfl, rfl, by omega, by omega, hok⟩ ?_
  clear hok
  rintro m e H ⟨i, rfl, rfl, h1, rfl, hq⟩
  by_cases hi : i = t.rules.length
  · subst hi
    rw [List.drop_length, rulesG] at hq
    cases hq
    clear hrule hnr q2
    repeat' first | (with_reducible first | apply M.free | apply M.done | apply E.seqN | apply E.seqX | apply R.ret | apply R.exit) | ((with_reducible apply F.move); exact rfl; exact rfl) | ((with_reducible apply F.load); (iterate 3 exact rfl)) | ((with_reducible apply F.cmp); (iterate 4 exact rfl)) | ((with_reducible apply R.regs); exact rfl) | ((first | (with_reducible apply R.cond) | ((with_reducible apply M.guard); exact rfl)); (focus (first | (refine Eq.trans (look_of rfl) ?_; first | (simp only [dtX, *, hlq] <;> rfl) | exact rfl) | exact look_of rfl))) | with_reducible apply R.seq | ((with_reducible apply E.blkX); exact rfl) | (((with_reducible apply F.store); (iterate 4 exact rfl)); (focus (simp (disch := first | assumption | omega | (simp only [lnX]; omega)) only [LS, storeV, loadV, partV, partP, cut, over, mkAgg, allP, asP, V.cells, PC, elDiv, elMod, elDiv0, Nat.mul_mod_left, Int.toNat_zero, Int.reduceToNat, *, hlq] <;> rfl))) | (((with_reducible apply F.build); exact rfl; exact rfl; (focus (repeat' (first | exact Prs.nil | (apply Prs.cons; exact rfl))))); (focus (simp (disch := first | assumption | omega | (simp only [lnX]; omega)) only [LS, buildV, fillV, over, buildSliceV, elemsOf, appendV, elems, arrAt, cut, roomy, mkAgg, allP, asP, V.cells, PC, Int.toNat_zero, Int.reduceToNat, *, hlq] <;> rfl))) | (((with_reducible apply F.len); (iterate 3 exact rfl)); (focus (simp (disch := first | assumption | omega | (simp only [lnX]; omega)) only [LS, lenV_L, idx_L, below_at, Int.toNat_zero, Int.reduceToNat, *, hlq] <;> rfl))) | (((with_reducible apply F.fieldAddrS); (iterate 3 exact rfl)); (focus (simp (disch := first | assumption | omega | (simp only [lnX]; omega)) only [LS, indexAddrV, indexV, below_at, fieldV, fieldAddrV, convP, bytesOf, sliceV, bounds, bMax, bHi, bLo, upTo_at, makeFuncV, partV, partP, cut, binI, binS, binV, binP, arith, strOp_add, strOp_eql, strOp_neq, eqn, wrap64, wrap8, mkAgg, allP, asP, Option.getD_none, Int.toNat_zero, Int.reduceToNat, *, hlq] <;> rfl))) | (intro hc; (try rw [hc]); (try simp only [decide_eq_true_eq, decide_eq_false_iff_not, Bool.not_eq_eq_eq_not, Bool.not_true, Bool.not_false] at hc); (try (exfalso; omega))) | (((with_reducible apply E.rPc); exact rfl; exact rfl; (focus (exact look_of rfl)); exact rfl); (focus (simp (disch := first | assumption | omega | (simp only [lnX]; omega)) only [LS, storeV, loadV, partV, partP, cut, over, mkAgg, allP, asP, V.cells, PC, elDiv, elMod, elDiv0, Nat.mul_mod_left, Int.toNat_zero, Int.reduceToNat, *, hlq] <;> rfl))) | exact rfl
  obtain ⟨r, hg⟩ := at_some (show i < t.rules.length by omega)
  have hil : i < t.rules.length := by omega
  obtain ⟨y, hy, f, g, ss, rfl, -⟩ := q2.at hg
  have hsub : ∀ (k : Nat) z, t.rules[k]? = some z → ∃ A B C D, (elemsP q)[k]? = some (.agg [.str z.name, A, B, C, D]) := by
    intro k z hz
    obtain ⟨y', hy', f', g', ss', rfl, -⟩ := q2.at hz
    exact ⟨_, _, _, _, hy'⟩
  rw [drop_at hg, rulesG, ruleF_eq] at hq
  have hrl := hrule i r hg
  have hnm := hnr i r hg
  have hL : ruleL (elemsP s).length (elemsP v).length i r = ruleL t.states.length t.vars.length i r := by rw [hls, hlv, e5]
  rw [hL] at hrl
  have hLe := ruleL_e t.states.length t.vars.length i r
  generalize ruleL t.states.length t.vars.length i r = c at *
  obtain ⟨c1, c2, c3, c4⟩ := c
  obtain ⟨rn, ra, rf, rg, rs⟩ := r
  simp only at hq hy hnm
  simp only [fltP] at hrl
  generalize hX : (if nameF rn = false then ((6, (i : Int), 5, 0) : Flt) else if (t.rules.take i).any (fun w => decide (w.name = rn)) = true then (9, (i : Int), 5, 0) else if ra < 0 ∨ 4 < ra then (3, (i : Int), 6, 0) else (c1, c2, c3, c4)) = X at hq
  clear hrule hnr q2 hL
  by_cases hnf : nameF rn = false
  · rw [if_pos hnf] at hX
    rw [hnf] at hnm
    subst hX
    rw [if_neg (by intro h; cases h)] at hq
    cases hq
    clear hsub hLe
    repeat' first | (with_reducible first | apply M.free | apply M.done | apply E.seqN | apply E.seqR | apply E.blkR | apply R.skip | apply R.ret) | ((with_reducible apply F.move); exact rfl; exact rfl) | ((with_reducible first | apply F.load | apply F.fieldAddr | apply F.not); (iterate 3 exact rfl)) | ((with_reducible apply F.cmp); (iterate 4 exact rfl)) | ((with_reducible apply R.regs); exact rfl) | ((with_reducible apply F.call0); exact rfl; exact rfl; (focus (repeat' (first | exact Evs.nil | (apply Evs.cons; exact rfl)))); exact rfl; (focus (first | exact hnm))) | ((first | (with_reducible apply R.cond) | ((with_reducible apply M.guard); exact rfl)); (focus (first | (refine Eq.trans (look_of rfl) ?_; first | (simp only [dtX, *, hlq, hy] <;> rfl) | exact rfl) | exact look_of rfl))) | refine imp_yes rfl ?_ | exact imp_no rfl | with_reducible apply R.seq | with_reducible apply R.block | ((first | ((with_reducible apply F.store); (iterate 4 exact rfl)) | ((with_reducible apply F.loadS); (iterate 3 exact rfl))); (focus (simp (disch := first | assumption | omega | (simp only [lnX]; omega)) only [LS, storeV, loadV, partV, partP, cut, over, mkAgg, allP, asP, V.cells, PC, elDiv, elMod, elDiv0, Nat.mul_mod_left, Int.toNat_zero, Int.reduceToNat, *, hlq, hy] <;> rfl))) | (((with_reducible apply F.alloc); exact rfl; exact rfl); (focus (simp only [LS] <;> rfl)); (focus (simp only [LS] <;> rfl))) | (((with_reducible apply F.build); exact rfl; exact rfl; (focus (repeat' (first | exact Prs.nil | (apply Prs.cons; exact rfl))))); (focus (simp (disch := first | assumption | omega | (simp only [lnX]; omega)) only [LS, buildV, fillV, over, buildSliceV, elemsOf, appendV, elems, arrAt, cut, roomy, mkAgg, allP, asP, V.cells, PC, Int.toNat_zero, Int.reduceToNat, *, hlq, hy] <;> rfl))) | ((first | ((with_reducible apply F.indexAddr); (iterate 4 exact rfl)) | ((with_reducible apply F.len); (iterate 3 exact rfl))); (focus (simp (disch := first | assumption | omega | (simp only [lnX]; omega)) only [LS, lenV_L, idx_L, below_at, Int.toNat_zero, Int.reduceToNat, *, hlq, hy] <;> rfl))) | (((with_reducible apply F.fieldAddrS); (iterate 3 exact rfl)); (focus (simp (disch := first | assumption | omega | (simp only [lnX]; omega)) only [LS, indexAddrV, indexV, below_at, fieldV, fieldAddrV, convP, bytesOf, sliceV, bounds, bMax, bHi, bLo, upTo_at, makeFuncV, partV, partP, cut, binI, binS, binV, binP, arith, strOp_add, strOp_eql, strOp_neq, eqn, wrap64, wrap8, mkAgg, allP, asP, Option.getD_none, Int.toNat_zero, Int.reduceToNat, *, hlq, hy] <;> rfl))) | (intro hc; (try rw [hc]); (try simp only [decide_eq_true_eq, decide_eq_false_iff_not, Bool.not_eq_eq_eq_not, Bool.not_true, Bool.not_false] at hc); (try (exfalso; omega))) | (((with_reducible apply E.rPc); exact rfl; exact rfl; (focus (exact look_of rfl)); exact rfl); (focus (simp (disch := first | assumption | omega | (simp only [lnX]; omega)) only [LS, storeV, loadV, partV, partP, cut, over, mkAgg, allP, asP, V.cells, PC, elDiv, elMod, elDiv0, Nat.mul_mod_left, Int.toNat_zero, Int.reduceToNat, *, hlq, hy] <;> rfl))) | exact rfl
  have hnf : nameF rn = true := by simpa using hnf
  rw [hnf, if_neg (by decide)] at hX
  rw [hnf] at hnm
  have hq9 : ∀ k z, k < i → t.rules[k]? = some z → z.name = rn → ((9 : Int), (i : Int), (5 : Int), (0 : Int)) = (F1, F2, F3, F4) := by
    intro k z hk hz h
    rw [any_at hk hz (by simpa using h), if_pos rfl] at hX
    subst hX
    rw [if_neg (by intro h; cases h)] at hq
    exact hq
  have hno : (t.rules.take i).any (fun w => decide (w.name = rn)) = false → (if ra < 0 ∨ 4 < ra then ((3, (i : Int), 6, 0) : Flt) else (c1, c2, c3, c4)) = X := by
    intro h
    rw [h, if_neg (by decide)] at hX
    exact hX
  clear hX
  repeat' first | (with_reducible first | apply M.free | apply M.done | apply E.seqN | apply R.skip) | ((with_reducible first | apply F.move | apply F.assign); exact rfl; exact rfl) | ((with_reducible first | apply F.load | apply F.fieldAddr | apply F.not); (iterate 3 exact rfl)) | ((with_reducible apply F.cmp); (iterate 4 exact rfl)) | ((with_reducible apply R.regs); exact rfl) | ((with_reducible apply R.regsL); exact rfl) | ((with_reducible apply Lv.of); (focus (repeat' (first | exact Kp.nil | (apply Kp.cons; exact rfl))))) | ((with_reducible apply F.call0); exact rfl; exact rfl; (focus (repeat' (first | exact Evs.nil | (apply Evs.cons; exact rfl)))); exact rfl; (focus (first | exact hnm))) | ((first | (with_reducible apply R.cond) | ((with_reducible apply M.guard); exact rfl)); (focus (first | (refine Eq.trans (look_of rfl) ?_; first | (simp only [dtX, *, hlq, hy] <;> rfl) | exact rfl) | exact look_of rfl))) | refine imp_yes rfl ?_ | exact imp_no rfl | with_reducible apply R.seq | with_reducible apply R.block | ((first | ((with_reducible apply F.store); (iterate 4 exact rfl)) | ((with_reducible apply F.loadS); (iterate 3 exact rfl))); (focus (simp (disch := first | assumption | omega | (simp only [lnX]; omega)) only [LS, storeV, loadV, partV, partP, cut, over, mkAgg, allP, asP, V.cells, PC, elDiv, elMod, elDiv0, Nat.mul_mod_left, Int.toNat_zero, Int.reduceToNat, *, hlq, hy] <;> rfl))) | (((with_reducible apply F.alloc); exact rfl; exact rfl); (focus (simp only [LS] <;> rfl)); (focus (simp only [LS] <;> rfl))) | ((first | ((with_reducible apply F.indexAddr); (iterate 4 exact rfl)) | ((with_reducible apply F.len); (iterate 3 exact rfl))); (focus (simp (disch := first | assumption | omega | (simp only [lnX]; omega)) only [LS, lenV_L, idx_L, below_at, Int.toNat_zero, Int.reduceToNat, *, hlq, hy] <;> rfl))) | (((with_reducible apply F.fieldAddrS); (iterate 3 exact rfl)); (focus (simp (disch := first | assumption | omega | (simp only [lnX]; omega)) only [LS, indexAddrV, indexV, below_at, fieldV, fieldAddrV, convP, bytesOf, sliceV, bounds, bMax, bHi, bLo, upTo_at, makeFuncV, partV, partP, cut, binI, binS, binV, binP, arith, strOp_add, strOp_eql, strOp_neq, eqn, wrap64, wrap8, mkAgg, allP, asP, Option.getD_none, Int.toNat_zero, Int.reduceToNat, *, hlq, hy] <;> rfl))) | (intro hc; (try rw [hc]); (try simp only [decide_eq_true_eq, decide_eq_false_iff_not, Bool.not_eq_eq_eq_not, Bool.not_true, Bool.not_false] at hc); (try (exfalso; omega)))
  refine R.loop (fun m e H => ∃ k : Nat, e = [(1,.p (.ep [s, v, a, q])),(2,.ptr 0 0 0),(5,.p (.int .i64 i)),(6,.ptr 2 0 0),(7,.p (.int .i64 k))] ∧ H = [.box 0 [.p (.int .i64 0), .p (.int .i64 0), .p (.int .i64 0), .p (.int .i64 0)], .box 0 [.p (.int .i64 0), .p (.int .i64 0)], .box 0 [.p (.str rn), .p (.int .i64 ra), .p f, .p g, .p ss]] ∧ k ≤ i ∧ m = i - k ∧ (t.rules.take k).any (fun z => decide (z.name = rn)) = false) i ⟨0, rfl, rfl, by omega, by omega, by simp⟩ ?_
  rintro m e H ⟨k, rfl, rfl, hk, rfl, ha⟩
  by_cases hki : k = i
  rotate_left 1
  · obtain ⟨z, hz⟩ := at_some (show k < t.rules.length by omega)
    obtain ⟨A, B, C, D, hzl⟩ := hsub k z hz
    have hnx := any_snoc _ ha hz
    have hq9 := hq9 k z (by omega) hz
    clear hq ha hsub hno hLe
    obtain ⟨zn, za, zf, zg, zs⟩ := z
    simp only at hq9 hzl hnx
    cases hc : (zn == rn)
    · have hc' : ¬ zn = rn := by simpa using hc
      clear hq9
      repeat' first | (with_reducible first | apply M.free | apply M.done | apply E.seqN | apply E.blkN | apply R.skip) | ((with_reducible first | apply F.move | apply F.assign); exact rfl; exact rfl) | ((with_reducible first | apply F.load | apply F.fieldAddr); (iterate 3 exact rfl)) | ((with_reducible apply F.cmp); (iterate 4 exact rfl)) | ((with_reducible apply F.cmpS); (iterate 4 exact rfl)) | (((with_reducible apply F.add); (iterate 3 exact rfl)); (focus (first | omega | (simp only [lnX]; omega)))) | ((with_reducible apply R.regs); exact rfl) | ((with_reducible apply Lv.of); (focus (repeat' (first | exact Kp.nil | (apply Kp.cons; exact rfl))))) | ((first | (with_reducible apply R.cond) | ((with_reducible apply M.guard); exact rfl)); (focus (first | (refine Eq.trans (look_of rfl) ?_; first | (simp only [dtX, *, hlq, hy, hzl] <;> rfl) | exact rfl) | exact look_of rfl))) | refine imp_yes rfl ?_ | exact imp_no rfl | with_reducible apply R.seq | ((with_reducible apply R.regionL); exact rfl) | with_reducible apply R.block | (((with_reducible apply F.indexAddr); (iterate 4 exact rfl)); (focus (simp (disch := first | assumption | omega | (simp only [lnX]; omega)) only [LS, lenV_L, idx_L, below_at, Int.toNat_zero, Int.reduceToNat, *, hlq, hy, hzl] <;> rfl))) | (((with_reducible apply F.fieldAddrS); (iterate 3 exact rfl)); (focus (simp (disch := first | assumption | omega | (simp only [lnX]; omega)) only [LS, indexAddrV, indexV, below_at, fieldV, fieldAddrV, convP, bytesOf, sliceV, bounds, bMax, bHi, bLo, upTo_at, makeFuncV, partV, partP, cut, binI, binS, binV, binP, arith, strOp_add, strOp_eql, strOp_neq, eqn, wrap64, wrap8, mkAgg, allP, asP, Option.getD_none, Int.toNat_zero, Int.reduceToNat, *, hlq, hy, hzl] <;> rfl))) | (intro hc; (try rw [hc]); (try simp only [decide_eq_true_eq, decide_eq_false_iff_not, Bool.not_eq_eq_eq_not, Bool.not_true, Bool.not_false] at hc); (try (exfalso; omega)))
      all_goals exact ⟨i - (k + 1), by omega, k + 1, rfl, rfl, by omega, rfl, by rw [hnx]; simp only [decide_eq_false_iff_not]; exact hc'⟩
    · have hc' : zn = rn := by simpa using hc
      cases hq9 hc'
      clear hc' hnx
      repeat' first | (with_reducible first | apply M.free | apply M.done | apply E.seqN | apply E.seqR | apply E.blkR | apply R.skip | apply R.ret) | ((with_reducible apply F.move); exact rfl; exact rfl) | ((with_reducible first | apply F.load | apply F.fieldAddr); (iterate 3 exact rfl)) | ((with_reducible apply F.cmp); (iterate 4 exact rfl)) | ((with_reducible apply F.cmpS); (iterate 4 exact rfl)) | ((with_reducible apply R.regs); exact rfl) | ((first | (with_reducible apply R.cond) | ((with_reducible apply M.guard); exact rfl)); (focus (first | (refine Eq.trans (look_of rfl) ?_; first | (simp only [dtX, *, hlq, hy, hzl] <;> rfl) | exact rfl) | exact look_of rfl))) | refine imp_yes rfl ?_ | exact imp_no rfl | with_reducible apply R.seq | with_reducible apply R.block | (((with_reducible apply F.store); (iterate 4 exact rfl)); (focus (simp (disch := first | assumption | omega | (simp only [lnX]; omega)) only [LS, storeV, loadV, partV, partP, cut, over, mkAgg, allP, asP, V.cells, PC, elDiv, elMod, elDiv0, Nat.mul_mod_left, Int.toNat_zero, Int.reduceToNat, *, hlq, hy, hzl] <;> rfl))) | (((with_reducible apply F.build); exact rfl; exact rfl; (focus (repeat' (first | exact Prs.nil | (apply Prs.cons; exact rfl))))); (focus (simp (disch := first | assumption | omega | (simp only [lnX]; omega)) only [LS, buildV, fillV, over, buildSliceV, elemsOf, appendV, elems, arrAt, cut, roomy, mkAgg, allP, asP, V.cells, PC, Int.toNat_zero, Int.reduceToNat, *, hlq, hy, hzl] <;> rfl))) | (((with_reducible apply F.indexAddr); (iterate 4 exact rfl)); (focus (simp (disch := first | assumption | omega | (simp only [lnX]; omega)) only [LS, lenV_L, idx_L, below_at, Int.toNat_zero, Int.reduceToNat, *, hlq, hy, hzl] <;> rfl))) | (((with_reducible apply F.fieldAddrS); (iterate 3 exact rfl)); (focus (simp (disch := first | assumption | omega | (simp only [lnX]; omega)) only [LS, indexAddrV, indexV, below_at, fieldV, fieldAddrV, convP, bytesOf, sliceV, bounds, bMax, bHi, bLo, upTo_at, makeFuncV, partV, partP, cut, binI, binS, binV, binP, arith, strOp_add, strOp_eql, strOp_neq, eqn, wrap64, wrap8, mkAgg, allP, asP, Option.getD_none, Int.toNat_zero, Int.reduceToNat, *, hlq, hy, hzl] <;> rfl))) | (intro hc; (try rw [hc]); (try simp only [decide_eq_true_eq, decide_eq_false_iff_not, Bool.not_eq_eq_eq_not, Bool.not_true, Bool.not_false] at hc); (try (exfalso; omega))) | (((with_reducible apply E.rPc); exact rfl; exact rfl; (focus (exact look_of rfl)); exact rfl); (focus (simp (disch := first | assumption | omega | (simp only [lnX]; omega)) only [LS, storeV, loadV, partV, partP, cut, over, mkAgg, allP, asP, V.cells, PC, elDiv, elMod, elDiv0, Nat.mul_mod_left, Int.toNat_zero, Int.reduceToNat, *, hlq, hy, hzl] <;> rfl))) | exact rfl
  subst hki
  have hX := hno ha
  clear hno hq9 hsub ha
  by_cases hra : ra < 0 ∨ 4 < ra
  · rw [if_pos hra] at hX
    subst hX
    rw [if_neg (by intro h; cases h)] at hq
    cases hq
    clear hLe
    repeat' first | (with_reducible first | apply M.free | apply M.done | apply E.seqN | apply E.seqX | apply E.seqR | apply E.blkR | apply R.ret | apply R.exit) | ((with_reducible apply F.move); exact rfl; exact rfl) | ((with_reducible first | apply F.load | apply F.fieldAddr); (iterate 3 exact rfl)) | ((with_reducible apply F.cmp); (iterate 4 exact rfl)) | ((with_reducible apply F.pickT); (iterate 3 exact rfl)) | ((with_reducible apply F.pickF); (iterate 3 exact rfl)) | ((with_reducible apply R.regs); exact rfl) | ((first | (with_reducible apply R.cond) | ((with_reducible apply M.guard); exact rfl)); (focus (first | (refine Eq.trans (look_of rfl) ?_; first | (simp only [dtX, *, hlq] <;> rfl) | exact rfl) | exact look_of rfl))) | refine imp_yes rfl ?_ | exact imp_no rfl | with_reducible apply R.seq | ((with_reducible apply E.blkX); exact rfl) | (((with_reducible apply F.store); (iterate 4 exact rfl)); (focus (simp (disch := first | assumption | omega | (simp only [lnX]; omega)) only [LS, storeV, loadV, partV, partP, cut, over, mkAgg, allP, asP, V.cells, PC, elDiv, elMod, elDiv0, Nat.mul_mod_left, Int.toNat_zero, Int.reduceToNat, *, hlq] <;> rfl))) | (((with_reducible apply F.build); exact rfl; exact rfl; (focus (repeat' (first | exact Prs.nil | (apply Prs.cons; exact rfl))))); (focus (simp (disch := first | assumption | omega | (simp only [lnX]; omega)) only [LS, buildV, fillV, over, buildSliceV, elemsOf, appendV, elems, arrAt, cut, roomy, mkAgg, allP, asP, V.cells, PC, Int.toNat_zero, Int.reduceToNat, *, hlq] <;> rfl))) | (intro hc; (try rw [hc]); (try simp only [decide_eq_true_eq, decide_eq_false_iff_not, Bool.not_eq_eq_eq_not, Bool.not_true, Bool.not_false] at hc); (try (exfalso; omega))) | (((with_reducible apply E.rPc); exact rfl; exact rfl; (focus (exact look_of rfl)); exact rfl); (focus (simp (disch := first | assumption | omega | (simp only [lnX]; omega)) only [LS, storeV, loadV, partV, partP, cut, over, mkAgg, allP, asP, V.cells, PC, elDiv, elMod, elDiv0, Nat.mul_mod_left, Int.toNat_zero, Int.reduceToNat, *, hlq] <;> rfl))) | exact rfl
  rw [if_neg hra] at hX
  subst hX
  rcases hLe with hLe | hLe
  · cases hLe
    rw [if_pos rfl] at hq
    repeat' first | (with_reducible first | apply M.free | apply M.done | apply E.seqN | apply E.seqX | apply E.blkN | apply R.skip | apply R.exit) | ((with_reducible first | apply F.move | apply F.assign); exact rfl; exact rfl) | ((with_reducible first | apply F.load | apply F.fieldAddr); (iterate 3 exact rfl)) | ((with_reducible apply F.cmp); (iterate 4 exact rfl)) | ((with_reducible apply F.pickF); (iterate 3 exact rfl)) | (((with_reducible apply F.add); (iterate 3 exact rfl)); (focus (first | omega | (simp only [lnX]; omega)))) | ((with_reducible apply R.regs); exact rfl) | ((with_reducible apply Cut.of); (focus (repeat' (first | exact Kp.nil | (apply Kp.cons; exact rfl)))); (focus ((try simp only [List.take_succ_cons, List.take_zero, List.take_nil, Nat.zero_add, Nat.reduceAdd]) <;> rfl)); (focus (first | exact rfl | (simp [cutOk, lowOb, lowV, lowCell, lowCell1, low_map]; done)))) | ((with_reducible apply F.call0); exact rfl; exact rfl; (focus (repeat' (first | exact Evs.nil | (apply Evs.cons; exact rfl)))); exact rfl; (focus (first | exact hrl))) | ((first | (with_reducible apply R.cond) | ((with_reducible apply M.guard); exact rfl)); (focus (first | (refine Eq.trans (look_of rfl) ?_; first | (simp only [dtX, *, hlq] <;> rfl) | exact rfl) | exact look_of rfl))) | refine imp_yes rfl ?_ | exact imp_no rfl | with_reducible apply R.seq | ((with_reducible apply R.regionT); exact rfl) | ((with_reducible apply E.blkX); exact rfl) | ((first | ((with_reducible apply F.store); (iterate 4 exact rfl)) | ((with_reducible apply F.loadS); (iterate 3 exact rfl))); (focus (simp (disch := first | assumption | omega | (simp only [lnX]; omega)) only [LS, storeV, loadV, partV, partP, cut, over, mkAgg, allP, asP, V.cells, PC, elDiv, elMod, elDiv0, Nat.mul_mod_left, Int.toNat_zero, Int.reduceToNat, *, hlq] <;> rfl))) | (((with_reducible apply F.alloc); exact rfl; exact rfl); (focus (simp only [LS] <;> rfl)); (focus (simp only [LS] <;> rfl))) | (intro hc; (try rw [hc]); (try simp only [decide_eq_true_eq, decide_eq_false_iff_not, Bool.not_eq_eq_eq_not, Bool.not_true, Bool.not_false] at hc); (try (exfalso; omega)))
    all_goals exact ⟨t.rules.length - (k + 1), by omega, k + 1, rfl, rfl, by omega, rfl, hq⟩
  · rw [if_neg (fun h => hLe (congrArg Prod.fst h))] at hq
    cases hq
    simp only at hLe
    repeat' first | (with_reducible first | apply M.free | apply M.done | apply E.seqN | apply E.seqX | apply E.seqR | apply E.blkR | apply R.skip | apply R.ret | apply R.exit) | ((with_reducible apply F.move); exact rfl; exact rfl) | ((with_reducible first | apply F.load | apply F.fieldAddr); (iterate 3 exact rfl)) | ((with_reducible apply F.cmp); (iterate 4 exact rfl)) | ((with_reducible apply F.pickF); (iterate 3 exact rfl)) | ((with_reducible apply R.regs); exact rfl) | ((with_reducible apply F.call0); exact rfl; exact rfl; (focus (repeat' (first | exact Evs.nil | (apply Evs.cons; exact rfl)))); exact rfl; (focus (first | exact hrl))) | ((first | (with_reducible apply R.cond) | ((with_reducible apply M.guard); exact rfl)); (focus (first | (refine Eq.trans (look_of rfl) ?_; first | (simp only [dtX, *, hlq] <;> rfl) | exact rfl) | exact look_of rfl))) | refine imp_yes rfl ?_ | exact imp_no rfl | with_reducible apply R.seq | ((with_reducible apply E.blkX); exact rfl) | ((first | ((with_reducible apply F.store); (iterate 4 exact rfl)) | ((with_reducible apply F.loadS); (iterate 3 exact rfl))); (focus (simp (disch := first | assumption | omega | (simp only [lnX]; omega)) only [LS, storeV, loadV, partV, partP, cut, over, mkAgg, allP, asP, V.cells, PC, elDiv, elMod, elDiv0, Nat.mul_mod_left, Int.toNat_zero, Int.reduceToNat, *, hlq] <;> rfl))) | (((with_reducible apply F.alloc); exact rfl; exact rfl); (focus (simp only [LS] <;> rfl)); (focus (simp only [LS] <;> rfl))) | (intro hc; (try rw [hc]); (try simp only [decide_eq_true_eq, decide_eq_false_iff_not, Bool.not_eq_eq_eq_not, Bool.not_true, Bool.not_false] at hc); (try (exfalso; omega))) | (((with_reducible apply E.rPc); exact rfl; exact rfl; (focus (exact look_of rfl)); exact rfl); (focus (simp (disch := first | assumption | omega | (simp only [lnX]; omega)) only [LS, storeV, loadV, partV, partP, cut, over, mkAgg, allP, asP, V.cells, PC, elDiv, elMod, elDiv0, Nat.mul_mod_left, Int.toNat_zero, Int.reduceToNat, *, hlq] <;> rfl))) | exact rfl
theorem nodup_lt : ∀ (n : Nat) (l : List Nat), l.Nodup → (∀ x ∈ l, x < n) → l.length ≤ n
  | 0, [], _, _ => by simp
  | 0, x :: l, _, h => by have := h x (by simp); omega
  | n + 1, l, hd, h => by
    have h1 : (l.erase n).Nodup := hd.erase n
    have h2 : ∀ x ∈ l.erase n, x < n := by
      intro x hx
      have hx' := (List.Nodup.mem_erase_iff hd).1 hx
      have := h x hx'.2
      have := hx'.1
      omega
    have h3 := nodup_lt n _ h1 h2
    have h4 := List.length_erase (a := n) (l := l)
    split at h4 <;> omega
structure StpOK (t : Tb) (args : Int) (s : Stp) : Prop where
  to : s.to < t.states.length
  var : ∀ x ∈ s.sets, 0 ≤ x.var ∧ x.var < t.vars.length
  val : ∀ x ∈ s.sets, (checkF x.value t.vars.length args).2 = 0
  dist : (s.sets.map (·.var)).Nodup
structure RlOK (t : Tb) (n : Nat) (r : Rl) : Prop where
  name : nameF r.name = true
  first : ∀ k z, k < n → t.rules[k]? = some z → z.name ≠ r.name
  args : 0 ≤ r.args ∧ r.args ≤ 4
  from_ : ∀ s ∈ r.from_, 0 ≤ s ∧ s < t.states.length
  dist : r.from_.Nodup
  g4 : r.guards.length ≤ 4
  code : ∀ g ∈ r.guards, 16 ≤ g.code ∧ g.code ≤ 63
  test : ∀ g ∈ r.guards, (checkF g.test t.vars.length r.args).2 = 0
  s1 : 1 ≤ r.steps.length
  s3 : r.steps.length ≤ 3
  steps : ∀ s ∈ r.steps, StpOK t r.args s
structure TbOK (t : Tb) : Prop where
  s1 : 1 ≤ t.states.length
  s8 : t.states.length ≤ 8
  sn : Named t.states
  v6 : t.vars.length ≤ 6
  vn : Named t.vars
  sl : t.start.length = t.vars.length
  sv : ∀ n ∈ t.start, -1099511627776 ≤ n ∧ n ≤ 1099511627776
  r12 : t.rules.length ≤ 12
  rules : ∀ (n : Nat) r, t.rules[n]? = some r → RlOK t n r
theorem namesG_ok : ∀ (l seen : List (List UInt8)), namesG seen l = (0, 0) → Named seen → Named (seen ++ l)
  | [], seen, _, hs => by rw [List.append_nil]; exact hs
  | s :: l, seen, h, hs => by
    rw [namesG] at h
    split at h
    · (have h := congrArg Prod.snd h; simp at h)
    · rename_i h1
      split at h
      · (have h := congrArg Prod.snd h; simp at h)
      · rename_i h2
        have := namesG_ok l (seen ++ [s]) h (by
          intro i w hw
          rw [List.getElem?_append] at hw
          split at hw
          · rename_i hi
            obtain ⟨a, b⟩ := hs i w hw
            refine ⟨a, fun k z hk hz => ?_⟩
            rw [List.getElem?_append_left (by omega)] at hz
            exact b k z hk hz
          · rename_i hi
            have e : i - seen.length = 0 := by
              rcases Nat.eq_zero_or_pos (i - seen.length) with e | e
              · exact e
              · rw [List.getElem?_eq_none (by simp; omega)] at hw; cases hw
            rw [e] at hw
            simp at hw
            subst hw
            refine ⟨by simpa using h1, fun k z hk hz => ?_⟩
            rw [List.getElem?_append_left (by omega)] at hz
            have h2 : seen.any (· == s) = false := by
              cases hq : seen.any (· == s) with
              | false => rfl
              | true => exact absurd hq h2
            rw [List.any_eq_false] at h2
            have := h2 z (List.mem_of_getElem? hz)
            cases hq : s == z with
            | false => rfl
            | true =>
              exfalso
              apply this
              have : s = z := by simpa using hq
              simp [this])
        rw [List.append_assoc] at this
        exact this
theorem fromG_ok (n : Int) : ∀ (l seen : List Int), fromG n seen l = (0, 0) → seen.Nodup → (∀ s ∈ seen, 0 ≤ s ∧ s < n) → (seen ++ l).Nodup ∧ ∀ s ∈ seen ++ l, 0 ≤ s ∧ s < n
  | [], seen, _, hd, hs => by rw [List.append_nil]; exact ⟨hd, hs⟩
  | s :: l, seen, h, hd, hs => by
    rw [fromG] at h
    split at h
    · (have h := congrArg Prod.snd h; simp at h)
    · rename_i h1
      split at h
      · (have h := congrArg Prod.snd h; simp at h)
      · rename_i h2
        have h2 : seen.any (fun w => decide (w = s)) = false := by
          cases hq : seen.any (fun w => decide (w = s)) with
          | false => rfl
          | true => exact absurd hq h2
        rw [List.any_eq_false] at h2
        have := fromG_ok n l (seen ++ [s]) h (by
          rw [List.nodup_append]
          refine ⟨hd, by simp, ?_⟩
          intro a ha b hb
          simp only [List.mem_singleton] at hb
          subst hb
          intro e
          exact h2 a ha (by simpa using e)) (by
          intro x hx
          rcases List.mem_append.1 hx with hx | hx
          · exact hs x hx
          · simp only [List.mem_singleton] at hx
            subst hx
            omega)
        rw [List.append_assoc] at this
        exact this
theorem guardsG_ok (vars args : Int) : ∀ (l : List Gd) (k : Nat), (guardsG vars args k l).2 = 0 → ∀ g ∈ l, 16 ≤ g.code ∧ g.code ≤ 63 ∧ (checkF g.test vars args).2 = 0
  | [], _, _ => fun g hg => by cases hg
  | g :: l, k, h => by
    rw [guardsG] at h
    split at h
    · cases h
    · rename_i h1
      split at h
      · rename_i h2; exact absurd h h2
      · rename_i h2
        intro z hz
        rcases List.mem_cons.1 hz with rfl | hz
        · exact ⟨by omega, by omega, by simpa using h2⟩
        · exact guardsG_ok vars args l (k + 1) h z hz
theorem setsG_ok (vars args : Int) : ∀ (l seen : List Sx), setsG vars args seen l = 0 → (seen.map (·.var)).Nodup → ((seen ++ l).map (·.var)).Nodup ∧ ∀ x ∈ l, 0 ≤ x.var ∧ x.var < vars ∧ (checkF x.value vars args).2 = 0
  | [], seen, _, hd => by rw [List.append_nil]; exact ⟨hd, fun x hx => by cases hx⟩
  | s :: l, seen, h, hd => by
    rw [setsG] at h
    split at h
    · cases h
    · rename_i h1
      split at h
      · cases h
      · rename_i h2
        split at h
        · rename_i h3; exact absurd h h3
        · rename_i h3
          have h2 : seen.any (fun w => decide (w.var = s.var)) = false := by simpa using h2
          rw [List.any_eq_false] at h2
          have := setsG_ok vars args l (seen ++ [s]) h (by
            rw [List.map_append, List.nodup_append]
            refine ⟨hd, by simp, ?_⟩
            intro a ha b hb
            simp only [List.map_cons, List.map_nil, List.mem_singleton] at hb
            subst hb
            obtain ⟨w, hw, rfl⟩ := List.mem_map.1 ha
            intro e
            exact h2 w hw (by simpa using e))
          rw [List.append_assoc] at this
          refine ⟨this.1, fun x hx => ?_⟩
          rcases List.mem_cons.1 hx with rfl | hx
          · exact ⟨by omega, by omega, by simpa using h3⟩
          · exact this.2 x hx
theorem stepsG_ok (states vars args : Int) : ∀ (l : List Stp) (k : Nat), (stepsG states vars args k l).2 = 0 → ∀ s ∈ l, s.to < states ∧ setsG vars args [] s.sets = 0
  | [], _, _ => fun g hg => by cases hg
  | g :: l, k, h => by
    rw [stepsG] at h
    split at h
    · cases h
    · rename_i h1
      split at h
      · rename_i h2; exact absurd h h2
      · rename_i h2
        intro z hz
        rcases List.mem_cons.1 hz with rfl | hz
        · exact ⟨by omega, by simpa using h2⟩
        · exact stepsG_ok states vars args l (k + 1) h z hz
theorem fromG_zero (n : Int) : ∀ (l seen : List Int), (fromG n seen l).2 = 0 → fromG n seen l = (0, 0)
  | [], seen, _ => rfl
  | s :: l, seen, h => by
    rw [fromG] at h ⊢
    split
    · rename_i h1; rw [if_pos h1] at h; cases h
    · rename_i h1
      rw [if_neg h1] at h
      split
      · rename_i h2; rw [if_pos h2] at h; cases h
      · rename_i h2
        rw [if_neg h2] at h
        exact fromG_zero n l _ h
theorem ruleF_ok {t : Tb} {n : Nat} {r : Rl} (h : ruleF t n r = (0, 0, 0, 0)) : RlOK t n r := by
  unfold ruleF at h
  split at h
  · cases h
  rename_i h1
  split at h
  · cases h
  rename_i h2
  split at h
  · cases h
  rename_i h3
  split at h
  · rename_i h4; exact absurd (congrArg Prod.fst h) h4
  rename_i h4
  split at h
  · rename_i h5; exact absurd (congrArg Prod.fst h) h5
  rename_i h5
  split at h
  · rename_i h6; exact absurd (congrArg Prod.fst h) h6
  rename_i h6
  have h4 : (fromG t.states.length [] r.from_).2 = 0 := by simpa using h4
  have h5 : (guardsF t.vars.length r.args r.guards).2 = 0 := by simpa using h5
  have h6 : (stepsF t.states.length t.vars.length r.args r.steps).2 = 0 := by simpa using h6
  have hf := fromG_ok t.states.length r.from_ [] (fromG_zero _ _ _ h4) List.nodup_nil (fun s hs => by cases hs)
  rw [List.nil_append] at hf
  unfold guardsF at h5
  split at h5
  · cases h5
  rename_i g4
  have hg := guardsG_ok _ _ _ _ h5
  unfold stepsF at h6
  split at h6
  · cases h6
  rename_i s0
  split at h6
  · cases h6
  rename_i s3
  have hs := stepsG_ok _ _ _ _ _ h6
  refine ⟨by simpa using h1, fun k z hk hz e => h2 (any_at hk hz (by simpa using e)), by omega, hf.2, hf.1, by omega, fun g hg' => ⟨(hg g hg').1, (hg g hg').2.1⟩, fun g hg' => (hg g hg').2.2, by omega, by omega, fun s hs' => ?_⟩
  obtain ⟨a, b⟩ := hs s hs'
  have := setsG_ok _ _ s.sets [] b (by simp)
  rw [List.nil_append] at this
  exact ⟨a, fun x hx => ⟨(this.2 x hx).1, (this.2 x hx).2.1⟩, fun x hx => (this.2 x hx).2.2, this.1⟩
theorem rulesG_ok {t : Tb} : ∀ (l : List Rl) (k : Nat), rulesG t k l = (0, 0, 0, 0) → ∀ (i : Nat) r, l[i]? = some r → ruleF t (k + i) r = (0, 0, 0, 0)
  | [], k, _, i, r, h => by simp at h
  | r0 :: l, k, h, i, r, hr => by
    rw [rulesG] at h
    split at h
    · rename_i h0
      cases i with
      | zero => simp at hr; subst hr; exact h0
      | succ i =>
        simp only [List.getElem?_cons_succ] at hr
        have := rulesG_ok l (k + 1) h i r hr
        rw [show k + 1 + i = k + (i + 1) by omega] at this
        exact this
    · rename_i h0; exact absurd h h0
theorem startG_ok : ∀ (l : List Int) (k : Nat), startG k l = none → ∀ n ∈ l, valueF n = true
  | [], k, _, n, hn => by cases hn
  | m :: l, k, h, n, hn => by
    rw [startG] at h
    split at h
    · cases h
    · rename_i h0
      rcases List.mem_cons.1 hn with rfl | hn
      · simpa using h0
      · exact startG_ok l (k + 1) h n hn
theorem checkT_ok {t : Tb} (h : (checkT t).1 = 0) : TbOK t := by
  have h : checkT t = (0, 0, 0, 0) := by
    unfold checkT at h ⊢
    have he := tableF_e t
    have hz : ∀ (l : List Rl) (k : Nat), (rulesG t k l).1 = 0 → rulesG t k l = (0, 0, 0, 0) := by
      intro l
      induction l with
      | nil => intro k _; rfl
      | cons r l ih =>
        intro k h
        rw [rulesG] at h ⊢
        split
        · rename_i h0; rw [if_pos h0] at h; exact ih _ h
        · rename_i h0
          rw [if_neg h0] at h
          rcases ruleF_e t k r with e | e
          · exact e
          · exact absurd h e
    split
    · rename_i h0; rw [if_pos h0] at h; exact hz _ _ h
    · rename_i h0
      rw [if_neg h0] at h
      rcases he with e | e
      · exact absurd e h0
      · exact absurd h e
  unfold checkT at h
  split at h
  · rename_i h0
    unfold tableF at h0
    split at h0
    · cases h0
    rename_i a1
    split at h0
    · rename_i a2; exact absurd (congrArg Prod.fst h0) a2
    rename_i a2
    split at h0
    · rename_i a3; exact absurd (congrArg Prod.fst h0) a3
    rename_i a3
    split at h0
    · cases h0
    rename_i a4
    have a2 : (namesF t.states 8).2 = 0 := by simpa using a2
    have a3 : (namesF t.vars 6).2 = 0 := by simpa using a3
    have hn : ∀ (l : List (List UInt8)) (m : Nat), (namesF l m).2 = 0 → l.length ≤ m ∧ Named l := by
      intro l m h
      have h := namesF_zero h
      unfold namesF at h
      split at h
      · cases h
      · refine ⟨by omega, ?_⟩
        have := namesG_ok l [] h (fun i s hs => by simp at hs)
        exact this
    obtain ⟨s8, sn⟩ := hn _ _ a2
    obtain ⟨v6, vn⟩ := hn _ _ a3
    split at h0
    · cases h0
    rename_i a5
    split at h0
    · cases h0
    rename_i a6
    refine ⟨?_, s8, sn, v6, vn, by simpa using a4, fun n hn' => ?_, by omega, fun n r hr => ?_⟩
    · rcases Nat.eq_zero_or_pos t.states.length with e | e
      · exact absurd ⟨a2, e⟩ a1
      · exact e
    · have := startG_ok _ _ a5 n hn'
      simpa [valueF] using this
    · have := rulesG_ok _ _ h n r hr
      rw [Nat.zero_add] at this
      exact ruleF_ok this
  · rename_i h0; exact absurd h h0
noncomputable def fi37 : FnI := { body := (Tryd.f37.body).getD .skip, ntmps := 28, results := Tryd.f37.results.toList, hints := [] }
theorem cxF37 : cx.F 37 = some fi37 := by kernel_rfl
noncomputable def fi43 : FnI := { body := (Tryd.f43.body).getD .skip, ntmps := 11, results := Tryd.f43.results.toList, hints := [] }
theorem cxF43 : cx.F 43 = some fi43 := by kernel_rfl
noncomputable def fi36 : FnI := { body := (Tryd.f36.body).getD .skip, ntmps := 44, results := Tryd.f36.results.toList, hints := [(1, { live := some [0, 17, 18, 19] }), (5, { live := some [0, 17, 18, 19] })] }
theorem cxF36 : cx.F 36 = some fi36 := by kernel_rfl
def numT (n : Int) : List UInt8 := if n < 0 then 45 :: dec (-n).toNat else dec n.toNat
theorem tdigits_nat (n : Nat) (hn : n < 9223372036854775808) : PV cx 37 [.p (.int .i64 n)] (.str (dec n)) := by
  induction n using Nat.strongRecOn with
  | _ n ih =>
    refine PV.run cxF37 rfl ?_
    simp only [args0, Nat.zero_add, Nat.reduceAdd]
    by_cases h : (n : Int) < 10
    · have e : dec n = [UInt8.ofNat (48 + (n : Int)).toNat] := by
        unfold dec
        rw [if_pos (by omega)]
        have : (48 + (n : Int)).toNat = 48 + n := by omega
        rw [this]
      rw [e]
      repeat' first | (with_reducible first | apply M.free | apply M.done | apply E.seqR | apply E.blkR | apply R.ret) | ((with_reducible first | apply F.move | apply F.assign); exact rfl; exact rfl) | ((with_reducible apply F.cmp); (iterate 4 exact rfl)) | (((with_reducible apply F.add); (iterate 3 exact rfl)); (focus (first | omega | (simp only [lnX]; omega)))) | ((with_reducible apply R.regs); exact rfl) | ((first | (with_reducible apply R.cond) | ((with_reducible apply M.guard); exact rfl)); (focus (first | (refine Eq.trans (look_of rfl) ?_; first | (simp only [dtX, *] <;> rfl) | exact rfl) | exact look_of rfl))) | refine imp_yes rfl ?_ | exact imp_no rfl | with_reducible apply R.seq | with_reducible apply R.block | (((with_reducible apply F.buildSlice); exact rfl; exact rfl; (focus (repeat' (first | exact Prs.nil | (apply Prs.cons; exact rfl))))); (focus (simp (disch := first | assumption | omega | (simp only [lnX]; omega)) only [LS, buildV, fillV, over, buildSliceV, elemsOf, appendV, elems, arrAt, cut, roomy, mkAgg, allP, asP, V.cells, PC, Int.toNat_zero, Int.reduceToNat, *] <;> rfl))) | (((with_reducible apply F.convert); (iterate 4 exact rfl)); (focus (simp (disch := first | assumption | omega | (simp only [lnX]; omega)) only [LS, indexAddrV, indexV, below_at, fieldV, fieldAddrV, convP, bytesOf, sliceV, bounds, bMax, bHi, bLo, upTo_at, makeFuncV, partV, partP, cut, binI, binS, binV, binP, arith, strOp_add, strOp_eql, strOp_neq, eqn, wrap64, wrap8, mkAgg, allP, asP, Option.getD_none, Int.toNat_zero, Int.reduceToNat, *] <;> rfl))) | (((with_reducible apply E.rP1); exact rfl; exact rfl; (focus (exact look_of rfl)))) | refine R.regs rfl ?_ | exact rfl
    · have hr := (ih (n / 10) (by omega) (by omega)).fv
      have e : dec n = dec (n / 10) ++ [UInt8.ofNat (48 + ((n % 10 : Nat) : Int)).toNat] := by
        rw [dec, if_neg (by omega)]
        have : (48 + ((n % 10 : Nat) : Int)).toNat = 48 + n % 10 := by omega
        rw [this]
      rw [e]
      have hl := dec_20 (show n / 10 < 9223372036854775808 by omega)
      have e1 : (n : Int).tdiv 10 = ((n / 10 : Nat) : Int) := rfl
      have e2 : (n : Int).tmod 10 = ((n % 10 : Nat) : Int) := rfl
      have z : ¬ (10 : Int) = 0 := by decide
      clear ih e
      repeat' first | (with_reducible first | apply M.free | apply M.done | apply E.seqN | apply E.blkN | apply R.skip | apply R.ret) | ((with_reducible first | apply F.move | apply F.assign); exact rfl; exact rfl) | ((with_reducible apply F.cmp); (iterate 4 exact rfl)) | ((first | ((with_reducible apply F.add); (iterate 3 exact rfl)) | ((with_reducible apply F.adds); (iterate 3 exact rfl))); (focus (first | omega | (simp only [lnX]; omega)))) | ((with_reducible apply R.regs); exact rfl) | ((with_reducible apply F.call0); exact rfl; exact rfl; (focus (repeat' (first | exact Evs.nil | (apply Evs.cons; exact rfl)))); exact rfl; (focus (first | exact hr))) | ((first | (with_reducible apply R.cond) | ((with_reducible apply M.guard); exact rfl)); (focus (first | (refine Eq.trans (look_of rfl) ?_; first | (simp only [dtX, *, e1, e2, z] <;> rfl) | exact rfl) | exact look_of rfl))) | refine imp_yes rfl ?_ | exact imp_no rfl | with_reducible apply R.seq | with_reducible apply R.block | (((with_reducible apply F.buildSlice); exact rfl; exact rfl; (focus (repeat' (first | exact Prs.nil | (apply Prs.cons; exact rfl))))); (focus (simp (disch := first | assumption | omega | (simp only [lnX]; omega)) only [LS, buildV, fillV, over, buildSliceV, elemsOf, appendV, elems, arrAt, cut, roomy, mkAgg, allP, asP, V.cells, PC, Int.toNat_zero, Int.reduceToNat, *, e1, e2, z] <;> rfl))) | ((first | ((with_reducible apply F.convert); (iterate 4 exact rfl)) | ((with_reducible apply F.bin); (iterate 4 exact rfl))); (focus (simp (disch := first | assumption | omega | (simp only [lnX]; omega)) only [LS, indexAddrV, indexV, below_at, fieldV, fieldAddrV, convP, bytesOf, sliceV, bounds, bMax, bHi, bLo, upTo_at, makeFuncV, partV, partP, cut, binI, binS, binV, binP, arith, strOp_add, strOp_eql, strOp_neq, eqn, wrap64, wrap8, mkAgg, allP, asP, Option.getD_none, Int.toNat_zero, Int.reduceToNat, *, e1, e2, z] <;> rfl))) | (((with_reducible apply E.rP1); exact rfl; exact rfl; (focus (exact look_of rfl)))) | refine R.regs rfl ?_ | exact rfl
theorem tdigits_run (n : Int) (h1 : -9223372036854775808 < n) (h2 : n < 9223372036854775808) : PV cx 37 [.p (.int .i64 n)] (.str (numT n)) := by
  by_cases h : n < 0
  · have hd := (tdigits_nat (-n).toNat (by omega)).fv
    have e : (0 : Int) - n = ((-n).toNat : Int) := by omega
    have hlen := dec_20 (n := (-n).toNat) (by omega)
    have e2 : numT n = 45 :: dec (-n).toNat := by rw [numT, if_pos h]
    rw [e2]
    generalize dec (-n).toNat = s at *
    refine PV.run cxF37 rfl ?_
    simp only [args0, Nat.zero_add, Nat.reduceAdd]
    rw [← e] at hd
    clear e e2
    repeat' first | (with_reducible first | apply M.free | apply M.done | apply E.seqR | apply E.blkR | apply R.ret) | ((with_reducible first | apply F.move | apply F.assign); exact rfl; exact rfl) | ((with_reducible apply F.cmp); (iterate 4 exact rfl)) | ((first | ((with_reducible apply F.adds); (iterate 3 exact rfl)) | ((with_reducible apply F.neg); exact rfl; exact rfl)); (focus (first | omega | (simp only [lnX]; omega)))) | ((with_reducible apply R.regs); exact rfl) | ((with_reducible apply F.call0); exact rfl; exact rfl; (focus (repeat' (first | exact Evs.nil | (apply Evs.cons; exact rfl)))); exact rfl; (focus (first | exact hd))) | ((first | (with_reducible apply R.cond) | ((with_reducible apply M.guard); exact rfl)); (focus (first | (refine Eq.trans (look_of rfl) ?_; first | (simp only [dtX, *] <;> rfl) | exact rfl) | exact look_of rfl))) | refine imp_yes rfl ?_ | exact imp_no rfl | with_reducible apply R.seq | with_reducible apply R.block | (((with_reducible apply E.rP1); exact rfl; exact rfl; (focus (exact look_of rfl)))) | refine R.regs rfl ?_ | exact rfl
  · have := tdigits_nat n.toNat (by omega)
    rw [show ((n.toNat : Nat) : Int) = n by omega] at this
    rw [numT, if_neg h]
    exact this
theorem number_run (n : Int) (h1 : -9223372036854775808 < n) (h2 : n < 9223372036854775808) : PV cx 43 [.p (.int .i64 n)] (.str (numT n)) := by
  refine PV.run cxF43 rfl ?_
  simp only [args0, Nat.zero_add, Nat.reduceAdd]
  by_cases h : n < 0
  · have hd := (Digits_run (-n).toNat (by omega)).fv
    have e : (0 : Int) - n = ((-n).toNat : Int) := by omega
    have hlen := dec_20 (n := (-n).toNat) (by omega)
    have e2 : numT n = 45 :: dec (-n).toNat := by rw [numT, if_pos h]
    rw [e2]
    generalize dec (-n).toNat = s at *
    rw [← e] at hd
    clear e e2
    repeat' first | (with_reducible first | apply M.free | apply M.done | apply E.seqR | apply R.ret) | ((with_reducible first | apply F.move | apply F.assign); exact rfl; exact rfl) | ((with_reducible apply F.cmp); (iterate 4 exact rfl)) | ((first | ((with_reducible apply F.adds); (iterate 3 exact rfl)) | ((with_reducible apply F.neg); exact rfl; exact rfl)); (focus (first | omega | (simp only [lnX]; omega)))) | ((with_reducible apply R.regs); exact rfl) | ((with_reducible apply F.call0); exact rfl; exact rfl; (focus (repeat' (first | exact Evs.nil | (apply Evs.cons; exact rfl)))); exact rfl; (focus (first | exact hd))) | ((first | (with_reducible apply R.cond) | ((with_reducible apply M.guard); exact rfl)); (focus (first | (refine Eq.trans (look_of rfl) ?_; first | (simp only [dtX, *] <;> rfl) | exact rfl) | exact look_of rfl))) | refine imp_yes rfl ?_ | exact imp_no rfl | with_reducible apply R.seq | (((with_reducible apply E.rP1); exact rfl; exact rfl; (focus (exact look_of rfl)))) | refine R.regs rfl ?_ | exact rfl
  · have hd := (Digits_run n.toNat (by omega)).fv
    have e2 : numT n = dec n.toNat := by rw [numT, if_neg h]
    rw [e2]
    generalize dec n.toNat = s at *
    rw [show ((n.toNat : Nat) : Int) = n by omega] at hd
    repeat' first | (with_reducible first | apply M.free | apply M.done | apply E.seqN | apply R.skip | apply R.ret) | ((with_reducible first | apply F.move | apply F.assign); exact rfl; exact rfl) | ((with_reducible apply F.cmp); (iterate 4 exact rfl)) | ((with_reducible apply R.regs); exact rfl) | ((with_reducible apply F.call0); exact rfl; exact rfl; (focus (repeat' (first | exact Evs.nil | (apply Evs.cons; exact rfl)))); exact rfl; (focus (first | exact hd))) | ((first | (with_reducible apply R.cond) | ((with_reducible apply M.guard); exact rfl)); (focus (first | (refine Eq.trans (look_of rfl) ?_; first | (simp only [dtX, *] <;> rfl) | exact rfl) | exact look_of rfl))) | refine imp_yes rfl ?_ | exact imp_no rfl | with_reducible apply R.seq | (((with_reducible apply E.rP1); exact rfl; exact rfl; (focus (exact look_of rfl)))) | refine R.regs rfl ?_ | exact rfl
def byt (s : List UInt8) : List V := (toBytes s).map .p
theorem byt_len (s : List UInt8) : (byt s).length = s.length := by simp [byt, toBytes]
theorem byt_app (s t : List UInt8) : byt (s ++ t) = byt s ++ byt t := by simp [byt, toBytes]
theorem byt_all (s : List UInt8) : ((byt s).all fun e => Nat.beq e.cells.length 1) = true := by
  rw [List.all_eq_true]
  intro v hv
  simp only [byt, toBytes, List.map_map, List.mem_map] at hv
  obtain ⟨b, _, rfl⟩ := hv
  rfl
def vOf (v : Nat) : List UInt8 → Nat
  | [] => v
  | _ :: _ => v + 1
theorem app_bytes {e size : Nat} {ag u agg : Bool} {zero : List Pv} {zv : Option Pv} {eq : Option (List Nat)} {H : Hp} {id ver : Nat} {bs new : List UInt8} {x : V} (hx : x = .p (.str new) ∨ ∃ ex, x = .p (.sl 1 ex (toBytes new)))
    (hH : H[id]? = some (.arr ver 0 1 (byt bs))) (hn : bs.length + new.length ≤ 1000000000) :
    appendV ⟨.slice e 1 1 ag u, size, agg, zero, zv, eq⟩ H (.arr id ver 1 0 bs.length) x = some (.arr id (vOf ver new) 1 0 (bs ++ new).length, H.set id (.arr (vOf ver new) 0 1 (byt (bs ++ new)))) := by
  cases new with
  | nil =>
    show _ = some (V.arr id ver 1 0 (bs ++ []).length, H.set id (.arr ver 0 1 (byt (bs ++ []))))
    have e1 : H.set id (.arr ver 0 1 (byt (bs ++ []))) = H := by
      rw [List.append_nil]
      obtain ⟨hl, he⟩ := List.getElem?_eq_some_iff.1 hH
      rw [← he]
      exact List.set_getElem_self hl
    rw [e1, List.append_nil]
    rcases hx with rfl | ⟨ex, rfl⟩ <;> rfl
  | cons a m =>
    show _ = some (V.arr id (ver + 1) 1 0 (bs ++ a :: m).length, H.set id (.arr (ver + 1) 0 1 (byt (bs ++ a :: m))))
    have h1 := byt_all (a :: m)
    have hc : cut (byt bs) 0 bs.length = some (byt bs) := cut_all (byt_len bs).symm
    have hb : byt (a :: m) = .p (.int .u8 a.toNat) :: byt m := rfl
    have hr : roomy (bs.length + (byt (a :: m)).length) 1 = true := roomy_t (by rw [byt_len]; exact hn) (by decide)
    have h2 : (toBytes (a :: m)).map V.p = .p (.int .u8 a.toNat) :: byt m := rfl
    rw [hb] at h1 hr
    rw [byt_app, hb, List.length_append]
    rcases hx with rfl | ⟨ex, rfl⟩
    · simp only [appendV, h2, h1, show Nat.blt 0 1 = true from rfl, Bool.and_true, arrAt, hH, Nat.beq_refl, hc, Nat.zero_add, ble_t (Nat.zero_le bs.length), hr, Nat.sub_zero]
      simp only [List.length_cons, byt_len]
    · simp only [appendV, elems, h2, h1, show Nat.blt 0 1 = true from rfl, Bool.and_true, arrAt, hH, Nat.beq_refl, hc, Nat.zero_add, ble_t (Nat.zero_le bs.length), hr, Nat.sub_zero]
      simp only [List.length_cons, byt_len]
theorem app_first {e size : Nat} {ag u agg : Bool} {zero : List Pv} {zv : Option Pv} {eq : Option (List Nat)} {H : Hp} {new : List UInt8} (h0 : new ≠ []) (hn : new.length ≤ 1000000000) :
    appendV ⟨.slice e 1 1 ag u, size, agg, zero, zv, eq⟩ H (.p .nils) (.p (.str new)) = some (.arr H.length 0 1 0 new.length, H ++ [.arr 0 0 1 (byt new)]) := by
  cases new with
  | nil => exact absurd rfl h0
  | cons a m =>
    have h1 := byt_all (a :: m)
    have hb : byt (a :: m) = .p (.int .u8 a.toNat) :: byt m := rfl
    have hr : roomy (byt (a :: m)).length 1 = true := roomy_t (by rw [byt_len]; exact hn) (by decide)
    have h2 : (toBytes (a :: m)).map V.p = .p (.int .u8 a.toNat) :: byt m := rfl
    rw [hb] at h1 hr
    rw [hb]
    simp only [appendV, h2, h1, show Nat.blt 0 1 = true from rfl, Bool.and_true, hr]
    simp only [List.length_cons, byt_len]
def Hw (f0 : Ob) (bs : List UInt8) (ver : Nat) (rest : Hp) : Hp := f0 :: .box 0 [.arr 2 ver 1 0 bs.length] :: .arr ver 0 1 (byt bs) :: rest
def moreF (l : List (List UInt8)) : List UInt8 := (l.map (fun s => 32 :: s)).flatten
def lineF (first : List UInt8) (l : List (List UInt8)) : List UInt8 := first ++ moreF l ++ [10]
def verM (v : Nat) (l : List (List UInt8)) : Nat := l.foldl (fun v s => vOf (v + 1) s) v
theorem more_len (l : List (List UInt8)) (i : Nat) : (moreF (l.take i)).length ≤ (moreF l).length := by
  have : moreF l = moreF (l.take i) ++ moreF (l.drop i) := by
    simp only [moreF, ← List.flatten_append, ← List.map_append, List.take_append_drop]
  rw [this, List.length_append]
  omega
theorem more_step {l : List (List UInt8)} {i : Nat} {s : List UInt8} (h : l[i]? = some s) : moreF (l.take (i + 1)) = moreF (l.take i) ++ [32] ++ s := by
  simp [moreF, List.take_add_one, h]
theorem ver_step {l : List (List UInt8)} {i v : Nat} {s : List UInt8} (h : l[i]? = some s) : verM v (l.take (i + 1)) = vOf (verM v (l.take i) + 1) s := by
  simp [verM, List.take_add_one, h]
theorem put_run (f0 : Ob) (first : List UInt8) (x : Pv) (hx : IsL 1 x) (l : List (List UInt8)) (hl : elemsP x = l.map .str) (bs : List UInt8) (ver : Nat) (rest : Hp) (hB : (bs ++ lineF first l).length ≤ 1000000000) (hlB : l.length ≤ 1000000000) :
    CV cx 36 [.ptr 1 0 0, .p (.str first), .p x] (Hw f0 bs ver rest) (.p (.tup [])) (Hw f0 (bs ++ lineF first l) (verM (vOf ver first) l + 1) rest) := by
  have hB : bs.length + first.length + (moreF l).length + 1 ≤ 1000000000 := by
    simp only [lineF, List.length_append, List.length_cons, List.length_nil] at hB
    omega
  have app := fun (id ver : Nat) (bs new : List UInt8) (x : V) (H : Hp) hx hH hn => app_bytes (e := 5) (size := 1) (ag := false) (u := true) (agg := false) (zero := [.nils]) (zv := some .nils) (eq := none) (H := H) (id := id) (ver := ver) (bs := bs) (new := new) (x := x) hx hH hn
  refine CV.run cxF36 rfl ?_
  simp only [args0, Nat.zero_add, Nat.reduceAdd]
  have h1 := app 2 ver bs first (.p (.str first)) (Hw f0 bs ver rest) (.inl rfl) rfl (by omega)
  have e9 : bs ++ lineF first l = bs ++ first ++ moreF l ++ [10] := by simp [lineF]
  rw [e9]
  simp only [Hw] at h1 ⊢
  repeat' first | (with_reducible first | apply M.free | apply M.done) | ((with_reducible apply F.move); exact rfl; exact rfl) | ((with_reducible first | apply F.load | apply F.fieldAddr | apply F.nilCheck); (iterate 3 exact rfl)) | ((with_reducible apply R.regsL); exact rfl) | ((with_reducible apply Lv.of); (focus (repeat' (first | exact Kp.nil | (apply Kp.cons; exact rfl))))) | with_reducible apply R.seq | with_reducible apply R.block | ((with_reducible apply F.append); (iterate 8 exact rfl); (focus (refine Eq.trans h1 ?_; simp only [List.set_cons_zero, List.set_cons_succ]; rfl))) | (((with_reducible apply F.store); (iterate 4 exact rfl)); (focus (simp (disch := first | assumption | omega | (simp only [lnX]; omega)) only [LS, storeV, loadV, partV, partP, cut, over, mkAgg, allP, asP, V.cells, PC, elDiv, elMod, elDiv0, Nat.mul_mod_left, Int.toNat_zero, Int.reduceToNat, *, hl, List.length_map] <;> rfl))) | (((with_reducible apply F.len); (iterate 3 exact rfl)); (focus (simp (disch := first | assumption | omega | (simp only [lnX]; omega)) only [LS, lenV_L, idx_L, below_at, Int.toNat_zero, Int.reduceToNat, *, hl, List.length_map] <;> rfl))) | refine R.regs rfl ?_
  refine R.loop (fun m e H => ∃ i : Nat, e = [(0,.ptr 1 0 0),(17,.p x),(18,.p (.int .i64 l.length)),(19,.p (.int .i64 i))] ∧ H = Hw f0 (bs ++ first ++ moreF (l.take i)) (verM (vOf ver first) (l.take i)) rest ∧ i ≤ l.length ∧ m = l.length - i) l.length ⟨0, rfl, by simp [Hw, moreF, verM], by omega, rfl⟩ ?_
  rintro m e H ⟨i, rfl, rfl, h2, rfl⟩
  have hlm := more_len l i
  by_cases hi : i = l.length
  · subst hi
    rw [List.take_length]
    have h3 := app 2 (verM (vOf ver first) l) (bs ++ first ++ moreF l) [10] (.p (.sl 1 true (toBytes [10]))) (Hw f0 (bs ++ first ++ moreF l) (verM (vOf ver first) l) rest) (.inr ⟨true, rfl⟩) rfl (by simp only [List.length_append, List.length_cons, List.length_nil]; omega)
    rw [show vOf (verM (vOf ver first) l) [10] = verM (vOf ver first) l + 1 from rfl] at h3
    simp only [Hw] at h3 ⊢
    generalize bs ++ first ++ moreF l = b at *
    generalize verM (vOf ver first) l = v at *
    clear h1 app
    repeat' first | (with_reducible first | apply M.free | apply M.done | apply E.seqN | apply E.seqX | apply R.exit) | ((with_reducible apply F.move); exact rfl; exact rfl) | ((with_reducible first | apply F.load | apply F.fieldAddr | apply F.nilCheck); (iterate 3 exact rfl)) | ((with_reducible apply F.cmp); (iterate 4 exact rfl)) | ((with_reducible apply R.regs); exact rfl) | ((first | (with_reducible apply R.cond) | ((with_reducible apply M.guard); exact rfl)); (focus (first | (refine Eq.trans (look_of rfl) ?_; first | (simp only [dtX, *, hl, List.length_map] <;> rfl) | exact rfl) | exact look_of rfl))) | with_reducible apply R.seq | ((with_reducible apply R.region); exact rfl) | ((with_reducible apply E.blkX); exact rfl) | ((with_reducible apply F.append); (iterate 8 exact rfl); (focus (refine Eq.trans h3 ?_; simp only [List.set_cons_zero, List.set_cons_succ]; rfl))) | (((with_reducible apply F.store); (iterate 4 exact rfl)); (focus (simp (disch := first | assumption | omega | (simp only [lnX]; omega)) only [LS, storeV, loadV, partV, partP, cut, over, mkAgg, allP, asP, V.cells, PC, elDiv, elMod, elDiv0, Nat.mul_mod_left, Int.toNat_zero, Int.reduceToNat, *, hl, List.length_map] <;> rfl))) | (((with_reducible apply F.buildSlice); exact rfl; exact rfl; (focus (repeat' (first | exact Prs.nil | (apply Prs.cons; exact rfl))))); (focus (simp (disch := first | assumption | omega | (simp only [lnX]; omega)) only [LS, buildV, fillV, over, buildSliceV, elemsOf, appendV, elems, arrAt, cut, roomy, mkAgg, allP, asP, V.cells, PC, Int.toNat_zero, Int.reduceToNat, *, hl, List.length_map] <;> rfl))) | (intro hc; (try rw [hc]); (try simp only [decide_eq_true_eq, decide_eq_false_iff_not, Bool.not_eq_eq_eq_not, Bool.not_true, Bool.not_false] at hc); (try (exfalso; omega))) | ((with_reducible apply E.r0); exact rfl; exact rfl) | exact rfl
  obtain ⟨s, hg⟩ := at_some (show i < l.length by omega)
  have hil : i < l.length := by omega
  have hlm2 := more_len l (i + 1)
  have hnx := more_step hg
  have hvx := ver_step (v := vOf ver first) hg
  rw [hnx] at hlm2
  simp only [List.length_append, List.length_cons, List.length_nil] at hlm2
  have h3 := app 2 (verM (vOf ver first) (l.take i)) (bs ++ first ++ moreF (l.take i)) [32] (.p (.sl 1 true (toBytes [32]))) (Hw f0 (bs ++ first ++ moreF (l.take i)) (verM (vOf ver first) (l.take i)) rest) (.inr ⟨true, rfl⟩) rfl (by simp only [List.length_append, List.length_cons, List.length_nil]; omega)
  have h4 := app 2 (verM (vOf ver first) (l.take i) + 1) (bs ++ first ++ moreF (l.take i) ++ [32]) s (.p (.str s)) (f0 :: .box 0 [.arr 2 (verM (vOf ver first) (l.take i)) 1 0 (bs ++ first ++ moreF (l.take i)).length] :: .arr (verM (vOf ver first) (l.take i) + 1) 0 1 (byt (bs ++ first ++ moreF (l.take i) ++ [32])) :: rest) (.inl rfl) rfl (by simp only [List.length_append, List.length_cons, List.length_nil]; omega)
  have hend : Hw f0 (bs ++ first ++ moreF (l.take i) ++ [32] ++ s) (vOf (verM (vOf ver first) (l.take i) + 1) s) rest = Hw f0 (bs ++ first ++ moreF (l.take (i + 1))) (verM (vOf ver first) (l.take (i + 1))) rest := by
    rw [hnx, hvx]
    simp only [List.append_assoc]
  rw [show vOf (verM (vOf ver first) (l.take i)) [32] = verM (vOf ver first) (l.take i) + 1 from rfl] at h3
  simp only [Hw] at h3 h4 hend ⊢
  generalize bs ++ first ++ moreF (l.take i) = b at *
  generalize verM (vOf ver first) (l.take i) = v at *
  clear h1 app hnx hvx
  repeat' first | (with_reducible first | apply M.free | apply M.done | apply E.seqN | apply E.blkN | apply R.skip) | ((with_reducible first | apply F.move | apply F.assign); exact rfl; exact rfl) | ((with_reducible first | apply F.load | apply F.fieldAddr | apply F.nilCheck); (iterate 3 exact rfl)) | ((with_reducible apply F.cmp); (iterate 4 exact rfl)) | (((with_reducible apply F.add); (iterate 3 exact rfl)); (focus (first | omega | (simp only [lnX]; omega)))) | ((with_reducible apply R.regs); exact rfl) | ((with_reducible apply Lv.of); (focus (repeat' (first | exact Kp.nil | (apply Kp.cons; exact rfl))))) | ((first | (with_reducible apply R.cond) | ((with_reducible apply M.guard); exact rfl)); (focus (first | (refine Eq.trans (look_of rfl) ?_; first | (simp only [dtX, *, hl, hg, List.length_map, List.getElem?_map] <;> rfl) | exact rfl) | exact look_of rfl))) | with_reducible apply R.seq | ((with_reducible apply R.region); exact rfl) | ((with_reducible apply R.regionL); exact rfl) | with_reducible apply R.block | ((with_reducible apply F.append); (iterate 8 exact rfl); (focus (first | (refine Eq.trans h3 ?_; simp only [List.set_cons_zero, List.set_cons_succ]; rfl) | (refine Eq.trans h4 ?_; simp only [List.set_cons_zero, List.set_cons_succ]; rfl)))) | (((with_reducible apply F.store); (iterate 4 exact rfl)); (focus (simp (disch := first | assumption | omega | (simp only [lnX]; omega)) only [LS, storeV, loadV, partV, partP, cut, over, mkAgg, allP, asP, V.cells, PC, elDiv, elMod, elDiv0, Nat.mul_mod_left, Int.toNat_zero, Int.reduceToNat, *, hl, hg, List.length_map, List.getElem?_map] <;> rfl))) | (((with_reducible apply F.buildSlice); exact rfl; exact rfl; (focus (repeat' (first | exact Prs.nil | (apply Prs.cons; exact rfl))))); (focus (simp (disch := first | assumption | omega | (simp only [lnX]; omega)) only [LS, buildV, fillV, over, buildSliceV, elemsOf, appendV, elems, arrAt, cut, roomy, mkAgg, allP, asP, V.cells, PC, Int.toNat_zero, Int.reduceToNat, *, hl, hg, List.length_map, List.getElem?_map] <;> rfl))) | (((with_reducible apply F.indexAddr); (iterate 4 exact rfl)); (focus (simp (disch := first | assumption | omega | (simp only [lnX]; omega)) only [LS, lenV_L, idx_L, below_at, Int.toNat_zero, Int.reduceToNat, *, hl, hg, List.length_map, List.getElem?_map] <;> rfl))) | (intro hc; (try rw [hc]); (try simp only [decide_eq_true_eq, decide_eq_false_iff_not, Bool.not_eq_eq_eq_not, Bool.not_true, Bool.not_false] at hc); (try (exfalso; omega)))
  all_goals first
    | exact ⟨l.length - (i + 1), by omega, i + 1, rfl, rfl, by omega, rfl⟩
    | exact ⟨l.length - (i + 1), by omega, i + 1, rfl, hend, by omega, rfl⟩
    | trace_state
theorem put_first (f0 : Ob) (first : List UInt8) (h0 : first ≠ []) (x : Pv) (hx : IsL 1 x) (l : List (List UInt8)) (hl : elemsP x = l.map .str) (hB : (lineF first l).length ≤ 1000000000) (hlB : l.length ≤ 1000000000) :
    CV cx 36 [.ptr 1 0 0, .p (.str first), .p x] [f0, .box 0 [.p .nils]] (.p (.tup [])) (Hw f0 (lineF first l) (verM 0 l + 1) []) := by
  have hB : first.length + (moreF l).length + 1 ≤ 1000000000 := by
    simp only [lineF, List.length_append, List.length_cons, List.length_nil] at hB
    omega
  have app := fun (id ver : Nat) (bs new : List UInt8) (x : V) (H : Hp) hx hH hn => app_bytes (e := 5) (size := 1) (ag := false) (u := true) (agg := false) (zero := [.nils]) (zv := some .nils) (eq := none) (H := H) (id := id) (ver := ver) (bs := bs) (new := new) (x := x) hx hH hn
  refine CV.run cxF36 rfl ?_
  simp only [args0, Nat.zero_add, Nat.reduceAdd]
  have h1 := app_first (e := 5) (size := 1) (ag := false) (u := true) (agg := false) (zero := [.nils]) (zv := some .nils) (eq := none) (H := [f0, .box 0 [.p .nils]]) h0 (show first.length ≤ 1000000000 by omega)
  have e9 : lineF first l = first ++ moreF l ++ [10] := rfl
  rw [e9]
  simp only [Hw] at h1 ⊢
  repeat' first | (with_reducible first | apply M.free | apply M.done) | ((with_reducible apply F.move); exact rfl; exact rfl) | ((with_reducible first | apply F.load | apply F.fieldAddr | apply F.nilCheck); (iterate 3 exact rfl)) | ((with_reducible apply R.regsL); exact rfl) | ((with_reducible apply Lv.of); (focus (repeat' (first | exact Kp.nil | (apply Kp.cons; exact rfl))))) | with_reducible apply R.seq | with_reducible apply R.block | ((with_reducible apply F.append); (iterate 8 exact rfl); (focus (refine Eq.trans h1 ?_; simp only [List.length_cons, List.length_nil, List.cons_append, List.nil_append]; rfl))) | (((with_reducible apply F.store); (iterate 4 exact rfl)); (focus (simp (disch := first | assumption | omega | (simp only [lnX]; omega)) only [LS, storeV, loadV, partV, partP, cut, over, mkAgg, allP, asP, V.cells, PC, elDiv, elMod, elDiv0, Nat.mul_mod_left, Int.toNat_zero, Int.reduceToNat, *, hl, List.length_map] <;> rfl))) | (((with_reducible apply F.len); (iterate 3 exact rfl)); (focus (simp (disch := first | assumption | omega | (simp only [lnX]; omega)) only [LS, lenV_L, idx_L, below_at, Int.toNat_zero, Int.reduceToNat, *, hl, List.length_map] <;> rfl))) | refine R.regs rfl ?_
  refine R.loop (fun m e H => ∃ i : Nat, e = [(0,.ptr 1 0 0),(17,.p x),(18,.p (.int .i64 l.length)),(19,.p (.int .i64 i))] ∧ H = Hw f0 (first ++ moreF (l.take i)) (verM 0 (l.take i)) [] ∧ i ≤ l.length ∧ m = l.length - i) l.length ⟨0, rfl, by simp [Hw, moreF, verM], by omega, rfl⟩ ?_
  rintro m e H ⟨i, rfl, rfl, h2, rfl⟩
  have hlm := more_len l i
  by_cases hi : i = l.length
  · subst hi
    rw [List.take_length]
    have h3 := app 2 (verM 0 l) (first ++ moreF l) [10] (.p (.sl 1 true (toBytes [10]))) (Hw f0 (first ++ moreF l) (verM 0 l) []) (.inr ⟨true, rfl⟩) rfl (by simp only [List.length_append, List.length_cons, List.length_nil]; omega)
    rw [show vOf (verM 0 l) [10] = verM 0 l + 1 from rfl] at h3
    simp only [Hw] at h3 ⊢
    generalize first ++ moreF l = b at *
    generalize verM 0 l = v at *
    clear h1 app
    repeat' first | (with_reducible first | apply M.free | apply M.done | apply E.seqN | apply E.seqX | apply R.exit) | ((with_reducible apply F.move); exact rfl; exact rfl) | ((with_reducible first | apply F.load | apply F.fieldAddr | apply F.nilCheck); (iterate 3 exact rfl)) | ((with_reducible apply F.cmp); (iterate 4 exact rfl)) | ((with_reducible apply R.regs); exact rfl) | ((first | (with_reducible apply R.cond) | ((with_reducible apply M.guard); exact rfl)); (focus (first | (refine Eq.trans (look_of rfl) ?_; first | (simp only [dtX, *, hl, List.length_map] <;> rfl) | exact rfl) | exact look_of rfl))) | with_reducible apply R.seq | ((with_reducible apply R.region); exact rfl) | ((with_reducible apply E.blkX); exact rfl) | ((with_reducible apply F.append); (iterate 8 exact rfl); (focus (refine Eq.trans h3 ?_; simp only [List.set_cons_zero, List.set_cons_succ]; rfl))) | (((with_reducible apply F.store); (iterate 4 exact rfl)); (focus (simp (disch := first | assumption | omega | (simp only [lnX]; omega)) only [LS, storeV, loadV, partV, partP, cut, over, mkAgg, allP, asP, V.cells, PC, elDiv, elMod, elDiv0, Nat.mul_mod_left, Int.toNat_zero, Int.reduceToNat, *, hl, List.length_map] <;> rfl))) | (((with_reducible apply F.buildSlice); exact rfl; exact rfl; (focus (repeat' (first | exact Prs.nil | (apply Prs.cons; exact rfl))))); (focus (simp (disch := first | assumption | omega | (simp only [lnX]; omega)) only [LS, buildV, fillV, over, buildSliceV, elemsOf, appendV, elems, arrAt, cut, roomy, mkAgg, allP, asP, V.cells, PC, Int.toNat_zero, Int.reduceToNat, *, hl, List.length_map] <;> rfl))) | (intro hc; (try rw [hc]); (try simp only [decide_eq_true_eq, decide_eq_false_iff_not, Bool.not_eq_eq_eq_not, Bool.not_true, Bool.not_false] at hc); (try (exfalso; omega))) | ((with_reducible apply E.r0); exact rfl; exact rfl) | exact rfl
  obtain ⟨s, hg⟩ := at_some (show i < l.length by omega)
  have hil : i < l.length := by omega
  have hlm2 := more_len l (i + 1)
  have hnx := more_step hg
  have hvx := ver_step (v := 0) hg
  rw [hnx] at hlm2
  simp only [List.length_append, List.length_cons, List.length_nil] at hlm2
  have h3 := app 2 (verM 0 (l.take i)) (first ++ moreF (l.take i)) [32] (.p (.sl 1 true (toBytes [32]))) (Hw f0 (first ++ moreF (l.take i)) (verM 0 (l.take i)) []) (.inr ⟨true, rfl⟩) rfl (by simp only [List.length_append, List.length_cons, List.length_nil]; omega)
  have h4 := app 2 (verM 0 (l.take i) + 1) (first ++ moreF (l.take i) ++ [32]) s (.p (.str s)) (f0 :: .box 0 [.arr 2 (verM 0 (l.take i)) 1 0 (first ++ moreF (l.take i)).length] :: .arr (verM 0 (l.take i) + 1) 0 1 (byt (first ++ moreF (l.take i) ++ [32])) :: []) (.inl rfl) rfl (by simp only [List.length_append, List.length_cons, List.length_nil]; omega)
  have hend : Hw f0 (first ++ moreF (l.take i) ++ [32] ++ s) (vOf (verM 0 (l.take i) + 1) s) [] = Hw f0 (first ++ moreF (l.take (i + 1))) (verM 0 (l.take (i + 1))) [] := by
    rw [hnx, hvx]
    simp only [List.append_assoc]
  rw [show vOf (verM 0 (l.take i)) [32] = verM 0 (l.take i) + 1 from rfl] at h3
  simp only [Hw] at h3 h4 hend ⊢
  generalize first ++ moreF (l.take i) = b at *
  generalize verM 0 (l.take i) = v at *
  clear h1 app hnx hvx
  repeat' first | (with_reducible first | apply M.free | apply M.done | apply E.seqN | apply E.blkN | apply R.skip) | ((with_reducible first | apply F.move | apply F.assign); exact rfl; exact rfl) | ((with_reducible first | apply F.load | apply F.fieldAddr | apply F.nilCheck); (iterate 3 exact rfl)) | ((with_reducible apply F.cmp); (iterate 4 exact rfl)) | (((with_reducible apply F.add); (iterate 3 exact rfl)); (focus (first | omega | (simp only [lnX]; omega)))) | ((with_reducible apply R.regs); exact rfl) | ((with_reducible apply Lv.of); (focus (repeat' (first | exact Kp.nil | (apply Kp.cons; exact rfl))))) | ((first | (with_reducible apply R.cond) | ((with_reducible apply M.guard); exact rfl)); (focus (first | (refine Eq.trans (look_of rfl) ?_; first | (simp only [dtX, *, hl, hg, List.length_map, List.getElem?_map] <;> rfl) | exact rfl) | exact look_of rfl))) | with_reducible apply R.seq | ((with_reducible apply R.region); exact rfl) | ((with_reducible apply R.regionL); exact rfl) | with_reducible apply R.block | ((with_reducible apply F.append); (iterate 8 exact rfl); (focus (first | (refine Eq.trans h3 ?_; simp only [List.set_cons_zero, List.set_cons_succ]; rfl) | (refine Eq.trans h4 ?_; simp only [List.set_cons_zero, List.set_cons_succ]; rfl)))) | (((with_reducible apply F.store); (iterate 4 exact rfl)); (focus (simp (disch := first | assumption | omega | (simp only [lnX]; omega)) only [LS, storeV, loadV, partV, partP, cut, over, mkAgg, allP, asP, V.cells, PC, elDiv, elMod, elDiv0, Nat.mul_mod_left, Int.toNat_zero, Int.reduceToNat, *, hl, hg, List.length_map, List.getElem?_map] <;> rfl))) | (((with_reducible apply F.buildSlice); exact rfl; exact rfl; (focus (repeat' (first | exact Prs.nil | (apply Prs.cons; exact rfl))))); (focus (simp (disch := first | assumption | omega | (simp only [lnX]; omega)) only [LS, buildV, fillV, over, buildSliceV, elemsOf, appendV, elems, arrAt, cut, roomy, mkAgg, allP, asP, V.cells, PC, Int.toNat_zero, Int.reduceToNat, *, hl, hg, List.length_map, List.getElem?_map] <;> rfl))) | (((with_reducible apply F.indexAddr); (iterate 4 exact rfl)); (focus (simp (disch := first | assumption | omega | (simp only [lnX]; omega)) only [LS, lenV_L, idx_L, below_at, Int.toNat_zero, Int.reduceToNat, *, hl, hg, List.length_map, List.getElem?_map] <;> rfl))) | (intro hc; (try rw [hc]); (try simp only [decide_eq_true_eq, decide_eq_false_iff_not, Bool.not_eq_eq_eq_not, Bool.not_true, Bool.not_false] at hc); (try (exfalso; omega)))
  all_goals first
    | exact ⟨l.length - (i + 1), by omega, i + 1, rfl, rfl, by omega, rfl⟩
    | exact ⟨l.length - (i + 1), by omega, i + 1, rfl, hend, by omega, rfl⟩
    | trace_state
inductive T where
  | leaf (i : Ins)
  | un (i : Ins) (a : T)
  | bin (i : Ins) (a b : T)
  | tri (i : Ins) (a b c : T)
def T.ins : T → Ins
  | .leaf i | .un i _ | .bin i _ _ | .tri i _ _ _ => i
def node (i : Ins) (kids : List Pv) : Pv := .agg [.int .i64 i.op, .int .i64 i.n, .sl 3 kids.isEmpty kids]
def T.pv : T → Pv
  | .leaf i => node i []
  | .un i a => node i [a.pv]
  | .bin i a b => node i [a.pv, b.pv]
  | .tri i a b c => node i [a.pv, b.pv, c.pv]
def rankF (op n : Int) : Int := if op = 15 then 1 else if op = 14 then 2 else if op = 11 ∨ op = 12 ∨ op = 13 then 3 else if op = 6 ∨ op = 7 then 4 else if op = 8 then 5 else if op = 4 ∨ op = 5 then 6 else if op = 1 ∧ n < 0 then 6 else 7
def T.rank (t : T) : Int := rankF t.ins.op t.ins.n
def leftF (k : Int) : Int := if k = 3 then 4 else k
def plainF (vars : List (List UInt8)) : T → List UInt8
  | .leaf i => if i.op = 1 then (if i.n < 0 then 45 :: dec (-i.n).toNat else dec i.n.toNat) else if i.op = 2 then vars.getD i.n.toNat [] else 36 :: dec i.n.toNat
  | .un i a => if i.op = 4 then (if a.ins.op = 1 ∧ a.ins.n ≥ 0 then [45, 40] ++ plainF vars a ++ [41] else 45 :: heldF (plainF vars a) a.rank 6) else 33 :: heldF (plainF vars a) a.rank 6
  | .bin i a b => if i.op = 9 then [109, 105, 110, 40] ++ plainF vars a ++ [44, 32] ++ plainF vars b ++ [41] else if i.op = 10 then [109, 97, 120, 40] ++ plainF vars a ++ [44, 32] ++ plainF vars b ++ [41]
    else heldF (plainF vars a) a.rank (leftF (rankF i.op i.n)) ++ [32] ++ sgnOf i.op.toNat ++ [32] ++ heldF (plainF vars b) b.rank (rankF i.op i.n + 1)
  | .tri _ a b c => [105, 102, 40] ++ plainF vars a ++ [44, 32] ++ plainF vars b ++ [44, 32] ++ plainF vars c ++ [41]
def okT (vars : List (List UInt8)) : T → Prop
  | .leaf i => (i.op = 1 ∧ -1099511627776 ≤ i.n ∧ i.n ≤ 1099511627776) ∨ (i.op = 2 ∧ 0 ≤ i.n ∧ i.n < vars.length) ∨ (i.op = 3 ∧ 0 ≤ i.n ∧ i.n < 9223372036854775808)
  | .un i a => (i.op = 4 ∨ i.op = 5) ∧ okT vars a
  | .bin i a b => 6 ≤ i.op ∧ i.op ≤ 15 ∧ okT vars a ∧ okT vars b
  | .tri i a b c => i.op = 16 ∧ okT vars a ∧ okT vars b ∧ okT vars c
def wt : T → Nat
  | .leaf _ => 140737488355328
  | .un _ a => wt a + 20
  | .bin _ a b => wt a + wt b + 20
  | .tri _ a b c => wt a + wt b + wt c + 20
theorem held_len (s : List UInt8) (k q : Int) : (heldF s k q).length ≤ s.length + 2 := by
  unfold heldF
  split
  · simp only [List.length_cons, List.length_append, List.length_nil]; omega
  · omega
theorem sgn_len : ∀ (op : Nat), op ≤ 15 → (sgnOf op).length ≤ 2 := by decide
theorem dec_14 {n : Nat} (h : n ≤ 1099511627776) : (dec n).length ≤ 14 := dec_short 13 n (by omega)
theorem plain_len {vars : List (List UInt8)} (hv : ∀ v ∈ vars, v.length ≤ 140737488355328) : ∀ (t : T), okT vars t → (plainF vars t).length ≤ wt t
  | .leaf i, h => by
    simp only [okT] at h
    simp only [plainF, wt]
    split
    · split
      · have := dec_14 (n := (-i.n).toNat) (by omega); simp only [List.length_cons]; omega
      · have := dec_14 (n := (i.n).toNat) (by omega); omega
    · split
      · rename_i h2
        have : i.n.toNat < vars.length := by omega
        rw [List.getD_eq_getElem?_getD, List.getElem?_eq_getElem this, Option.getD_some]
        exact hv _ (List.getElem_mem this)
      · have := dec_20 (n := (i.n).toNat) (by omega); simp only [List.length_cons]; omega
  | .un i a, h => by
    have := plain_len hv a h.2
    have := held_len (plainF vars a) a.rank 6
    simp only [plainF, wt]
    (repeat' split) <;> simp only [List.length_cons, List.length_append, List.length_nil] <;> omega
  | .bin i a b, h => by
    have := plain_len hv a h.2.2.1
    have := plain_len hv b h.2.2.2
    have := held_len (plainF vars a) a.rank (leftF (rankF i.op i.n))
    have := held_len (plainF vars b) b.rank (rankF i.op i.n + 1)
    have := sgn_len i.op.toNat (by have := h.2.1; omega)
    simp only [plainF, wt]
    (repeat' split) <;> simp only [List.length_cons, List.length_append, List.length_nil] <;> omega
  | .tri i a b c, h => by
    have := plain_len hv a h.2.1
    have := plain_len hv b h.2.2.1
    have := plain_len hv c h.2.2.2
    simp only [plainF, wt, List.length_cons, List.length_append, List.length_nil]; omega
theorem node_pv (t : T) : ∃ (l : List Pv), t.pv = .agg [.int .i64 t.ins.op, .int .i64 t.ins.n, .sl 3 l.isEmpty l] := by cases t <;> exact ⟨_, rfl⟩
def pushT (i : Ins) (st : List T) : List T :=
  if takesF i.op = 0 then .leaf i :: st
  else if takesF i.op = 1 then (match st with | a :: r => .un i a :: r | _ => st)
  else if takesF i.op = 2 then (match st with | b :: a :: r => .bin i a b :: r | _ => st)
  else (match st with | c :: b :: a :: r => .tri i a b c :: r | _ => st)
def bld : List Ins → List T → List T
  | [], st => st
  | i :: l, st => bld l (pushT i st)
def stL (st : List T) : List Pv := st.reverse.map T.pv
theorem push_split (i : Ins) (st : List T) (h0 : 0 ≤ takesF i.op) (h : takesF i.op ≤ st.length) : ∃ base kids : List Pv, (kids.length : Int) = takesF i.op ∧ stL st = base ++ kids ∧ stL (pushT i st) = base ++ [node i kids] ∧ base.length + kids.length = st.length := by
  have := takesF_le i.op
  have hk : takesF i.op = 0 ∨ takesF i.op = 1 ∨ takesF i.op = 2 ∨ takesF i.op = 3 := by omega
  rcases hk with hk | hk | hk | hk
  · exact ⟨stL st, [], by simp [hk], by simp, by simp [pushT, hk, stL, T.pv], by simp [stL]⟩
  · match st, h with
    | [], h => rw [hk] at h; simp at h
    | a :: r, h => exact ⟨stL r, [a.pv], by simp [hk], by simp [stL], by simp [pushT, hk, stL, T.pv], by simp [stL]⟩
  · match st, h with
    | [], h => rw [hk] at h; simp at h
    | [a], h => rw [hk] at h; simp at h
    | b :: a :: r, h => exact ⟨stL r, [a.pv, b.pv], by simp [hk], by simp [stL], by simp [pushT, hk, stL, T.pv], by simp [stL]⟩
  · match st, h with
    | [], h => rw [hk] at h; simp at h
    | [a], h => rw [hk] at h; simp at h
    | [b, a], h => rw [hk] at h; simp at h
    | c :: b :: a :: r, h => exact ⟨stL r, [a.pv, b.pv, c.pv], by simp [hk], by simp [stL], by simp [pushT, hk, stL, T.pv], by simp [stL]⟩
theorem chk_step {vars args row : Int} {k : Nat} {i : Ins} {l : List Ins} (h : chk vars args row k (i :: l) = (0, 0)) : 0 ≤ takesF i.op ∧ namedF vars args i = true ∧ takesF i.op ≤ row ∧ chk vars args (row + (1 - takesF i.op)) (k + 1) l = (0, 0) := by
  rw [chk] at h
  split at h
  · cases h
  · split at h
    · cases h
    · split at h
      · cases h
      · rename_i h1 h2 h3
        exact ⟨by omega, by cases hn : namedF vars args i <;> simp_all, by omega, h⟩
theorem push_len (i : Ins) (st : List T) (h0 : 0 ≤ takesF i.op) (h : takesF i.op ≤ st.length) : ((pushT i st).length : Int) = st.length + (1 - takesF i.op) := by
  obtain ⟨base, kids, h1, h2, h3, h4⟩ := push_split i st h0 h
  have := congrArg List.length h3
  simp [stL] at this
  omega
def wts (st : List T) : Nat := (st.map wt).sum
theorem push_ok (vars : List (List UInt8)) (args : Int) (ha : args < 9223372036854775808) (i : Ins) (st : List T) (h0 : 0 ≤ takesF i.op) (h : takesF i.op ≤ st.length) (hn : namedF vars.length args i = true) (hok : ∀ t ∈ st, okT vars t) : (∀ t ∈ pushT i st, okT vars t) ∧ wts (pushT i st) ≤ wts st + 140737488355328 := by
  have := takesF_le i.op
  have hk : takesF i.op = 0 ∨ takesF i.op = 1 ∨ takesF i.op = 2 ∨ takesF i.op = 3 := by omega
  have hop : takesF i.op = if 1 ≤ i.op ∧ i.op ≤ 3 then 0 else if i.op = 4 ∨ i.op = 5 then 1 else if 6 ≤ i.op ∧ i.op ≤ 15 then 2 else if i.op = 16 then 3 else -1 := rfl
  rcases hk with hk | hk | hk | hk
  · have h3 : 1 ≤ i.op ∧ i.op ≤ 3 := by
      rw [hk] at hop
      (repeat' split at hop) <;> omega
    have e : pushT i st = .leaf i :: st := by simp [pushT, hk]
    rw [e]
    refine ⟨fun t ht => ?_, by simp [wts, wt]; omega⟩
    rcases List.mem_cons.1 ht with rfl | ht
    · simp only [okT]
      simp only [namedF] at hn
      (repeat' split at hn)
      · simp [valueF] at hn; left; omega
      · simp at hn; right; left; omega
      · simp at hn; right; right; omega
      · omega
    · exact hok t ht
  · have h3 : i.op = 4 ∨ i.op = 5 := by
      rw [hk] at hop
      (repeat' split at hop) <;> omega
    match st, h, hok with
    | [], h, _ => rw [hk] at h; simp at h
    | a :: r, h, hok =>
      have e : pushT i (a :: r) = .un i a :: r := by simp [pushT, hk]
      rw [e]
      refine ⟨fun t ht => ?_, by simp [wts, wt]; omega⟩
      rcases List.mem_cons.1 ht with rfl | ht
      · exact ⟨h3, hok a (by simp)⟩
      · exact hok t (by simp [ht])
  · have h3 : 6 ≤ i.op ∧ i.op ≤ 15 := by
      rw [hk] at hop
      (repeat' split at hop) <;> omega
    match st, h, hok with
    | [], h, _ => rw [hk] at h; simp at h
    | [a], h, _ => rw [hk] at h; simp at h
    | b :: a :: r, h, hok =>
      have e : pushT i (b :: a :: r) = .bin i a b :: r := by simp [pushT, hk]
      rw [e]
      refine ⟨fun t ht => ?_, by simp [wts, wt]; omega⟩
      rcases List.mem_cons.1 ht with rfl | ht
      · exact ⟨h3.1, h3.2, hok a (by simp), hok b (by simp)⟩
      · exact hok t (by simp [ht])
  · have h3 : i.op = 16 := by
      rw [hk] at hop
      (repeat' split at hop) <;> omega
    match st, h, hok with
    | [], h, _ => rw [hk] at h; simp at h
    | [a], h, _ => rw [hk] at h; simp at h
    | [b, a], h, _ => rw [hk] at h; simp at h
    | c :: b :: a :: r, h, hok =>
      have e : pushT i (c :: b :: a :: r) = .tri i a b c :: r := by simp [pushT, hk]
      rw [e]
      refine ⟨fun t ht => ?_, by simp [wts, wt]; omega⟩
      rcases List.mem_cons.1 ht with rfl | ht
      · exact ⟨h3, hok a (by simp), hok b (by simp), hok c (by simp)⟩
      · exact hok t (by simp [ht])
def wordsL : List (List UInt8) := [[32, 41], [32, 44], [32, 40], [32, 49], [32, 36, 49], [32, 33], [32, 97], [32, 109, 105, 110]]
def codeT : T → List Ins
  | .leaf i => [i]
  | .un i a => codeT a ++ [i]
  | .bin i a b => codeT a ++ codeT b ++ [i]
  | .tri i a b c => codeT a ++ codeT b ++ codeT c ++ [i]
def codeS (st : List T) : List Ins := (st.reverse.map codeT).flatten
theorem push_code (i : Ins) (st : List T) (h0 : 0 ≤ takesF i.op) (h : takesF i.op ≤ st.length) : codeS (pushT i st) = codeS st ++ [i] := by
  have := takesF_le i.op
  have hk : takesF i.op = 0 ∨ takesF i.op = 1 ∨ takesF i.op = 2 ∨ takesF i.op = 3 := by omega
  rcases hk with hk | hk | hk | hk
  · simp [pushT, hk, codeS, codeT]
  · match st, h with
    | [], h => simp at h; omega
    | a :: r, _ => simp [pushT, hk, codeS, codeT]
  · match st, h with
    | [], h => simp at h; omega
    | [_], h => simp at h; omega
    | b :: a :: r, _ => simp [pushT, hk, codeS, codeT]
  · match st, h with
    | [], h => simp at h; omega
    | [_], h => simp at h; omega
    | [_, _], h => simp at h; omega
    | c :: b :: a :: r, _ => simp [pushT, hk, codeS, codeT]
theorem bld_code {vars args : Int} : ∀ (l : List Ins) (k : Nat) (st : List T), chk vars args st.length k l = (0, 0) → codeS (bld l st) = codeS st ++ l
  | [], k, st, _ => by simp [bld]
  | i :: l, k, st, h => by
    obtain ⟨c1, c2, c3, c4⟩ := chk_step h
    rw [← push_len i st c1 c3] at c4
    rw [bld, bld_code l (k + 1) (pushT i st) c4, push_code i st c1 c3]; simp
def bareT : T → Bool
  | .leaf i => decide (i.op = 1) && decide (0 ≤ i.n)
  | _ => false
def pieceOf (vars : List (List UInt8)) (t : T) : Pv := pc (plainF vars t) (48 + t.rank) (bareT t)
theorem leaf_run {x : Pv} {vars : List (List UInt8)} (hx : IsL 1 x) (hl : elemsP x = vars.map .str) (i : Ins) (hok : okT vars (.leaf i)) : PV cx 26 [.p i.pv, .p x] (pieceOf vars (.leaf i)) := by
  obtain ⟨op, n⟩ := i
  simp only [okT] at hok
  rcases hok with ⟨rfl, h1, h2⟩ | ⟨rfl, h1, h2⟩ | ⟨rfl, h1, h2⟩
  · by_cases h0 : n < 0
    · obtain ⟨k, hk⟩ := Int.eq_ofNat_of_zero_le (show 0 ≤ -n by omega)
      have e : n = -(k : Int) := by omega
      subst e
      have := leaf_neg k (by omega) (by omega) x
      have e2 : pieceOf vars (.leaf ⟨1, -(k : Int)⟩) = pc (45 :: dec k) 54 false := by
        have e3 : (- -(k : Int)).toNat = k := by omega
        simp only [pieceOf, plainF, T.rank, T.ins, rankF, bareT, e3]
        rw [if_pos trivial, if_pos h0, if_neg (by decide), if_neg (by decide), if_neg (by decide), if_neg (by decide), if_neg (by decide), if_neg (by decide), if_pos ⟨trivial, h0⟩]
        have : decide ((0 : Int) ≤ -(k : Int)) = false := by simp only [decide_eq_false_iff_not]; omega
        rw [this]
        rfl
      rw [e2]
      exact this
    · obtain ⟨k, rfl⟩ := Int.eq_ofNat_of_zero_le (show 0 ≤ n by omega)
      have := leaf_pos k (by omega) x
      have e2 : pieceOf vars (.leaf ⟨1, k⟩) = pc (dec k) 55 true := by
        simp only [pieceOf, plainF, T.rank, T.ins, rankF, bareT, Int.toNat_natCast]
        rw [if_pos trivial, if_neg h0, if_neg (by decide), if_neg (by decide), if_neg (by decide), if_neg (by decide), if_neg (by decide), if_neg (by decide), if_neg (fun h => h0 h.2)]
        have : decide ((0 : Int) ≤ (k : Int)) = true := by simp only [decide_eq_true_eq]; omega
        rw [this]
        rfl
      rw [e2]
      exact this
  · obtain ⟨k, rfl⟩ := Int.eq_ofNat_of_zero_le h1
    have hk : k < vars.length := by omega
    have := leaf_var k x hx vars hl (vars.getD k []) (by rw [List.getD_eq_getElem?_getD, List.getElem?_eq_getElem hk]; rfl)
    have e2 : pieceOf vars (.leaf ⟨2, k⟩) = pc (vars.getD k []) 55 false := rfl
    rw [e2]
    exact this
  · obtain ⟨k, rfl⟩ := Int.eq_ofNat_of_zero_le h1
    have := leaf_arg k (by omega) x
    have e2 : pieceOf vars (.leaf ⟨3, k⟩) = pc (36 :: dec k) 55 false := rfl
    rw [e2]
    exact this
theorem held_shift (s : List UInt8) (r q : Int) : heldF s (48 + r) (48 + q) = heldF s r q := by
  unfold heldF
  by_cases h : r < q
  · rw [if_pos h, if_pos (by omega)]
  · rw [if_neg h, if_neg (by omega)]
theorem rank_pos (t : T) : 1 ≤ t.rank ∧ t.rank ≤ 7 := by
  unfold T.rank rankF
  (repeat' split) <;> omega
theorem bare_ins {vars : List (List UInt8)} {a : T} (hok : okT vars a) : bareT a = true ↔ (a.ins.op = 1 ∧ a.ins.n ≥ 0) := by
  cases a with
  | leaf i => simp [bareT, T.ins]
  | un i a => simp only [okT] at hok; simp only [bareT, T.ins]; constructor <;> intro h; cases h; omega
  | bin i a b => simp only [okT] at hok; simp only [bareT, T.ins]; constructor <;> intro h; cases h; omega
  | tri i a b c => simp only [okT] at hok; simp only [bareT, T.ins]; constructor <;> intro h; cases h; omega
theorem un_neg {vars : List (List UInt8)} (n : Int) (a : T) (hok : okT vars a) : plainF vars (.un ⟨4, n⟩ a) = 45 :: heldF (plainF vars a) (if bareT a = true then 0 else 48 + a.rank) 54 := by
  have e : plainF vars (.un ⟨4, n⟩ a) = if a.ins.op = 1 ∧ a.ins.n ≥ 0 then [45, 40] ++ plainF vars a ++ [41] else 45 :: heldF (plainF vars a) a.rank 6 := rfl
  rw [e]
  by_cases h : bareT a = true
  · rw [if_pos h, if_pos ((bare_ins hok).1 h)]
    rfl
  · rw [if_neg h, if_neg (fun h' => h ((bare_ins hok).2 h')), ← held_shift]
    rfl
theorem un_not {vars : List (List UInt8)} (n : Int) (a : T) : plainF vars (.un ⟨5, n⟩ a) = 33 :: heldF (plainF vars a) (48 + a.rank) 54 := by
  have e : plainF vars (.un ⟨5, n⟩ a) = 33 :: heldF (plainF vars a) a.rank 6 := rfl
  rw [e, ← held_shift]
  rfl
theorem lvl_rank : ∀ op : Nat, 6 ≤ op → op ≤ 15 → op ≠ 9 → op ≠ 10 → lvlOf op = 48 + rankF op 0 := by
  intro op h6 h15 h9 h10
  have hop : op = 6 ∨ op = 7 ∨ op = 8 ∨ op = 11 ∨ op = 12 ∨ op = 13 ∨ op = 14 ∨ op = 15 := by omega
  rcases hop with rfl | rfl | rfl | rfl | rfl | rfl | rfl | rfl <;> rfl
theorem rank_bin (op n : Int) (h : 6 ≤ op) : rankF op n = rankF op 0 := by
  unfold rankF
  (repeat' split) <;> omega
theorem bin_piece {vars : List (List UInt8)} (op : Nat) (n : Int) (a b : T) (h6 : 6 ≤ op) (h15 : op ≤ 15) (h9 : op ≠ 9) (h10 : op ≠ 10) :
    pc (heldF (plainF vars a) (48 + a.rank) (lvl' (lvlOf op)) ++ [32] ++ sgnOf op ++ [32] ++ heldF (plainF vars b) (48 + b.rank) (lvlOf op + 1)) (lvlOf op) false = pieceOf vars (.bin ⟨op, n⟩ a b) := by
  have e : plainF vars (.bin ⟨op, n⟩ a b) = heldF (plainF vars a) a.rank (leftF (rankF op n)) ++ [32] ++ sgnOf op ++ [32] ++ heldF (plainF vars b) b.rank (rankF op n + 1) := by
    simp only [plainF]
    rw [if_neg (by omega), if_neg (by omega)]
    rfl
  have er : (T.bin ⟨op, n⟩ a b).rank = rankF op 0 := by
    simp only [T.rank, T.ins]
    exact rank_bin _ _ (by omega)
  have el : lvl' (48 + rankF op 0) = 48 + leftF (rankF op 0) := by
    unfold lvl' leftF
    by_cases h : rankF op 0 = 3
    · rw [if_pos h, if_pos (by omega)]; rfl
    · rw [if_neg h, if_neg (by omega)]
  have e1 : 48 + rankF op 0 + 1 = 48 + (rankF op 0 + 1) := by omega
  rw [pieceOf, e, er, lvl_rank op h6 h15 h9 h10, el, held_shift, e1, held_shift, rank_bin (op : Int) n (by omega)]
  rfl
end Go.Proofs.YtojpocfnjigmfaaDoor
