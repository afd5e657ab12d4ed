import Derived.Test.YtojpocfnjigmfaaDoorZ2
import Derived.Test.YtojpocfnjigmfaaDoorAX19
import Derived.Test.YtojpocfnjigmfaaDoorZ1
set_option maxRecDepth 10000
set_option linter.unusedSimpArgs false
set_option linter.unusedVariables false
namespace Go.Proofs.YtojpocfnjigmfaaDoor
open Go Go.AX
noncomputable def fi11 : FnI := { body := (Tryd.f11.body).getD .skip, ntmps := 138, results := Tryd.f11.results.toList, hints := [(6, { live := some [1, 10, 11, 33, 34, 35] }), (10, { ops := [(1, 1)] }), (11, { ops := [(3, 1)] }), (19, { ops := [(1, 1)] }), (28, { ops := [(1, 1)] }), (34, { ops := [(1, 1)] }), (36, { live := some [1, 10, 11, 33, 34, 35], trunc := some 3 })] }
theorem cxF11 : cx.F 11 = some fi11 := by kernel_rfl
instance : Inhabited T := ⟨.leaf ⟨0, 0⟩⟩
def showF (code : List Ins) (vars : List (List UInt8)) (args : Int) : List UInt8 × Int := if (checkF code vars.length args).2 = 0 then (plainF vars ((bld code []).headD default), 0) else ([], (checkF code vars.length args).2)
theorem chk_end (vars args : Int) : ∀ (l : List Ins) (k : Nat) (st : List T), chk vars args st.length k l = (0, 0) → ∃ t, bld l st = [t]
  | [], k, st, h => by
    rw [chk] at h
    split at h
    · rename_i h1
      show ∃ t, st = [t]
      exact List.length_eq_one_iff.1 (by omega)
    · cases h
  | i :: l, k, st, h => by
    obtain ⟨c1, c2, c3, c4⟩ := chk_step h
    rw [← push_len i st c1 c3] at c4
    exact chk_end vars args l (k + 1) (pushT i st) c4
theorem chk_zero (vars args : Int) : ∀ (l : List Ins) (k : Nat) (row : Int), (chk vars args row k l).2 = 0 → chk vars args row k l = (0, 0)
  | [], k, row, h => by
    rw [chk] at h ⊢
    split at h
    · rename_i h1; rw [if_pos h1]
    · cases h
  | i :: l, k, row, h => by
    rw [chk] at h ⊢
    split at h
    · cases h
    · rename_i h1
      rw [if_neg h1]
      split at h
      · cases h
      · rename_i h2
        rw [if_neg h2]
        split at h
        · cases h
        · rename_i h3
          rw [if_neg h3]
          exact chk_zero vars args l _ _ h
def pcL (vars : List (List UInt8)) (st : List T) : List Pv := st.reverse.map (pieceOf vars)
theorem mem_wts {t : T} : ∀ {st : List T}, t ∈ st → wt t ≤ wts st
  | s :: st, h => by
    simp only [wts, List.map_cons, List.sum_cons]
    rcases List.mem_cons.1 h with rfl | h
    · omega
    · have := mem_wts h
      simp only [wts] at this
      omega
theorem pcL_sz (vars : List (List UInt8)) (st : List T) : Sz 3 (pcL vars st) := by
  intro p hp
  simp only [pcL, List.mem_map] at hp
  obtain ⟨t, _, rfl⟩ := hp
  rfl
set_option maxHeartbeats 4000000 in
theorem show_run (code : List Ins) (x : Pv) (hx : IsL 2 x) (hl : elemsP x = code.map Ins.pv) (y : Pv) (hy : IsL 1 y) (vars : List (List UInt8)) (hvl : elemsP y = vars.map .str) (hv : ∀ v ∈ vars, v.length ≤ 140737488355328) (args : Int) (ha : args < 9223372036854775808) :
    PV cx 11 [.p x, .p y, .p (.int .i64 args)] (.tup [.str (showF code vars args).1, .int .i64 (showF code vars args).2]) := by
  refine PV.run cxF11 rfl ?_
  simp only [args0, Nat.zero_add, Nat.reduceAdd]
  have hck := (check_run code x hx hl vars.length args).fv
  generalize hr : checkF code vars.length args = r at *
  obtain ⟨k, e⟩ := r
  simp only [tup2] at hck
  by_cases he : e = 0
  rotate_left 1
  · have e1 : showF code vars args = ([], e) := by simp only [showF, hr]; rw [if_neg he]
    rw [e1]
    repeat' first | (with_reducible first | apply M.free | apply M.done | apply E.seqR | apply R.ret) | ((with_reducible first | apply F.move | apply F.assign); exact rfl; exact rfl) | ((with_reducible apply F.cmp); (iterate 4 exact rfl)) | ((with_reducible apply F.extract); (iterate 3 exact rfl)) | ((with_reducible apply R.regs); exact rfl) | ((with_reducible apply F.call0); exact rfl; exact rfl; (focus (repeat' (first | exact Evs.nil | (apply Evs.cons; exact rfl)))); exact rfl; (focus (first | exact hck))) | ((first | (with_reducible apply R.cond) | ((with_reducible apply M.guard); exact rfl)); (focus (first | (refine Eq.trans (look_of rfl) ?_; first | (simp only [dtX, *, hvl, List.length_map] <;> rfl) | exact rfl) | exact look_of rfl))) | refine imp_yes rfl ?_ | exact imp_no rfl | with_reducible apply R.seq | (((with_reducible apply F.len); (iterate 3 exact rfl)); (focus (simp (disch := first | assumption | omega | (simp only [lnX]; omega)) only [LS, lenV_L, idx_L, below_at, Int.toNat_zero, Int.reduceToNat, *, hvl, List.length_map] <;> rfl))) | (((with_reducible apply E.rP2); exact rfl; exact rfl; (focus (exact look_of rfl)); (focus (exact look_of rfl)))) | refine R.regs rfl ?_ | exact rfl
  subst he
  have hc : chk vars.length args 0 0 code = (0, 0) ∧ code.length ≤ 31 ∧ 0 ≤ args := by
    unfold checkF at hr
    split at hr
    · cases hr
    · split at hr
      · cases hr
      · exact ⟨chk_zero _ _ _ _ _ (by rw [hr]), by omega, by omega⟩
  obtain ⟨hc, h31, ha0⟩ := hc
  obtain ⟨t, hb⟩ := chk_end vars.length args code 0 [] hc
  have e1 : showF code vars args = (plainF vars t, 0) := by simp only [showF, hr, hb]; rfl
  rw [e1]
  clear hr e1
  repeat' first | (with_reducible first | apply M.free | apply M.done | apply E.seqN | apply R.skip) | ((with_reducible first | apply F.move | apply F.assign); exact rfl; exact rfl) | ((with_reducible apply F.cmp); (iterate 4 exact rfl)) | ((with_reducible apply F.extract); (iterate 3 exact rfl)) | ((with_reducible apply R.regs); exact rfl) | ((with_reducible apply R.regsL); exact rfl) | ((with_reducible apply Lv.of); (focus (repeat' (first | exact Kp.nil | (apply Kp.cons; exact rfl))))) | ((with_reducible apply F.call0); exact rfl; exact rfl; (focus (repeat' (first | exact Evs.nil | (apply Evs.cons; exact rfl)))); exact rfl; (focus (first | exact hck))) | ((first | (with_reducible apply R.cond) | ((with_reducible apply M.guard); exact rfl)); (focus (first | (refine Eq.trans (look_of rfl) ?_; first | (simp only [dtX, *, hvl, List.length_map] <;> rfl) | exact rfl) | exact look_of rfl))) | refine imp_yes rfl ?_ | exact imp_no rfl | with_reducible apply R.seq | with_reducible apply R.block | (((with_reducible apply F.alloc); exact rfl; exact rfl); (focus (simp only [LS] <;> rfl)); (focus (simp only [LS] <;> rfl))) | (((with_reducible apply F.len); (iterate 3 exact rfl)); (focus (simp (disch := first | assumption | omega | (simp only [lnX]; omega)) only [LS, lenV_L, idx_L, below_at, Int.toNat_zero, Int.reduceToNat, *, hvl, List.length_map] <;> rfl))) | (((with_reducible apply F.makeFunc); exact rfl; (focus (repeat' (first | exact Evs.nil | (apply Evs.cons; exact rfl)))); (focus (repeat' (first | exact Evs.nil | (apply Evs.cons; exact rfl))))); (focus (simp (disch := first | assumption | omega | (simp only [lnX]; omega)) only [LS, indexAddrV, indexV, below_at, fieldV, fieldAddrV, convP, bytesOf, sliceV, bounds, bMax, bHi, bLo, upTo_at, makeFuncV, partV, partP, cut, binI, binS, binV, binP, arith, strOp_add, strOp_eql, strOp_neq, eqn, wrap64, wrap8, mkAgg, allP, asP, Option.getD_none, Int.toNat_zero, Int.reduceToNat, *, hvl, List.length_map] <;> rfl))) | refine R.regs rfl ?_
  refine R.loop (fun m e H => ∃ (i : Nat) (st : List T), e = [(1, .p y), (10, .ptr 0 0 0), (11, .fn 25 [] [.ptr 0 0 0]), (33, .p x), (34, .p (.int .i64 code.length)), (35, .p (.int .i64 i))] ∧
      ((st = [] ∧ H = [.box 0 [.p .nils]]) ∨ (st ≠ [] ∧ ∃ o1 o2 ver, H = [.box 0 [.arr 2 ver 3 0 st.length], .box 0 [.p o1, .p o2], .arr ver 0 3 ((pcL vars st).map .p)])) ∧
      i ≤ code.length ∧ m = code.length - i ∧ st.length ≤ i ∧ chk vars.length args st.length i (code.drop i) = (0, 0) ∧ bld (code.drop i) st = [t] ∧ (∀ t ∈ st, okT vars t) ∧ wts st ≤ 140737488355328 * i) code.length
    ⟨0, [], rfl, .inl ⟨rfl, rfl⟩, by omega, rfl, by simp, hc, hb, by simp, by simp [wts]⟩ ?_
  clear hc hb hck
  rintro m e H ⟨i, st, rfl, hH, h2, rfl, hs, hc, hb, hok, hwt⟩
  by_cases hlt : (i : Int) < code.length
  rotate_left 1
  · have e : i = code.length := by omega
    subst e
    rw [List.drop_length] at hb
    simp only [bld] at hb
    subst hb
    rcases hH with ⟨h, _⟩ | ⟨_, o1, o2, ver, rfl⟩
    · cases h
    · simp only [pcL, List.reverse_singleton, List.map_cons, List.map_nil]
      repeat' first | (with_reducible first | apply M.free | apply M.done | apply E.seqN | apply E.seqX | apply R.ret | apply R.exit) | ((with_reducible first | apply F.load | apply F.fieldAddr); (iterate 3 exact rfl)) | ((with_reducible apply F.cmp); (iterate 4 exact rfl)) | ((with_reducible apply F.assign); exact rfl; exact rfl) | ((with_reducible apply R.regs); exact rfl) | ((first | (with_reducible apply R.cond) | ((with_reducible apply M.guard); exact rfl)); (focus (first | (refine Eq.trans (look_of rfl) ?_; first | (simp only [dtX, *, hl, List.length_map, pieceOf, pc] <;> rfl) | exact rfl) | exact look_of rfl))) | refine imp_yes rfl ?_ | exact imp_no rfl | with_reducible apply R.seq | ((with_reducible apply E.blkX); exact rfl) | (((with_reducible apply F.loadS); (iterate 3 exact rfl)); (focus (simp (disch := first | assumption | omega | (simp only [lnX]; omega)) only [LS, storeV, loadV, partV, partP, cut, over, mkAgg, allP, asP, V.cells, PC, elDiv, elMod, elDiv0, Nat.mul_mod_left, Int.toNat_zero, Int.reduceToNat, *, hl, List.length_map, pieceOf, pc] <;> rfl))) | (((with_reducible apply F.indexAddr); (iterate 4 exact rfl)); (focus (simp (disch := first | assumption | omega | (simp only [lnX]; omega)) only [LS, lenV_L, idx_L, below_at, Int.toNat_zero, Int.reduceToNat, *, hl, List.length_map, pieceOf, pc] <;> rfl))) | (((with_reducible apply E.rP2); exact rfl; exact rfl; (focus (exact look_of rfl)); (focus (exact look_of rfl)))) | exact rfl
  obtain ⟨a, hcode⟩ : ∃ b, code[i]? = some b := ⟨code[i]'(by omega), by simp⟩
  rw [drop_at hcode] at hc hb
  obtain ⟨c1, c2, c3, c4⟩ := chk_step hc
  have hpl := push_len a st c1 c3
  have hpo := push_ok vars args ha a st c1 c3 c2 hok
  simp only [bld] at hb
  have hend : ∀ (o1 o2 : Pv) (ver n : Nat) (es : List V), n = (pushT a st).length → es = (pcL vars (pushT a st)).map .p → ∃ k, k < code.length - i ∧ ∃ (i' : Nat) (st'' : List T), ([(1, .p y), (10, .ptr 0 0 0), (11, .fn 25 [] [.ptr 0 0 0]), (33, .p x), (34, .p (.int .i64 code.length)), (35, .p (.int .i64 ((i : Int) + 1)))] : Env) = [(1, .p y), (10, .ptr 0 0 0), (11, .fn 25 [] [.ptr 0 0 0]), (33, .p x), (34, .p (.int .i64 code.length)), (35, .p (.int .i64 i'))] ∧
      ((st'' = [] ∧ ([.box 0 [.arr 2 ver 3 0 n], .box 0 [.p o1, .p o2], .arr ver 0 3 es] : Hp) = [.box 0 [.p .nils]]) ∨ (st'' ≠ [] ∧ ∃ o1' o2' ver', ([.box 0 [.arr 2 ver 3 0 n], .box 0 [.p o1, .p o2], .arr ver 0 3 es] : Hp) = [.box 0 [.arr 2 ver' 3 0 st''.length], .box 0 [.p o1', .p o2'], .arr ver' 0 3 ((pcL vars st'').map .p)])) ∧
      i' ≤ code.length ∧ k = code.length - i' ∧ st''.length ≤ i' ∧ chk vars.length args st''.length i' (code.drop i') = (0, 0) ∧ bld (code.drop i') st'' = [t] ∧ (∀ t ∈ st'', okT vars t) ∧ wts st'' ≤ 140737488355328 * i' :=
    fun o1 o2 ver n es hn hes => ⟨code.length - (i + 1), by omega, i + 1, pushT a st, rfl, .inr ⟨fun h => by have := congrArg List.length h; simp only [List.length_nil] at this; omega, o1, o2, ver, by rw [hn, hes]⟩, by omega, rfl, by omega, by rw [hpl]; exact c4, hb, hpo.1, by omega⟩
  clear hb c4 hc
  have h120 : takesF a.op = if 1 ≤ a.op ∧ a.op ≤ 3 then 0 else if a.op = 4 ∨ a.op = 5 then 1 else if 6 ≤ a.op ∧ a.op ≤ 15 then 2 else if a.op = 16 then 3 else -1 := rfl
  have hop : 1 ≤ a.op ∧ a.op ≤ 16 := by
    (repeat' split at h120) <;> omega
  have hleaf : takesF a.op = 0 → pushT a st = .leaf a :: st := fun h => by simp [pushT, h]
  by_cases h3 : a.op ≤ 3
  · have ht0 : takesF a.op = 0 := by rw [h120, if_pos (by omega)]
    have hpush := hleaf ht0
    have hokl : okT vars (.leaf a) := hpo.1 _ (by rw [hpush]; simp)
    have hlf := (leaf_run hy hvl a hokl).fv
    rw [hpush] at hend
    clear hpo hpl hpush hleaf h120 hok c1 c2 c3
    obtain ⟨op, n⟩ := a
    have hop3 : op = 1 ∨ op = 2 ∨ op = 3 := by simp only at hop h3; omega
    rcases hH with ⟨hst, rfl⟩ | ⟨hst, o1, o2, ver, rfl⟩
    · subst hst
      rcases hop3 with rfl | rfl | rfl
      all_goals
        repeat' first | (with_reducible first | apply M.free | apply M.done | apply E.seqN | apply E.blkN | apply R.skip) | ((with_reducible first | apply F.move | apply F.assign); exact rfl; exact rfl) | ((with_reducible first | apply F.load | apply F.fieldAddr); (iterate 3 exact rfl)) | ((with_reducible apply F.cmp); (iterate 4 exact rfl)) | (((with_reducible apply F.add); (iterate 3 exact rfl)); (focus (first | omega | (simp only [lnX]; omega)))) | ((with_reducible apply R.regs); exact rfl) | ((with_reducible apply Cut.of); (focus (repeat' (first | exact Kp.nil | (apply Kp.cons; exact rfl)))); (focus ((try simp only [List.take_succ_cons, List.take_zero, List.take_nil, Nat.zero_add, Nat.reduceAdd]) <;> rfl)); (focus (first | exact rfl | (simp [cutOk, lowOb, lowV, lowCell, lowCell1, low_map]; done)))) | ((with_reducible apply F.call0); exact rfl; exact rfl; (focus (repeat' (first | exact Evs.nil | (apply Evs.cons; exact rfl)))); exact rfl; (focus (first | exact hlf))) | ((first | (with_reducible apply R.cond) | ((with_reducible apply M.guard); exact rfl)); (focus (first | (refine Eq.trans (look_of rfl) ?_; first | (simp only [dtX, *, hl, hcode, List.length_map, List.getElem?_map, Ins.pv, pieceOf, pc] <;> rfl) | exact rfl) | exact look_of rfl))) | refine imp_yes rfl ?_ | exact imp_no rfl | with_reducible apply R.seq | ((with_reducible apply R.region); exact rfl) | ((with_reducible apply R.regionT); exact rfl) | with_reducible apply R.block | ((first | ((with_reducible apply F.store); (iterate 4 exact rfl)) | ((with_reducible apply F.loadS); (iterate 3 exact rfl))); (focus (simp (disch := first | assumption | omega | (simp only [lnX]; omega)) only [LS, storeV, loadV, partV, partP, cut, over, mkAgg, allP, asP, V.cells, PC, elDiv, elMod, elDiv0, Nat.mul_mod_left, Int.toNat_zero, Int.reduceToNat, *, hl, hcode, List.length_map, List.getElem?_map, Ins.pv, pieceOf, pc] <;> rfl))) | (((with_reducible apply F.alloc); exact rfl; exact rfl); (focus (simp only [LS] <;> rfl)); (focus (simp only [LS] <;> rfl))) | ((first | ((with_reducible apply F.buildSlice); exact rfl; exact rfl; (focus (repeat' (first | exact Prs.nil | (apply Prs.cons; exact rfl))))) | ((with_reducible apply F.append); (iterate 8 exact rfl))); (focus (simp (disch := first | assumption | omega | (simp only [lnX]; omega)) only [LS, buildV, fillV, over, buildSliceV, elemsOf, appendV, elems, arrAt, cut, roomy, mkAgg, allP, asP, V.cells, PC, Int.toNat_zero, Int.reduceToNat, *, hl, hcode, List.length_map, List.getElem?_map, Ins.pv, pieceOf, pc] <;> rfl))) | (((with_reducible apply F.indexAddr); (iterate 4 exact rfl)); (focus (simp (disch := first | assumption | omega | (simp only [lnX]; omega)) only [LS, lenV_L, idx_L, below_at, Int.toNat_zero, Int.reduceToNat, *, hl, hcode, List.length_map, List.getElem?_map, Ins.pv, pieceOf, pc] <;> rfl)))
      all_goals exact hend _ _ _ _ _ rfl rfl
    · have hcut : cut (List.map V.p (pcL vars st)) 0 st.length = some (List.map V.p (pcL vars st)) := cut_all (by simp [pcL])
      have hsl : st.length ≤ 31 := by omega
      rcases hop3 with rfl | rfl | rfl
      all_goals
        repeat' first | (with_reducible first | apply M.free | apply M.done | apply E.seqN | apply E.blkN | apply R.skip) | ((with_reducible first | apply F.move | apply F.assign); exact rfl; exact rfl) | ((with_reducible first | apply F.load | apply F.fieldAddr); (iterate 3 exact rfl)) | ((with_reducible apply F.cmp); (iterate 4 exact rfl)) | (((with_reducible apply F.add); (iterate 3 exact rfl)); (focus (first | omega | (simp only [lnX]; omega)))) | ((with_reducible apply R.regs); exact rfl) | ((with_reducible apply Cut.of); (focus (repeat' (first | exact Kp.nil | (apply Kp.cons; exact rfl)))); (focus ((try simp only [List.take_succ_cons, List.take_zero, List.take_nil, Nat.zero_add, Nat.reduceAdd]) <;> rfl)); (focus (first | exact rfl | (simp [cutOk, lowOb, lowV, lowCell, lowCell1, low_map]; done)))) | ((with_reducible apply F.call0); exact rfl; exact rfl; (focus (repeat' (first | exact Evs.nil | (apply Evs.cons; exact rfl)))); exact rfl; (focus (first | exact hlf))) | ((first | (with_reducible apply R.cond) | ((with_reducible apply M.guard); exact rfl)); (focus (first | (refine Eq.trans (look_of rfl) ?_; first | (simp only [dtX, *, hl, hcode, List.length_map, List.getElem?_map, Ins.pv, pieceOf, pc] <;> rfl) | exact rfl) | exact look_of rfl))) | refine imp_yes rfl ?_ | exact imp_no rfl | with_reducible apply R.seq | ((with_reducible apply R.region); exact rfl) | ((with_reducible apply R.regionT); exact rfl) | with_reducible apply R.block | ((with_reducible apply F.append); (iterate 8 exact rfl); (focus (refine Eq.trans (append_arr (by simp) (by decide) (fun p hp => by simp only [List.mem_singleton] at hp; subst hp; rfl) rfl hcut (Nat.zero_le _) (by simp only [List.length_cons, List.length_nil]; omega) (by decide)) ?_; simp only [List.length_cons, List.length_nil, List.cons_append, List.nil_append, List.set_cons_zero, List.set_cons_succ, List.map_cons, List.map_nil, Nat.zero_add, Nat.reduceAdd, Nat.sub_zero]; rfl))) | ((first | ((with_reducible apply F.store); (iterate 4 exact rfl)) | ((with_reducible apply F.loadS); (iterate 3 exact rfl))); (focus (simp (disch := first | assumption | omega | (simp only [lnX]; omega)) only [LS, storeV, loadV, partV, partP, cut, over, mkAgg, allP, asP, V.cells, PC, elDiv, elMod, elDiv0, Nat.mul_mod_left, Int.toNat_zero, Int.reduceToNat, *, hl, hcode, List.length_map, List.getElem?_map, Ins.pv, pieceOf, pc] <;> rfl))) | (((with_reducible apply F.alloc); exact rfl; exact rfl); (focus (simp only [LS] <;> rfl)); (focus (simp only [LS] <;> rfl))) | (((with_reducible apply F.buildSlice); exact rfl; exact rfl; (focus (repeat' (first | exact Prs.nil | (apply Prs.cons; exact rfl))))); (focus (simp (disch := first | assumption | omega | (simp only [lnX]; omega)) only [LS, buildV, fillV, over, buildSliceV, elemsOf, appendV, elems, arrAt, cut, roomy, mkAgg, allP, asP, V.cells, PC, Int.toNat_zero, Int.reduceToNat, *, hl, hcode, List.length_map, List.getElem?_map, Ins.pv, pieceOf, pc] <;> rfl))) | (((with_reducible apply F.indexAddr); (iterate 4 exact rfl)); (focus (simp (disch := first | assumption | omega | (simp only [lnX]; omega)) only [LS, lenV_L, idx_L, below_at, Int.toNat_zero, Int.reduceToNat, *, hl, hcode, List.length_map, List.getElem?_map, Ins.pv, pieceOf, pc] <;> rfl)))
      all_goals exact hend _ _ _ _ _ rfl (by simp [pcL, pieceOf, pc])
  have hne : st ≠ [] := by
    rintro rfl
    have : 1 ≤ takesF a.op := by
      rw [h120, if_neg (by omega)]
      (repeat' split) <;> omega
    simp only [List.length_nil] at c3
    omega
  obtain ⟨-, o1, o2, ver, rfl⟩ := hH.resolve_left (fun h => hne h.1)
  clear hH
  have hsl : st.length ≤ 31 := by omega
  have hw1 : ∀ t ∈ st, (plainF vars t).length ≤ 4503599627370496 := fun t ht => by
    have h1 := plain_len hv t (hok t ht)
    have h2 := mem_wts ht
    omega
  obtain ⟨op, n⟩ := a
  simp only at h3 hop h120
  by_cases h45 : op = 4 ∨ op = 5
  · have ht1 : takesF op = 1 := by rw [h120, if_neg (by omega), if_pos h45]
    obtain ⟨a1, r, rfl⟩ : ∃ a1 r, st = a1 :: r := by
      cases st with
      | nil => exact absurd rfl hne
      | cons a r => exact ⟨a, r, rfl⟩
    have hpush : pushT ⟨op, n⟩ (a1 :: r) = .un ⟨op, n⟩ a1 :: r := by simp [pushT, ht1]
    rw [hpush] at hend
    have hok1 := hok a1 (by simp)
    have hlen1 := hw1 a1 (by simp)
    have hE1 : (List.map V.p (pcL vars (a1 :: r)))[r.length]? = some (.p (pc (plainF vars a1) (48 + a1.rank) (bareT a1))) := by simp [pcL, pieceOf]
    have hcut : cut (List.map V.p (pcL vars (a1 :: r))) 0 r.length = some (List.map V.p (pcL vars r)) := by
      have : List.map V.p (pcL vars (a1 :: r)) = List.map V.p (pcL vars r) ++ [V.p (pieceOf vars a1)] := by simp [pcL]
      rw [this]
      exact cut_pre (by simp [pcL])
    have hTake := fun o2' o3 => take_run ver 1 (r.length + 1) (by omega) (by simp only [List.length_cons] at hsl; omega) (by decide) (.box 0 [.p o1, .p o2]) o2' o3
    simp only [Nat.add_sub_cancel] at hTake
    have g1 := held_len (plainF vars a1) 0 54
    have g2 := held_len (plainF vars a1) (48 + a1.rank) 54
    have hrl : r.length ≤ 30 := by simp only [List.length_cons] at hsl; omega
    simp only [pc] at hE1
    have hH1 := (held_run (plainF vars a1) (by omega) 0 54 (bareT a1)).fv
    have hH2 := (held_run (plainF vars a1) (by omega) (48 + a1.rank) 54 (bareT a1)).fv
    have hP4 : pieceOf vars (.un ⟨4, n⟩ a1) = .agg [.str (45 :: heldF (plainF vars a1) (if bareT a1 = true then 0 else 48 + a1.rank) 54), .int .u8 54, .bool false] := by rw [← un_neg n a1 hok1]; rfl
    have hP5 : pieceOf vars (.un ⟨5, n⟩ a1) = .agg [.str (33 :: heldF (plainF vars a1) (48 + a1.rank) 54), .int .u8 54, .bool false] := by rw [← un_not n a1]; rfl
    have hlc : (a1 :: r).length = r.length + 1 := rfl
    rw [hlc]
    generalize List.map V.p (pcL vars (a1 :: r)) = es at *
    clear hpo hpl hpush hleaf h120 hok c1 c2 c3 hw1 hlc
    rcases h45 with rfl | rfl
    · by_cases hbare : bareT a1 = true
      · rw [hbare] at hE1 hH1 hH2
        rw [if_pos hbare] at hP4
        repeat' first | (with_reducible first | apply M.free | apply M.done | apply E.seqN | apply E.blkN | apply R.skip) | ((with_reducible first | apply F.move | apply F.assign); exact rfl; exact rfl) | ((with_reducible first | apply F.load | apply F.fieldAddr); (iterate 3 exact rfl)) | ((with_reducible apply F.cmp); (iterate 4 exact rfl)) | ((first | ((with_reducible apply F.add); (iterate 3 exact rfl)) | ((with_reducible apply F.adds); (iterate 3 exact rfl))); (focus (first | omega | (simp only [lnX]; omega)))) | ((with_reducible apply R.regs); exact rfl) | ((with_reducible apply Cut.of); (focus (repeat' (first | exact Kp.nil | (apply Kp.cons; exact rfl)))); (focus ((try simp only [List.take_succ_cons, List.take_zero, List.take_nil, Nat.zero_add, Nat.reduceAdd]) <;> rfl)); (focus (first | exact rfl | (simp [cutOk, lowOb, lowV, lowCell, lowCell1, low_map]; done)))) | ((with_reducible apply F.call0); exact rfl; exact rfl; (focus (repeat' (first | exact Evs.nil | (apply Evs.cons; exact rfl)))); exact rfl; (focus (first | exact hH1))) | (((with_reducible apply F.callC); exact rfl; exact rfl; (focus (repeat' (first | exact Evs.nil | (apply Evs.cons; exact rfl))))); (focus (first | exact hTake _ _))) | ((first | (with_reducible apply R.cond) | ((with_reducible apply M.guard); exact rfl)); (focus (first | (refine Eq.trans (look_of rfl) ?_; first | (simp only [dtX, *, hl, hcode, List.length_map, List.getElem?_map, Ins.pv, pc] <;> rfl) | exact rfl) | exact look_of rfl))) | refine imp_yes rfl ?_ | exact imp_no rfl | with_reducible apply R.seq | ((with_reducible apply R.region); exact rfl) | ((with_reducible apply R.regionT); exact rfl) | with_reducible apply R.block | ((with_reducible apply F.append); (iterate 8 exact rfl); (focus (refine Eq.trans (append_arr (by simp) (by decide) (fun p hp => by simp only [List.mem_singleton] at hp; subst hp; rfl) rfl hcut (Nat.zero_le _) (by simp only [List.length_cons, List.length_nil]; omega) (by decide)) ?_; simp only [List.length_cons, List.length_nil, List.cons_append, List.nil_append, List.set_cons_zero, List.set_cons_succ, List.map_cons, List.map_nil, Nat.zero_add, Nat.reduceAdd, Nat.sub_zero]; rfl))) | ((first | ((with_reducible apply F.store); (iterate 4 exact rfl)) | ((with_reducible apply F.loadS); (iterate 3 exact rfl))); (focus (simp (disch := first | assumption | omega | (simp only [lnX]; omega)) only [LS, storeV, loadV, partV, partP, cut, over, mkAgg, allP, asP, V.cells, PC, elDiv, elMod, elDiv0, Nat.mul_mod_left, Int.toNat_zero, Int.reduceToNat, *, hl, hcode, List.length_map, List.getElem?_map, Ins.pv, pc] <;> rfl))) | (((with_reducible apply F.alloc); exact rfl; exact rfl); (focus (simp only [LS] <;> rfl)); (focus (simp only [LS] <;> rfl))) | ((first | ((with_reducible apply F.build); exact rfl; exact rfl; (focus (repeat' (first | exact Prs.nil | (apply Prs.cons; exact rfl))))) | ((with_reducible apply F.buildSlice); exact rfl; exact rfl; (focus (repeat' (first | exact Prs.nil | (apply Prs.cons; exact rfl)))))); (focus (simp (disch := first | assumption | omega | (simp only [lnX]; omega)) only [LS, buildV, fillV, over, buildSliceV, elemsOf, appendV, elems, arrAt, cut, roomy, mkAgg, allP, asP, V.cells, PC, Int.toNat_zero, Int.reduceToNat, *, hl, hcode, List.length_map, List.getElem?_map, Ins.pv, pc] <;> rfl))) | (((with_reducible apply F.indexAddr); (iterate 4 exact rfl)); (focus (simp (disch := first | assumption | omega | (simp only [lnX]; omega)) only [LS, lenV_L, idx_L, below_at, Int.toNat_zero, Int.reduceToNat, *, hl, hcode, List.length_map, List.getElem?_map, Ins.pv, pc] <;> rfl))) | (((with_reducible apply F.indexAddr); (iterate 4 exact rfl)); (focus (simp (disch := first | assumption | omega | (simp only [lnX]; omega)) only [LS, indexAddrV, indexV, below_at, fieldV, fieldAddrV, convP, bytesOf, sliceV, bounds, bMax, bHi, bLo, upTo_at, makeFuncV, partV, partP, cut, binI, binS, binV, binP, arith, strOp_add, strOp_eql, strOp_neq, eqn, wrap64, wrap8, mkAgg, allP, asP, Option.getD_none, Int.toNat_zero, Int.reduceToNat, *, hl, hcode, List.length_map, List.getElem?_map, Ins.pv, pc] <;> rfl)))
        all_goals exact hend _ _ _ _ _ (by simp) (by simp only [pcL, List.reverse_cons, List.map_append, List.map_cons, List.map_nil, hP4])
      · have hbare : bareT a1 = false := by simpa using hbare
        rw [hbare] at hE1 hH1 hH2
        rw [hbare, if_neg (by decide)] at hP4
        repeat' first | (with_reducible first | apply M.free | apply M.done | apply E.seqN | apply E.blkN | apply R.skip) | ((with_reducible first | apply F.move | apply F.assign); exact rfl; exact rfl) | ((with_reducible first | apply F.load | apply F.fieldAddr); (iterate 3 exact rfl)) | ((with_reducible apply F.cmp); (iterate 4 exact rfl)) | ((first | ((with_reducible apply F.add); (iterate 3 exact rfl)) | ((with_reducible apply F.adds); (iterate 3 exact rfl))); (focus (first | omega | (simp only [lnX]; omega)))) | ((with_reducible apply R.regs); exact rfl) | ((with_reducible apply Cut.of); (focus (repeat' (first | exact Kp.nil | (apply Kp.cons; exact rfl)))); (focus ((try simp only [List.take_succ_cons, List.take_zero, List.take_nil, Nat.zero_add, Nat.reduceAdd]) <;> rfl)); (focus (first | exact rfl | (simp [cutOk, lowOb, lowV, lowCell, lowCell1, low_map]; done)))) | ((with_reducible apply F.call0); exact rfl; exact rfl; (focus (repeat' (first | exact Evs.nil | (apply Evs.cons; exact rfl)))); exact rfl; (focus (first | exact hH2))) | (((with_reducible apply F.callC); exact rfl; exact rfl; (focus (repeat' (first | exact Evs.nil | (apply Evs.cons; exact rfl))))); (focus (first | exact hTake _ _))) | ((first | (with_reducible apply R.cond) | ((with_reducible apply M.guard); exact rfl)); (focus (first | (refine Eq.trans (look_of rfl) ?_; first | (simp only [dtX, *, hl, hcode, List.length_map, List.getElem?_map, Ins.pv, pc] <;> rfl) | exact rfl) | exact look_of rfl))) | refine imp_yes rfl ?_ | exact imp_no rfl | with_reducible apply R.seq | ((with_reducible apply R.region); exact rfl) | ((with_reducible apply R.regionT); exact rfl) | with_reducible apply R.block | ((with_reducible apply F.append); (iterate 8 exact rfl); (focus (refine Eq.trans (append_arr (by simp) (by decide) (fun p hp => by simp only [List.mem_singleton] at hp; subst hp; rfl) rfl hcut (Nat.zero_le _) (by simp only [List.length_cons, List.length_nil]; omega) (by decide)) ?_; simp only [List.length_cons, List.length_nil, List.cons_append, List.nil_append, List.set_cons_zero, List.set_cons_succ, List.map_cons, List.map_nil, Nat.zero_add, Nat.reduceAdd, Nat.sub_zero]; rfl))) | ((first | ((with_reducible apply F.store); (iterate 4 exact rfl)) | ((with_reducible apply F.loadS); (iterate 3 exact rfl))); (focus (simp (disch := first | assumption | omega | (simp only [lnX]; omega)) only [LS, storeV, loadV, partV, partP, cut, over, mkAgg, allP, asP, V.cells, PC, elDiv, elMod, elDiv0, Nat.mul_mod_left, Int.toNat_zero, Int.reduceToNat, *, hl, hcode, List.length_map, List.getElem?_map, Ins.pv, pc] <;> rfl))) | (((with_reducible apply F.alloc); exact rfl; exact rfl); (focus (simp only [LS] <;> rfl)); (focus (simp only [LS] <;> rfl))) | ((first | ((with_reducible apply F.build); exact rfl; exact rfl; (focus (repeat' (first | exact Prs.nil | (apply Prs.cons; exact rfl))))) | ((with_reducible apply F.buildSlice); exact rfl; exact rfl; (focus (repeat' (first | exact Prs.nil | (apply Prs.cons; exact rfl)))))); (focus (simp (disch := first | assumption | omega | (simp only [lnX]; omega)) only [LS, buildV, fillV, over, buildSliceV, elemsOf, appendV, elems, arrAt, cut, roomy, mkAgg, allP, asP, V.cells, PC, Int.toNat_zero, Int.reduceToNat, *, hl, hcode, List.length_map, List.getElem?_map, Ins.pv, pc] <;> rfl))) | (((with_reducible apply F.indexAddr); (iterate 4 exact rfl)); (focus (simp (disch := first | assumption | omega | (simp only [lnX]; omega)) only [LS, lenV_L, idx_L, below_at, Int.toNat_zero, Int.reduceToNat, *, hl, hcode, List.length_map, List.getElem?_map, Ins.pv, pc] <;> rfl))) | (((with_reducible apply F.indexAddr); (iterate 4 exact rfl)); (focus (simp (disch := first | assumption | omega | (simp only [lnX]; omega)) only [LS, indexAddrV, indexV, below_at, fieldV, fieldAddrV, convP, bytesOf, sliceV, bounds, bMax, bHi, bLo, upTo_at, makeFuncV, partV, partP, cut, binI, binS, binV, binP, arith, strOp_add, strOp_eql, strOp_neq, eqn, wrap64, wrap8, mkAgg, allP, asP, Option.getD_none, Int.toNat_zero, Int.reduceToNat, *, hl, hcode, List.length_map, List.getElem?_map, Ins.pv, pc] <;> rfl)))
        all_goals exact hend _ _ _ _ _ (by simp) (by simp only [pcL, List.reverse_cons, List.map_append, List.map_cons, List.map_nil, hP4])
    · repeat' first | (with_reducible first | apply M.free | apply M.done | apply E.seqN | apply E.blkN | apply R.skip) | ((with_reducible first | apply F.move | apply F.assign); exact rfl; exact rfl) | ((with_reducible first | apply F.load | apply F.fieldAddr); (iterate 3 exact rfl)) | ((with_reducible apply F.cmp); (iterate 4 exact rfl)) | ((first | ((with_reducible apply F.add); (iterate 3 exact rfl)) | ((with_reducible apply F.adds); (iterate 3 exact rfl))); (focus (first | omega | (simp only [lnX]; omega)))) | ((with_reducible apply R.regs); exact rfl) | ((with_reducible apply Cut.of); (focus (repeat' (first | exact Kp.nil | (apply Kp.cons; exact rfl)))); (focus ((try simp only [List.take_succ_cons, List.take_zero, List.take_nil, Nat.zero_add, Nat.reduceAdd]) <;> rfl)); (focus (first | exact rfl | (simp [cutOk, lowOb, lowV, lowCell, lowCell1, low_map]; done)))) | ((with_reducible apply F.call0); exact rfl; exact rfl; (focus (repeat' (first | exact Evs.nil | (apply Evs.cons; exact rfl)))); exact rfl; (focus (first | exact hH2))) | (((with_reducible apply F.callC); exact rfl; exact rfl; (focus (repeat' (first | exact Evs.nil | (apply Evs.cons; exact rfl))))); (focus (first | exact hTake _ _))) | ((first | (with_reducible apply R.cond) | ((with_reducible apply M.guard); exact rfl)); (focus (first | (refine Eq.trans (look_of rfl) ?_; first | (simp only [dtX, *, hl, hcode, List.length_map, List.getElem?_map, Ins.pv, pc] <;> rfl) | exact rfl) | exact look_of rfl))) | refine imp_yes rfl ?_ | exact imp_no rfl | with_reducible apply R.seq | ((with_reducible apply R.region); exact rfl) | ((with_reducible apply R.regionT); exact rfl) | with_reducible apply R.block | ((with_reducible apply F.append); (iterate 8 exact rfl); (focus (refine Eq.trans (append_arr (by simp) (by decide) (fun p hp => by simp only [List.mem_singleton] at hp; subst hp; rfl) rfl hcut (Nat.zero_le _) (by simp only [List.length_cons, List.length_nil]; omega) (by decide)) ?_; simp only [List.length_cons, List.length_nil, List.cons_append, List.nil_append, List.set_cons_zero, List.set_cons_succ, List.map_cons, List.map_nil, Nat.zero_add, Nat.reduceAdd, Nat.sub_zero]; rfl))) | ((first | ((with_reducible apply F.store); (iterate 4 exact rfl)) | ((with_reducible apply F.loadS); (iterate 3 exact rfl))); (focus (simp (disch := first | assumption | omega | (simp only [lnX]; omega)) only [LS, storeV, loadV, partV, partP, cut, over, mkAgg, allP, asP, V.cells, PC, elDiv, elMod, elDiv0, Nat.mul_mod_left, Int.toNat_zero, Int.reduceToNat, *, hl, hcode, List.length_map, List.getElem?_map, Ins.pv, pc] <;> rfl))) | (((with_reducible apply F.alloc); exact rfl; exact rfl); (focus (simp only [LS] <;> rfl)); (focus (simp only [LS] <;> rfl))) | ((first | ((with_reducible apply F.build); exact rfl; exact rfl; (focus (repeat' (first | exact Prs.nil | (apply Prs.cons; exact rfl))))) | ((with_reducible apply F.buildSlice); exact rfl; exact rfl; (focus (repeat' (first | exact Prs.nil | (apply Prs.cons; exact rfl)))))); (focus (simp (disch := first | assumption | omega | (simp only [lnX]; omega)) only [LS, buildV, fillV, over, buildSliceV, elemsOf, appendV, elems, arrAt, cut, roomy, mkAgg, allP, asP, V.cells, PC, Int.toNat_zero, Int.reduceToNat, *, hl, hcode, List.length_map, List.getElem?_map, Ins.pv, pc] <;> rfl))) | (((with_reducible apply F.indexAddr); (iterate 4 exact rfl)); (focus (simp (disch := first | assumption | omega | (simp only [lnX]; omega)) only [LS, lenV_L, idx_L, below_at, Int.toNat_zero, Int.reduceToNat, *, hl, hcode, List.length_map, List.getElem?_map, Ins.pv, pc] <;> rfl))) | (((with_reducible apply F.indexAddr); (iterate 4 exact rfl)); (focus (simp (disch := first | assumption | omega | (simp only [lnX]; omega)) only [LS, indexAddrV, indexV, below_at, fieldV, fieldAddrV, convP, bytesOf, sliceV, bounds, bMax, bHi, bLo, upTo_at, makeFuncV, partV, partP, cut, binI, binS, binV, binP, arith, strOp_add, strOp_eql, strOp_neq, eqn, wrap64, wrap8, mkAgg, allP, asP, Option.getD_none, Int.toNat_zero, Int.reduceToNat, *, hl, hcode, List.length_map, List.getElem?_map, Ins.pv, pc] <;> rfl)))
      all_goals exact hend _ _ _ _ _ (by simp) (by simp only [pcL, List.reverse_cons, List.map_append, List.map_cons, List.map_nil, hP5])
  by_cases h16 : op = 16
  · subst h16
    have ht3 : takesF 16 = 3 := rfl
    obtain ⟨c', b', a', r, rfl⟩ : ∃ c' b' a' r, st = c' :: b' :: a' :: r := by
      match st, c3 with
      | [], c3 => exact absurd rfl hne
      | [a], c3 => rw [ht3] at c3; simp at c3
      | [b, a], c3 => rw [ht3] at c3; simp at c3
      | c :: b :: a :: r, _ => exact ⟨c, b, a, r, rfl⟩
    have hpush : pushT ⟨16, n⟩ (c' :: b' :: a' :: r) = .tri ⟨16, n⟩ a' b' c' :: r := by simp [pushT, ht3]
    rw [hpush] at hend
    have l1 := hw1 a' (by simp)
    have l2 := hw1 b' (by simp)
    have l3 := hw1 c' (by simp)
    have hes : List.map V.p (pcL vars (c' :: b' :: a' :: r)) = List.map V.p (pcL vars r) ++ [V.p (pieceOf vars a'), V.p (pieceOf vars b'), V.p (pieceOf vars c')] := by simp [pcL]
    have hlr : (List.map V.p (pcL vars r)).length = r.length := by simp [pcL]
    have hE1 : (List.map V.p (pcL vars (c' :: b' :: a' :: r)))[r.length]? = some (.p (pc (plainF vars a') (48 + a'.rank) (bareT a'))) := by rw [hes, List.getElem?_append_right (by omega), hlr, Nat.sub_self]; rfl
    have hE2 : (List.map V.p (pcL vars (c' :: b' :: a' :: r)))[r.length + 1]? = some (.p (pc (plainF vars b') (48 + b'.rank) (bareT b'))) := by rw [hes, List.getElem?_append_right (by omega), hlr, Nat.add_sub_cancel_left]; rfl
    have hE3 : (List.map V.p (pcL vars (c' :: b' :: a' :: r)))[r.length + 2]? = some (.p (pc (plainF vars c') (48 + c'.rank) (bareT c'))) := by rw [hes, List.getElem?_append_right (by omega), hlr, Nat.add_sub_cancel_left]; rfl
    have hcut : cut (List.map V.p (pcL vars (c' :: b' :: a' :: r))) 0 r.length = some (List.map V.p (pcL vars r)) := by
      rw [hes]
      exact cut_pre hlr.symm
    have hTake := fun o2' o3 => take_run ver 3 (r.length + 3) (by omega) (by simp only [List.length_cons] at hsl; omega) (by decide) (.box 0 [.p o1, .p o2]) o2' o3
    simp only [Nat.add_sub_cancel] at hTake
    have hrl : r.length ≤ 30 := by simp only [List.length_cons] at hsl; omega
    simp only [pc] at hE1 hE2 hE3
    have hP : pieceOf vars (.tri ⟨16, n⟩ a' b' c') = .agg [.str (plainF vars (.tri ⟨16, n⟩ a' b' c')), .int .u8 55, .bool false] := rfl
    simp only [plainF] at hP
    have hlc : (c' :: b' :: a' :: r).length = r.length + 3 := rfl
    rw [hlc]
    clear hes hlr
    generalize List.map V.p (pcL vars (c' :: b' :: a' :: r)) = es at *
    clear hpo hpl hpush hleaf h120 hok c1 c2 c3 hw1 hlc
    repeat' first | (with_reducible first | apply M.free | apply M.done | apply E.seqN | apply E.blkN | apply R.skip) | ((with_reducible first | apply F.move | apply F.assign); exact rfl; exact rfl) | ((with_reducible first | apply F.load | apply F.fieldAddr); (iterate 3 exact rfl)) | ((with_reducible apply F.cmp); (iterate 4 exact rfl)) | ((first | ((with_reducible apply F.add); (iterate 3 exact rfl)) | ((with_reducible apply F.adds); (iterate 3 exact rfl))); (focus (first | omega | (simp only [lnX]; omega)))) | ((with_reducible apply R.regs); exact rfl) | ((with_reducible apply Cut.of); (focus (repeat' (first | exact Kp.nil | (apply Kp.cons; exact rfl)))); (focus ((try simp only [List.take_succ_cons, List.take_zero, List.take_nil, Nat.zero_add, Nat.reduceAdd]) <;> rfl)); (focus (first | exact rfl | (simp [cutOk, lowOb, lowV, lowCell, lowCell1, low_map]; done)))) | (((with_reducible apply F.callC); exact rfl; exact rfl; (focus (repeat' (first | exact Evs.nil | (apply Evs.cons; exact rfl))))); (focus (first | exact hTake _ _))) | ((first | (with_reducible apply R.cond) | ((with_reducible apply M.guard); exact rfl)); (focus (first | (refine Eq.trans (look_of rfl) ?_; first | (simp only [dtX, *, hl, hcode, List.length_map, List.getElem?_map, Ins.pv, pc] <;> rfl) | exact rfl) | exact look_of rfl))) | refine imp_yes rfl ?_ | exact imp_no rfl | with_reducible apply R.seq | ((with_reducible apply R.region); exact rfl) | ((with_reducible apply R.regionT); exact rfl) | with_reducible apply R.block | ((with_reducible apply F.append); (iterate 8 exact rfl); (focus (refine Eq.trans (append_arr (by simp) (by decide) (fun p hp => by simp only [List.mem_singleton] at hp; subst hp; rfl) rfl hcut (Nat.zero_le _) (by simp only [List.length_cons, List.length_nil]; omega) (by decide)) ?_; simp only [List.length_cons, List.length_nil, List.cons_append, List.nil_append, List.set_cons_zero, List.set_cons_succ, List.map_cons, List.map_nil, Nat.zero_add, Nat.reduceAdd, Nat.sub_zero]; rfl))) | ((first | ((with_reducible apply F.store); (iterate 4 exact rfl)) | ((with_reducible apply F.loadS); (iterate 3 exact rfl))); (focus (simp (disch := first | assumption | omega | (simp only [lnX]; omega)) only [LS, storeV, loadV, partV, partP, cut, over, mkAgg, allP, asP, V.cells, PC, elDiv, elMod, elDiv0, Nat.mul_mod_left, Int.toNat_zero, Int.reduceToNat, *, hl, hcode, List.length_map, List.getElem?_map, Ins.pv, pc] <;> rfl))) | (((with_reducible apply F.alloc); exact rfl; exact rfl); (focus (simp only [LS] <;> rfl)); (focus (simp only [LS] <;> rfl))) | ((first | ((with_reducible apply F.build); exact rfl; exact rfl; (focus (repeat' (first | exact Prs.nil | (apply Prs.cons; exact rfl))))) | ((with_reducible apply F.buildSlice); exact rfl; exact rfl; (focus (repeat' (first | exact Prs.nil | (apply Prs.cons; exact rfl)))))); (focus (simp (disch := first | assumption | omega | (simp only [lnX]; omega)) only [LS, buildV, fillV, over, buildSliceV, elemsOf, appendV, elems, arrAt, cut, roomy, mkAgg, allP, asP, V.cells, PC, Int.toNat_zero, Int.reduceToNat, *, hl, hcode, List.length_map, List.getElem?_map, Ins.pv, pc] <;> rfl))) | (((with_reducible apply F.indexAddr); (iterate 4 exact rfl)); (focus (simp (disch := first | assumption | omega | (simp only [lnX]; omega)) only [LS, lenV_L, idx_L, below_at, Int.toNat_zero, Int.reduceToNat, *, hl, hcode, List.length_map, List.getElem?_map, Ins.pv, pc] <;> rfl))) | (((with_reducible apply F.indexAddr); (iterate 4 exact rfl)); (focus (simp (disch := first | assumption | omega | (simp only [lnX]; omega)) only [LS, indexAddrV, indexV, below_at, fieldV, fieldAddrV, convP, bytesOf, sliceV, bounds, bMax, bHi, bLo, upTo_at, makeFuncV, partV, partP, cut, binI, binS, binV, binP, arith, strOp_add, strOp_eql, strOp_neq, eqn, wrap64, wrap8, mkAgg, allP, asP, Option.getD_none, Int.toNat_zero, Int.reduceToNat, *, hl, hcode, List.length_map, List.getElem?_map, Ins.pv, pc] <;> rfl)))
    all_goals exact hend _ _ _ _ _ (by simp) (by simp only [pcL, List.reverse_cons, List.map_append, List.map_cons, List.map_nil, hP]; rfl)
  have ht2 : takesF op = 2 := by rw [h120, if_neg (by omega), if_neg h45, if_pos (by omega)]
  obtain ⟨b', a', r, rfl⟩ : ∃ b' a' r, st = b' :: a' :: r := by
    match st, c3 with
    | [], c3 => exact absurd rfl hne
    | [a], c3 => rw [ht2] at c3; simp at c3
    | b :: a :: r, _ => exact ⟨b, a, r, rfl⟩
  have hpush : pushT ⟨op, n⟩ (b' :: a' :: r) = .bin ⟨op, n⟩ a' b' :: r := by simp [pushT, ht2]
  rw [hpush] at hend
  have l1 := hw1 a' (by simp)
  have l2 := hw1 b' (by simp)
  have hes : List.map V.p (pcL vars (b' :: a' :: r)) = List.map V.p (pcL vars r) ++ [V.p (pieceOf vars a'), V.p (pieceOf vars b')] := by simp [pcL]
  have hlr : (List.map V.p (pcL vars r)).length = r.length := by simp [pcL]
  have hE1 : (List.map V.p (pcL vars (b' :: a' :: r)))[r.length]? = some (.p (pc (plainF vars a') (48 + a'.rank) (bareT a'))) := by rw [hes, List.getElem?_append_right (by omega), hlr, Nat.sub_self]; rfl
  have hE2 : (List.map V.p (pcL vars (b' :: a' :: r)))[r.length + 1]? = some (.p (pc (plainF vars b') (48 + b'.rank) (bareT b'))) := by rw [hes, List.getElem?_append_right (by omega), hlr, Nat.add_sub_cancel_left]; rfl
  have hcut : cut (List.map V.p (pcL vars (b' :: a' :: r))) 0 r.length = some (List.map V.p (pcL vars r)) := by
    rw [hes]
    exact cut_pre hlr.symm
  have hTake := fun o2' o3 => take_run ver 2 (r.length + 2) (by omega) (by simp only [List.length_cons] at hsl; omega) (by decide) (.box 0 [.p o1, .p o2]) o2' o3
  simp only [Nat.add_sub_cancel] at hTake
  have hrl : r.length ≤ 30 := by simp only [List.length_cons] at hsl; omega
  have hlc : (b' :: a' :: r).length = r.length + 2 := rfl
  rw [hlc]
  clear hes hlr
  generalize List.map V.p (pcL vars (b' :: a' :: r)) = es at *
  clear hpo hpl hpush hleaf h120 hok c1 c2 c3 hw1 hlc
  by_cases h910 : op = 9 ∨ op = 10
  · simp only [pc] at hE1 hE2
    have hP9 : pieceOf vars (.bin ⟨9, n⟩ a' b') = .agg [.str (plainF vars (.bin ⟨9, n⟩ a' b')), .int .u8 55, .bool false] := rfl
    have hP10 : pieceOf vars (.bin ⟨10, n⟩ a' b') = .agg [.str (plainF vars (.bin ⟨10, n⟩ a' b')), .int .u8 55, .bool false] := rfl
    have e9 : plainF vars (.bin ⟨9, n⟩ a' b') = [109, 105, 110, 40] ++ plainF vars a' ++ [44, 32] ++ plainF vars b' ++ [41] := rfl
    have e10 : plainF vars (.bin ⟨10, n⟩ a' b') = [109, 97, 120, 40] ++ plainF vars a' ++ [44, 32] ++ plainF vars b' ++ [41] := rfl
    rw [e9] at hP9
    rw [e10] at hP10
    clear e9 e10
    rcases h910 with rfl | rfl
    · repeat' first | (with_reducible first | apply M.free | apply M.done | apply E.seqN | apply E.blkN | apply R.skip) | ((with_reducible first | apply F.move | apply F.assign); exact rfl; exact rfl) | ((with_reducible first | apply F.load | apply F.fieldAddr); (iterate 3 exact rfl)) | ((with_reducible apply F.cmp); (iterate 4 exact rfl)) | ((first | ((with_reducible apply F.add); (iterate 3 exact rfl)) | ((with_reducible apply F.adds); (iterate 3 exact rfl))); (focus (first | omega | (simp only [lnX]; omega)))) | ((with_reducible apply R.regs); exact rfl) | ((with_reducible apply Cut.of); (focus (repeat' (first | exact Kp.nil | (apply Kp.cons; exact rfl)))); (focus ((try simp only [List.take_succ_cons, List.take_zero, List.take_nil, Nat.zero_add, Nat.reduceAdd]) <;> rfl)); (focus (first | exact rfl | (simp [cutOk, lowOb, lowV, lowCell, lowCell1, low_map]; done)))) | (((with_reducible apply F.callC); exact rfl; exact rfl; (focus (repeat' (first | exact Evs.nil | (apply Evs.cons; exact rfl))))); (focus (first | exact hTake _ _))) | ((first | (with_reducible apply R.cond) | ((with_reducible apply M.guard); exact rfl)); (focus (first | (refine Eq.trans (look_of rfl) ?_; first | (simp only [dtX, *, hl, hcode, List.length_map, List.getElem?_map, Ins.pv, pc] <;> rfl) | exact rfl) | exact look_of rfl))) | refine imp_yes rfl ?_ | exact imp_no rfl | with_reducible apply R.seq | ((with_reducible apply R.region); exact rfl) | ((with_reducible apply R.regionT); exact rfl) | with_reducible apply R.block | ((with_reducible apply F.append); (iterate 8 exact rfl); (focus (refine Eq.trans (append_arr (by simp) (by decide) (fun p hp => by simp only [List.mem_singleton] at hp; subst hp; rfl) rfl hcut (Nat.zero_le _) (by simp only [List.length_cons, List.length_nil]; omega) (by decide)) ?_; simp only [List.length_cons, List.length_nil, List.cons_append, List.nil_append, List.set_cons_zero, List.set_cons_succ, List.map_cons, List.map_nil, Nat.zero_add, Nat.reduceAdd, Nat.sub_zero]; rfl))) | ((first | ((with_reducible apply F.store); (iterate 4 exact rfl)) | ((with_reducible apply F.loadS); (iterate 3 exact rfl))); (focus (simp (disch := first | assumption | omega | (simp only [lnX]; omega)) only [LS, storeV, loadV, partV, partP, cut, over, mkAgg, allP, asP, V.cells, PC, elDiv, elMod, elDiv0, Nat.mul_mod_left, Int.toNat_zero, Int.reduceToNat, *, hl, hcode, List.length_map, List.getElem?_map, Ins.pv, pc] <;> rfl))) | (((with_reducible apply F.alloc); exact rfl; exact rfl); (focus (simp only [LS] <;> rfl)); (focus (simp only [LS] <;> rfl))) | ((first | ((with_reducible apply F.build); exact rfl; exact rfl; (focus (repeat' (first | exact Prs.nil | (apply Prs.cons; exact rfl))))) | ((with_reducible apply F.buildSlice); exact rfl; exact rfl; (focus (repeat' (first | exact Prs.nil | (apply Prs.cons; exact rfl)))))); (focus (simp (disch := first | assumption | omega | (simp only [lnX]; omega)) only [LS, buildV, fillV, over, buildSliceV, elemsOf, appendV, elems, arrAt, cut, roomy, mkAgg, allP, asP, V.cells, PC, Int.toNat_zero, Int.reduceToNat, *, hl, hcode, List.length_map, List.getElem?_map, Ins.pv, pc] <;> rfl))) | (((with_reducible apply F.indexAddr); (iterate 4 exact rfl)); (focus (simp (disch := first | assumption | omega | (simp only [lnX]; omega)) only [LS, lenV_L, idx_L, below_at, Int.toNat_zero, Int.reduceToNat, *, hl, hcode, List.length_map, List.getElem?_map, Ins.pv, pc] <;> rfl))) | (((with_reducible apply F.indexAddr); (iterate 4 exact rfl)); (focus (simp (disch := first | assumption | omega | (simp only [lnX]; omega)) only [LS, indexAddrV, indexV, below_at, fieldV, fieldAddrV, convP, bytesOf, sliceV, bounds, bMax, bHi, bLo, upTo_at, makeFuncV, partV, partP, cut, binI, binS, binV, binP, arith, strOp_add, strOp_eql, strOp_neq, eqn, wrap64, wrap8, mkAgg, allP, asP, Option.getD_none, Int.toNat_zero, Int.reduceToNat, *, hl, hcode, List.length_map, List.getElem?_map, Ins.pv, pc] <;> rfl)))
      all_goals exact hend _ _ _ _ _ (by simp) (by simp only [pcL, List.reverse_cons, List.map_append, List.map_cons, List.map_nil, hP9]; rfl)
    · repeat' first | (with_reducible first | apply M.free | apply M.done | apply E.seqN | apply E.blkN | apply R.skip) | ((with_reducible first | apply F.move | apply F.assign); exact rfl; exact rfl) | ((with_reducible first | apply F.load | apply F.fieldAddr); (iterate 3 exact rfl)) | ((with_reducible apply F.cmp); (iterate 4 exact rfl)) | ((first | ((with_reducible apply F.add); (iterate 3 exact rfl)) | ((with_reducible apply F.adds); (iterate 3 exact rfl))); (focus (first | omega | (simp only [lnX]; omega)))) | ((with_reducible apply R.regs); exact rfl) | ((with_reducible apply Cut.of); (focus (repeat' (first | exact Kp.nil | (apply Kp.cons; exact rfl)))); (focus ((try simp only [List.take_succ_cons, List.take_zero, List.take_nil, Nat.zero_add, Nat.reduceAdd]) <;> rfl)); (focus (first | exact rfl | (simp [cutOk, lowOb, lowV, lowCell, lowCell1, low_map]; done)))) | (((with_reducible apply F.callC); exact rfl; exact rfl; (focus (repeat' (first | exact Evs.nil | (apply Evs.cons; exact rfl))))); (focus (first | exact hTake _ _))) | ((first | (with_reducible apply R.cond) | ((with_reducible apply M.guard); exact rfl)); (focus (first | (refine Eq.trans (look_of rfl) ?_; first | (simp only [dtX, *, hl, hcode, List.length_map, List.getElem?_map, Ins.pv, pc] <;> rfl) | exact rfl) | exact look_of rfl))) | refine imp_yes rfl ?_ | exact imp_no rfl | with_reducible apply R.seq | ((with_reducible apply R.region); exact rfl) | ((with_reducible apply R.regionT); exact rfl) | with_reducible apply R.block | ((with_reducible apply F.append); (iterate 8 exact rfl); (focus (refine Eq.trans (append_arr (by simp) (by decide) (fun p hp => by simp only [List.mem_singleton] at hp; subst hp; rfl) rfl hcut (Nat.zero_le _) (by simp only [List.length_cons, List.length_nil]; omega) (by decide)) ?_; simp only [List.length_cons, List.length_nil, List.cons_append, List.nil_append, List.set_cons_zero, List.set_cons_succ, List.map_cons, List.map_nil, Nat.zero_add, Nat.reduceAdd, Nat.sub_zero]; rfl))) | ((first | ((with_reducible apply F.store); (iterate 4 exact rfl)) | ((with_reducible apply F.loadS); (iterate 3 exact rfl))); (focus (simp (disch := first | assumption | omega | (simp only [lnX]; omega)) only [LS, storeV, loadV, partV, partP, cut, over, mkAgg, allP, asP, V.cells, PC, elDiv, elMod, elDiv0, Nat.mul_mod_left, Int.toNat_zero, Int.reduceToNat, *, hl, hcode, List.length_map, List.getElem?_map, Ins.pv, pc] <;> rfl))) | (((with_reducible apply F.alloc); exact rfl; exact rfl); (focus (simp only [LS] <;> rfl)); (focus (simp only [LS] <;> rfl))) | ((first | ((with_reducible apply F.build); exact rfl; exact rfl; (focus (repeat' (first | exact Prs.nil | (apply Prs.cons; exact rfl))))) | ((with_reducible apply F.buildSlice); exact rfl; exact rfl; (focus (repeat' (first | exact Prs.nil | (apply Prs.cons; exact rfl)))))); (focus (simp (disch := first | assumption | omega | (simp only [lnX]; omega)) only [LS, buildV, fillV, over, buildSliceV, elemsOf, appendV, elems, arrAt, cut, roomy, mkAgg, allP, asP, V.cells, PC, Int.toNat_zero, Int.reduceToNat, *, hl, hcode, List.length_map, List.getElem?_map, Ins.pv, pc] <;> rfl))) | (((with_reducible apply F.indexAddr); (iterate 4 exact rfl)); (focus (simp (disch := first | assumption | omega | (simp only [lnX]; omega)) only [LS, lenV_L, idx_L, below_at, Int.toNat_zero, Int.reduceToNat, *, hl, hcode, List.length_map, List.getElem?_map, Ins.pv, pc] <;> rfl))) | (((with_reducible apply F.indexAddr); (iterate 4 exact rfl)); (focus (simp (disch := first | assumption | omega | (simp only [lnX]; omega)) only [LS, indexAddrV, indexV, below_at, fieldV, fieldAddrV, convP, bytesOf, sliceV, bounds, bMax, bHi, bLo, upTo_at, makeFuncV, partV, partP, cut, binI, binS, binV, binP, arith, strOp_add, strOp_eql, strOp_neq, eqn, wrap64, wrap8, mkAgg, allP, asP, Option.getD_none, Int.toNat_zero, Int.reduceToNat, *, hl, hcode, List.length_map, List.getElem?_map, Ins.pv, pc] <;> rfl)))
      all_goals exact hend _ _ _ _ _ (by simp) (by simp only [pcL, List.reverse_cons, List.map_append, List.map_cons, List.map_nil, hP10]; rfl)
  obtain ⟨o, rfl⟩ := Int.eq_ofNat_of_zero_le (show 0 ≤ op by omega)
  have hBt := fun o0 o1' o3 => between_run o ver r.length 0 (by omega) (by omega) (by omega) (by omega) o0 o1' o3 es (plainF vars a') (plainF vars b') (48 + a'.rank) (48 + b'.rank) (bareT a') (bareT b') (by omega) (by omega) hE1 hE2
  rw [bin_piece o n a' b' (by omega) (by omega) (by omega) (by omega)] at hBt
  have q1 : ¬ (o : Int) = 1 := by omega
  have q2 : ¬ (o : Int) = 2 := by omega
  have q3 : ¬ (o : Int) = 3 := by omega
  have q4 : ¬ (o : Int) = 4 := by omega
  have q5 : ¬ (o : Int) = 5 := by omega
  have q9 : ¬ (o : Int) = 9 := by omega
  have q10 : ¬ (o : Int) = 10 := by omega
  repeat' first | (with_reducible first | apply M.free | apply M.done | apply E.seqN | apply E.blkN | apply R.skip) | ((with_reducible first | apply F.move | apply F.assign); exact rfl; exact rfl) | ((with_reducible first | apply F.load | apply F.fieldAddr); (iterate 3 exact rfl)) | ((with_reducible apply F.cmp); (iterate 4 exact rfl)) | (((with_reducible apply F.add); (iterate 3 exact rfl)); (focus (first | omega | (simp only [lnX]; omega)))) | ((with_reducible apply R.regs); exact rfl) | ((with_reducible apply Cut.of); (focus (repeat' (first | exact Kp.nil | (apply Kp.cons; exact rfl)))); (focus ((try simp only [List.take_succ_cons, List.take_zero, List.take_nil, Nat.zero_add, Nat.reduceAdd]) <;> rfl)); (focus (first | exact rfl | (simp [cutOk, lowOb, lowV, lowCell, lowCell1, low_map]; done)))) | ((first | ((with_reducible apply F.call1); exact rfl; exact rfl; (focus (repeat' (first | exact Evs.nil | (apply Evs.cons; exact rfl))))) | ((with_reducible apply F.callC); exact rfl; exact rfl; (focus (repeat' (first | exact Evs.nil | (apply Evs.cons; exact rfl)))))); (focus (first | exact hTake _ _ | exact hBt _ _ _))) | ((first | (with_reducible apply R.cond) | ((with_reducible apply M.guard); exact rfl)); (focus (first | (refine Eq.trans (look_of rfl) ?_; first | (simp only [dtX, *, hl, hcode, List.length_map, List.getElem?_map, Ins.pv, pieceOf, pc] <;> rfl) | exact rfl) | exact look_of rfl))) | refine imp_yes rfl ?_ | exact imp_no rfl | with_reducible apply R.seq | ((with_reducible apply R.region); exact rfl) | ((with_reducible apply R.regionT); exact rfl) | with_reducible apply R.block | ((with_reducible apply F.append); (iterate 8 exact rfl); (focus (refine Eq.trans (append_arr (by simp) (by decide) (fun p hp => by simp only [List.mem_singleton] at hp; subst hp; rfl) rfl hcut (Nat.zero_le _) (by simp only [List.length_cons, List.length_nil]; omega) (by decide)) ?_; simp only [List.length_cons, List.length_nil, List.cons_append, List.nil_append, List.set_cons_zero, List.set_cons_succ, List.map_cons, List.map_nil, Nat.zero_add, Nat.reduceAdd, Nat.sub_zero]; rfl))) | ((first | ((with_reducible apply F.store); (iterate 4 exact rfl)) | ((with_reducible apply F.loadS); (iterate 3 exact rfl))); (focus (simp (disch := first | assumption | omega | (simp only [lnX]; omega)) only [LS, storeV, loadV, partV, partP, cut, over, mkAgg, allP, asP, V.cells, PC, elDiv, elMod, elDiv0, Nat.mul_mod_left, Int.toNat_zero, Int.reduceToNat, *, hl, hcode, List.length_map, List.getElem?_map, Ins.pv, pieceOf, pc] <;> rfl))) | (((with_reducible apply F.alloc); exact rfl; exact rfl); (focus (simp only [LS] <;> rfl)); (focus (simp only [LS] <;> rfl))) | (((with_reducible apply F.buildSlice); exact rfl; exact rfl; (focus (repeat' (first | exact Prs.nil | (apply Prs.cons; exact rfl))))); (focus (simp (disch := first | assumption | omega | (simp only [lnX]; omega)) only [LS, buildV, fillV, over, buildSliceV, elemsOf, appendV, elems, arrAt, cut, roomy, mkAgg, allP, asP, V.cells, PC, Int.toNat_zero, Int.reduceToNat, *, hl, hcode, List.length_map, List.getElem?_map, Ins.pv, pieceOf, pc] <;> rfl))) | (((with_reducible apply F.indexAddr); (iterate 4 exact rfl)); (focus (simp (disch := first | assumption | omega | (simp only [lnX]; omega)) only [LS, lenV_L, idx_L, below_at, Int.toNat_zero, Int.reduceToNat, *, hl, hcode, List.length_map, List.getElem?_map, Ins.pv, pieceOf, pc] <;> rfl)))
  all_goals exact hend _ _ _ _ _ (by simp) (by simp only [pcL, List.reverse_cons, List.map_append, List.map_cons, List.map_nil, pieceOf, pc])
section
variable {args : Int} {vs : List (List UInt8)}
def okP (vs : List (List UInt8)) (args : Int) : T → Prop
  | .leaf i => (i.op = 1 ∧ -1099511627776 ≤ i.n ∧ i.n ≤ 1099511627776) ∨ (i.op = 2 ∧ 0 ≤ i.n ∧ i.n < vs.length) ∨ (i.op = 3 ∧ 0 ≤ i.n ∧ i.n < args)
  | .un i a => (i.op = 4 ∨ i.op = 5) ∧ i.n = 0 ∧ okP vs args a
  | .bin i a b => 6 ≤ i.op ∧ i.op ≤ 15 ∧ i.n = 0 ∧ okP vs args a ∧ okP vs args b
  | .tri i a b c => i.op = 16 ∧ i.n = 0 ∧ okP vs args a ∧ okP vs args b ∧ okP vs args c
theorem push_okP (i : Ins) (st : List T) (h0 : 0 ≤ takesF i.op) (h : takesF i.op ≤ st.length) (hn : namedF vs.length args i = true) (hok : ∀ t ∈ st, okP vs args t) : ∀ t ∈ pushT i st, okP vs args t := by
  have := takesF_le i.op
  have hk : takesF i.op = 0 ∨ takesF i.op = 1 ∨ takesF i.op = 2 ∨ takesF i.op = 3 := by omega
  have hop : takesF i.op = if 1 ≤ i.op ∧ i.op ≤ 3 then 0 else if i.op = 4 ∨ i.op = 5 then 1 else if 6 ≤ i.op ∧ i.op ≤ 15 then 2 else if i.op = 16 then 3 else -1 := rfl
  have hz : ¬ i.op ≤ 3 → i.n = 0 := by
    intro h3
    rw [namedF, if_neg (by omega), if_neg (by omega), if_neg (by omega)] at hn
    simpa using hn
  rcases hk with hk | hk | hk | hk
  · have h3 : 1 ≤ i.op ∧ i.op ≤ 3 := by
      rw [hk] at hop
      (repeat' split at hop) <;> omega
    have e : pushT i st = .leaf i :: st := by simp [pushT, hk]
    rw [e]
    intro t ht
    rcases List.mem_cons.1 ht with rfl | ht
    · simp only [okP]
      simp only [namedF] at hn
      (repeat' split at hn)
      · simp [valueF] at hn; left; omega
      · simp at hn; right; left; omega
      · simp at hn; right; right; omega
      · omega
    · exact hok t ht
  · have h3 : i.op = 4 ∨ i.op = 5 := by
      rw [hk] at hop
      (repeat' split at hop) <;> omega
    match st, h, hok with
    | [], h, _ => rw [hk] at h; simp at h
    | a :: r, h, hok =>
      have e : pushT i (a :: r) = .un i a :: r := by simp [pushT, hk]
      rw [e]
      intro t ht
      rcases List.mem_cons.1 ht with rfl | ht
      · exact ⟨h3, hz (by omega), hok a (by simp)⟩
      · exact hok t (by simp [ht])
  · have h3 : 6 ≤ i.op ∧ i.op ≤ 15 := by
      rw [hk] at hop
      (repeat' split at hop) <;> omega
    match st, h, hok with
    | [], h, _ => rw [hk] at h; simp at h
    | [a], h, _ => rw [hk] at h; simp at h
    | b :: a :: r, h, hok =>
      have e : pushT i (b :: a :: r) = .bin i a b :: r := by simp [pushT, hk]
      rw [e]
      intro t ht
      rcases List.mem_cons.1 ht with rfl | ht
      · exact ⟨h3.1, h3.2, hz (by omega), hok a (by simp), hok b (by simp)⟩
      · exact hok t (by simp [ht])
  · have h3 : i.op = 16 := by
      rw [hk] at hop
      (repeat' split at hop) <;> omega
    match st, h, hok with
    | [], h, _ => rw [hk] at h; simp at h
    | [a], h, _ => rw [hk] at h; simp at h
    | [b, a], h, _ => rw [hk] at h; simp at h
    | c :: b :: a :: r, h, hok =>
      have e : pushT i (c :: b :: a :: r) = .tri i a b c :: r := by simp [pushT, hk]
      rw [e]
      intro t ht
      rcases List.mem_cons.1 ht with rfl | ht
      · exact ⟨h3, hz (by omega), hok a (by simp), hok b (by simp), hok c (by simp)⟩
      · exact hok t (by simp [ht])
theorem bld_okP : ∀ (l : List Ins) (k : Nat) (st : List T), chk vs.length args st.length k l = (0, 0) → (∀ t ∈ st, okP vs args t) → ∀ t ∈ bld l st, okP vs args t
  | [], k, st, _, hok => hok
  | i :: l, k, st, h, hok => by
    obtain ⟨c1, c2, c3, c4⟩ := chk_step h
    rw [← push_len i st c1 c3] at c4
    rw [bld]
    exact bld_okP l (k + 1) (pushT i st) c4 (push_okP i st c1 c3 c2 hok)
theorem show_tree {code : List Ins} (h : (showF code vs args).2 = 0) : ∃ t, okP vs args t ∧ codeT t = code ∧ code.length ≤ 31 ∧ (showF code vs args).1 = plainF vs t := by
  unfold showF at h ⊢
  split at h
  · rename_i hc
    rw [if_pos hc]
    have hc2 : chk vs.length args 0 0 code = (0, 0) ∧ code.length ≤ 31 := by
      unfold checkF at hc
      split at hc
      · cases hc
      · split at hc
        · cases hc
        · exact ⟨chk_zero _ _ _ _ _ hc, by omega⟩
    obtain ⟨t, ht⟩ := chk_end vs.length args code 0 [] hc2.1
    have hcode := bld_code code 0 [] hc2.1
    have hok := bld_okP (vs := vs) code 0 [] hc2.1 (fun t ht => by cases ht)
    rw [ht] at hcode hok ⊢
    refine ⟨t, hok t (by simp), ?_, hc2.2, rfl⟩
    simpa [codeS] using hcode
  · rename_i hc
    exact absurd h hc
theorem plain_short (hn : Named vs) (ha : args ≤ 10) : ∀ (t : T), okP vs args t → (plainF vs t).length ≤ 24 * (codeT t).length
  | .leaf i, h => by
    simp only [okP] at h
    simp only [plainF, codeT, List.length_cons, List.length_nil]
    split
    · split
      · have := dec_14 (n := (-i.n).toNat) (by omega); simp only [List.length_cons]; omega
      · have := dec_14 (n := (i.n).toNat) (by omega); omega
    · split
      · rename_i h2
        have : i.n.toNat < vs.length := by omega
        rw [List.getD_eq_getElem?_getD, List.getElem?_eq_getElem this, Option.getD_some]
        have := rname_big _ (hn _ _ (List.getElem?_eq_getElem this)).1
        omega
      · have := dec_20 (n := (i.n).toNat) (by omega); simp only [List.length_cons]; omega
  | .un i a, h => by
    have := plain_short hn ha a h.2.2
    have := held_len (plainF vs a) a.rank 6
    simp only [plainF, codeT, List.length_cons, List.length_append, List.length_nil]
    (repeat' split) <;> simp only [List.length_cons, List.length_append, List.length_nil] <;> omega
  | .bin i a b, h => by
    have := plain_short hn ha a h.2.2.2.1
    have := plain_short hn ha b h.2.2.2.2
    have := held_len (plainF vs a) a.rank (leftF (rankF i.op i.n))
    have := held_len (plainF vs b) b.rank (rankF i.op i.n + 1)
    have := sgn_len i.op.toNat (by have := h.2.1; omega)
    simp only [plainF, codeT, List.length_cons, List.length_append, List.length_nil]
    (repeat' split) <;> simp only [List.length_cons, List.length_append, List.length_nil] <;> omega
  | .tri i a b c, h => by
    have := plain_short hn ha a h.2.2.1
    have := plain_short hn ha b h.2.2.2.1
    have := plain_short hn ha c h.2.2.2.2
    simp only [plainF, codeT, List.length_cons, List.length_append, List.length_nil]; omega
end
noncomputable def fi60 : FnI := { body := (Tryd.f60.body).getD .skip, ntmps := 32, results := Tryd.f60.results.toList, hints := [] }
theorem cxF60 : cx.F 60 = some fi60 := by kernel_rfl
noncomputable def fi30 : FnI := { body := (Tryd.f30.body).getD .skip, ntmps := 177, results := Tryd.f30.results.toList, hints := [] }
theorem cxF30 : cx.F 30 = some fi30 := by kernel_rfl
noncomputable def fi62 : FnI := { body := (Tryd.f62.body).getD .skip, ntmps := 19, results := Tryd.f62.results.toList, hints := [] }
theorem cxF62 : cx.F 62 = some fi62 := by kernel_rfl
noncomputable def fi31 : FnI := { body := (Tryd.f31.body).getD .skip, ntmps := 46, results := Tryd.f31.results.toList, hints := [(2, { live := some [0, 2, 3, 4] }), (4, { live := some [0, 2, 3, 4], trunc := some 1 }), (6, { ops := [(3, 2), (11, 2)] }), (7, { ops := [(7, 3), (11, 4)] })] }
theorem cxF31 : cx.F 31 = some fi31 := by kernel_rfl
theorem rank_run (op n : Int) (k : Pv) (hk : ∀ l, k ≠ .agg l) : PV cx 60 [.p (.agg [.int .i64 op, .int .i64 n, k])] (.int .i64 (rankF op n)) := by
  refine PV.run cxF60 rfl ?_
  simp only [args0, Nat.zero_add, Nat.reduceAdd]
  repeat' first | (with_reducible first | apply M.free | apply M.done | apply E.seqN | apply E.seqR | apply E.blkN | apply E.blkR | apply R.skip | apply R.ret) | ((with_reducible first | apply F.move | apply F.assign); exact rfl; exact rfl) | ((with_reducible first | apply F.load | apply F.fieldAddr); (iterate 3 exact rfl)) | ((with_reducible apply F.cmp); (iterate 4 exact rfl)) | ((with_reducible apply F.pickT); (iterate 3 exact rfl)) | ((with_reducible apply F.pickF); (iterate 3 exact rfl)) | ((with_reducible apply R.regs); exact rfl) | ((first | (with_reducible apply R.cond) | ((with_reducible apply M.guard); exact rfl)); (focus (first | (refine Eq.trans (look_of rfl) ?_; first | (simp only [dtX, *] <;> rfl) | exact rfl) | exact look_of rfl))) | refine imp_yes rfl ?_ | exact imp_no rfl | with_reducible apply R.seq | ((with_reducible apply R.region); exact rfl) | with_reducible apply R.block | (((with_reducible apply F.box); (iterate 3 exact rfl)); (focus (simp (disch := first | assumption | omega | (simp only [lnX]; omega)) only [LS, storeV, loadV, partV, partP, cut, over, mkAgg, allP, asP, V.cells, PC, elDiv, elMod, elDiv0, Nat.mul_mod_left, Int.toNat_zero, Int.reduceToNat, *] <;> rfl)); exact rfl; (focus (simp only [LS] <;> rfl)); (focus (simp only [LS] <;> rfl))) | (intro hc; (try rw [hc]); (try simp only [decide_eq_true_eq, decide_eq_false_iff_not, Bool.not_eq_eq_eq_not, Bool.not_true, Bool.not_false] at hc); (try (exfalso; omega))) | (((with_reducible apply E.rP1); exact rfl; exact rfl; (focus (exact look_of rfl)))) | refine R.regs rfl ?_
  all_goals first | rfl | (congr 1; (try simp only [rankF]); (try simp only [beq_iff_eq, beq_eq_false_iff_ne, ne_eq] at *); (repeat' split) <;> first | rfl | omega | (simp_all; done) | (exfalso; simp_all; done) | (simp_all; omega) | (exfalso; simp_all; omega) | trace_state)
theorem T.rank_run (t : T) : PV cx 60 [.p t.pv] (.int .i64 t.rank) := by
  cases t <;> exact _root_.Go.Proofs.YtojpocfnjigmfaaDoor.rank_run _ _ _ (fun l h => by cases h)
theorem shown_run {x : Pv} {vars : List (List UInt8)} (t : T) (hp : PV cx 30 [.p t.pv, .p x] (.str (plainF vars t))) (hl : (plainF vars t).length ≤ 9007199254740992) (q : Int) : PV cx 62 [.p t.pv, .p (.int .i64 q), .p x] (.str (heldF (plainF vars t) t.rank q)) := by
  refine PV.run cxF62 rfl ?_
  obtain ⟨i, l, e⟩ : ∃ (i : Ins) (l : Pv), t.pv = .agg [.int .i64 i.op, .int .i64 i.n, l] := by cases t <;> exact ⟨_, _, rfl⟩
  have hr := (T.rank_run t).fv
  rw [e] at hp hr ⊢
  have hp := hp.fv
  simp only [args0, Nat.zero_add, Nat.reduceAdd]
  repeat' first | (with_reducible first | apply M.free | apply M.done | apply E.seqN | apply E.seqR | apply R.skip | apply R.ret) | ((with_reducible first | apply F.move | apply F.assign); exact rfl; exact rfl) | ((with_reducible apply F.cmp); (iterate 4 exact rfl)) | (((with_reducible apply F.adds); (iterate 3 exact rfl)); (focus (first | omega | (simp only [lnX]; omega)))) | ((with_reducible apply R.regs); exact rfl) | ((with_reducible apply F.call0); exact rfl; exact rfl; (focus (repeat' (first | exact Evs.nil | (apply Evs.cons; exact rfl)))); exact rfl; (focus (first | exact hp | exact hr))) | ((first | (with_reducible apply R.cond) | ((with_reducible apply M.guard); exact rfl)); (focus (first | (refine Eq.trans (look_of rfl) ?_; first | (simp only [dtX, *] <;> rfl) | exact rfl) | exact look_of rfl))) | with_reducible apply R.seq | (((with_reducible apply F.loadS); (iterate 3 exact rfl)); (focus (simp (disch := first | assumption | omega | (simp only [lnX]; omega)) only [LS, storeV, loadV, partV, partP, cut, over, mkAgg, allP, asP, V.cells, PC, elDiv, elMod, elDiv0, Nat.mul_mod_left, Int.toNat_zero, Int.reduceToNat, *] <;> rfl))) | (((with_reducible apply F.box); (iterate 3 exact rfl)); (focus (simp (disch := first | assumption | omega | (simp only [lnX]; omega)) only [LS, storeV, loadV, partV, partP, cut, over, mkAgg, allP, asP, V.cells, PC, elDiv, elMod, elDiv0, Nat.mul_mod_left, Int.toNat_zero, Int.reduceToNat, *] <;> rfl)); exact rfl; (focus (simp only [LS] <;> rfl)); (focus (simp only [LS] <;> rfl))) | (intro hc; (try rw [hc]); (try simp only [decide_eq_true_eq, decide_eq_false_iff_not, Bool.not_eq_eq_eq_not, Bool.not_true, Bool.not_false] at hc); (try (exfalso; omega))) | (((with_reducible apply E.rP1); exact rfl; exact rfl; (focus (exact look_of rfl)))) | refine R.regs rfl ?_
  all_goals (simp only [heldF]; first | (rw [if_pos ‹_›]; rfl) | rw [if_neg ‹_›])
theorem plain_leaf {x : Pv} {vars : List (List UInt8)} (hx : IsL 1 x) (hl : elemsP x = vars.map .str) (hv : ∀ v ∈ vars, v.length ≤ 140737488355328) (i : Ins) (hok : okT vars (.leaf i)) : PV cx 30 [.p (T.leaf i).pv, .p x] (.str (plainF vars (.leaf i))) := by
  refine PV.run cxF30 rfl ?_
  obtain ⟨op, n⟩ := i
  have hr := (T.rank_run (.leaf ⟨op, n⟩)).fv
  simp only [okT] at hok
  simp only [T.pv, node, List.isEmpty_nil] at hr ⊢
  simp only [args0, Nat.zero_add, Nat.reduceAdd]
  rcases hok with ⟨rfl, h1, h2⟩ | ⟨rfl, h1, h2⟩ | ⟨rfl, h1, h2⟩
  · by_cases h0 : n < 0
    · have e : (0 : Int) - n = ((-n).toNat : Int) := by omega
      have hd := (Digits_run (-n).toNat (by omega)).fv
      have hlen := dec_14 (n := (-n).toNat) (by omega)
      rw [← e] at hd
      clear e
      have hs : plainF vars (.leaf ⟨1, n⟩) = 45 :: dec (-n).toNat := by simp only [plainF]; rw [if_pos trivial, if_pos h0]
      rw [hs]
      generalize dec (-n).toNat = s at *
      repeat' first | (with_reducible first | apply M.free | apply M.done | apply E.seqR | apply E.blkR | apply R.ret) | ((with_reducible first | apply F.load | apply F.fieldAddr); (iterate 3 exact rfl)) | ((with_reducible apply F.cmp); (iterate 4 exact rfl)) | ((with_reducible apply F.assign); exact rfl; exact rfl) | ((first | ((with_reducible apply F.adds); (iterate 3 exact rfl)) | ((with_reducible apply F.neg); exact rfl; exact rfl)); (focus (first | omega | (simp only [lnX]; omega)))) | ((with_reducible apply R.regs); exact rfl) | ((with_reducible apply F.call0); exact rfl; exact rfl; (focus (repeat' (first | exact Evs.nil | (apply Evs.cons; exact rfl)))); exact rfl; (focus (first | exact hr | exact hd))) | ((first | (with_reducible apply R.cond) | ((with_reducible apply M.guard); exact rfl)); (focus (first | (refine Eq.trans (look_of rfl) ?_; first | (simp only [dtX, *] <;> rfl) | exact rfl) | exact look_of rfl))) | refine imp_yes rfl ?_ | exact imp_no rfl | with_reducible apply R.seq | with_reducible apply R.block | (((with_reducible apply F.loadS); (iterate 3 exact rfl)); (focus (simp (disch := first | assumption | omega | (simp only [lnX]; omega)) only [LS, storeV, loadV, partV, partP, cut, over, mkAgg, allP, asP, V.cells, PC, elDiv, elMod, elDiv0, Nat.mul_mod_left, Int.toNat_zero, Int.reduceToNat, *] <;> rfl))) | (((with_reducible apply F.box); (iterate 3 exact rfl)); (focus (simp (disch := first | assumption | omega | (simp only [lnX]; omega)) only [LS, storeV, loadV, partV, partP, cut, over, mkAgg, allP, asP, V.cells, PC, elDiv, elMod, elDiv0, Nat.mul_mod_left, Int.toNat_zero, Int.reduceToNat, *] <;> rfl)); exact rfl; (focus (simp only [LS] <;> rfl)); (focus (simp only [LS] <;> rfl))) | (((with_reducible apply F.buildSlice); exact rfl; exact rfl; (focus (repeat' (first | exact Prs.nil | (apply Prs.cons; exact rfl))))); (focus (simp (disch := first | assumption | omega | (simp only [lnX]; omega)) only [LS, buildV, fillV, over, buildSliceV, elemsOf, appendV, elems, arrAt, cut, roomy, mkAgg, allP, asP, V.cells, PC, Int.toNat_zero, Int.reduceToNat, *] <;> rfl))) | (((with_reducible apply E.rP1); exact rfl; exact rfl; (focus (exact look_of rfl)))) | refine R.regs rfl ?_ | exact rfl
    · have e : n = (n.toNat : Int) := by omega
      have hs : plainF vars (.leaf ⟨1, n⟩) = dec n.toNat := by simp only [plainF]; rw [if_pos trivial, if_neg h0]
      rw [hs]
      have hd := (Digits_run n.toNat (by omega)).fv
      rw [← e] at hd
      clear e
      generalize dec n.toNat = s at *
      repeat' first | (with_reducible first | apply M.free | apply M.done | apply E.seqN | apply E.seqR | apply E.blkR | apply R.skip | apply R.ret) | ((with_reducible first | apply F.load | apply F.fieldAddr); (iterate 3 exact rfl)) | ((with_reducible apply F.cmp); (iterate 4 exact rfl)) | ((with_reducible apply F.assign); exact rfl; exact rfl) | ((with_reducible apply R.regs); exact rfl) | ((with_reducible apply F.call0); exact rfl; exact rfl; (focus (repeat' (first | exact Evs.nil | (apply Evs.cons; exact rfl)))); exact rfl; (focus (first | exact hr | exact hd))) | ((first | (with_reducible apply R.cond) | ((with_reducible apply M.guard); exact rfl)); (focus (first | (refine Eq.trans (look_of rfl) ?_; first | (simp only [dtX, *] <;> rfl) | exact rfl) | exact look_of rfl))) | refine imp_yes rfl ?_ | exact imp_no rfl | with_reducible apply R.seq | with_reducible apply R.block | (((with_reducible apply F.loadS); (iterate 3 exact rfl)); (focus (simp (disch := first | assumption | omega | (simp only [lnX]; omega)) only [LS, storeV, loadV, partV, partP, cut, over, mkAgg, allP, asP, V.cells, PC, elDiv, elMod, elDiv0, Nat.mul_mod_left, Int.toNat_zero, Int.reduceToNat, *] <;> rfl))) | (((with_reducible apply F.box); (iterate 3 exact rfl)); (focus (simp (disch := first | assumption | omega | (simp only [lnX]; omega)) only [LS, storeV, loadV, partV, partP, cut, over, mkAgg, allP, asP, V.cells, PC, elDiv, elMod, elDiv0, Nat.mul_mod_left, Int.toNat_zero, Int.reduceToNat, *] <;> rfl)); exact rfl; (focus (simp only [LS] <;> rfl)); (focus (simp only [LS] <;> rfl))) | (((with_reducible apply F.buildSlice); exact rfl; exact rfl; (focus (repeat' (first | exact Prs.nil | (apply Prs.cons; exact rfl))))); (focus (simp (disch := first | assumption | omega | (simp only [lnX]; omega)) only [LS, buildV, fillV, over, buildSliceV, elemsOf, appendV, elems, arrAt, cut, roomy, mkAgg, allP, asP, V.cells, PC, Int.toNat_zero, Int.reduceToNat, *] <;> rfl))) | (((with_reducible apply E.rP1); exact rfl; exact rfl; (focus (exact look_of rfl)))) | refine R.regs rfl ?_ | exact rfl
  · obtain ⟨k, rfl⟩ := Int.eq_ofNat_of_zero_le h1
    have hs : plainF vars (.leaf ⟨2, k⟩) = vars.getD k [] := by simp only [plainF]; rw [if_neg (by decide), if_pos trivial]; simp only [Int.toNat_natCast]
    rw [hs]
    have hb : vars[k]? = some (vars.getD k []) := by
      rw [List.getD_eq_getElem?_getD, List.getElem?_eq_getElem (by omega)]; rfl
    have hlt : k < vars.length := by omega
    generalize vars.getD k [] = s at *
    repeat' first | (with_reducible first | apply M.free | apply M.done | apply E.seqR | apply E.blkR | apply R.ret) | ((with_reducible first | apply F.move | apply F.assign); exact rfl; exact rfl) | ((with_reducible first | apply F.load | apply F.fieldAddr); (iterate 3 exact rfl)) | ((with_reducible apply F.cmp); (iterate 4 exact rfl)) | ((with_reducible apply R.regs); exact rfl) | ((with_reducible apply F.call0); exact rfl; exact rfl; (focus (repeat' (first | exact Evs.nil | (apply Evs.cons; exact rfl)))); exact rfl; (focus (first | exact hr))) | ((first | (with_reducible apply R.cond) | ((with_reducible apply M.guard); exact rfl)); (focus (first | (refine Eq.trans (look_of rfl) ?_; first | (simp only [dtX, *, hl, hb, List.length_map, List.getElem?_map] <;> rfl) | exact rfl) | exact look_of rfl))) | refine imp_yes rfl ?_ | exact imp_no rfl | with_reducible apply R.seq | with_reducible apply R.block | (((with_reducible apply F.loadS); (iterate 3 exact rfl)); (focus (simp (disch := first | assumption | omega | (simp only [lnX]; omega)) only [LS, storeV, loadV, partV, partP, cut, over, mkAgg, allP, asP, V.cells, PC, elDiv, elMod, elDiv0, Nat.mul_mod_left, Int.toNat_zero, Int.reduceToNat, *, hl, hb, List.length_map, List.getElem?_map] <;> rfl))) | (((with_reducible apply F.box); (iterate 3 exact rfl)); (focus (simp (disch := first | assumption | omega | (simp only [lnX]; omega)) only [LS, storeV, loadV, partV, partP, cut, over, mkAgg, allP, asP, V.cells, PC, elDiv, elMod, elDiv0, Nat.mul_mod_left, Int.toNat_zero, Int.reduceToNat, *, hl, hb, List.length_map, List.getElem?_map] <;> rfl)); exact rfl; (focus (simp only [LS] <;> rfl)); (focus (simp only [LS] <;> rfl))) | (((with_reducible apply F.buildSlice); exact rfl; exact rfl; (focus (repeat' (first | exact Prs.nil | (apply Prs.cons; exact rfl))))); (focus (simp (disch := first | assumption | omega | (simp only [lnX]; omega)) only [LS, buildV, fillV, over, buildSliceV, elemsOf, appendV, elems, arrAt, cut, roomy, mkAgg, allP, asP, V.cells, PC, Int.toNat_zero, Int.reduceToNat, *, hl, hb, List.length_map, List.getElem?_map] <;> rfl))) | (((with_reducible apply F.indexAddr); (iterate 4 exact rfl)); (focus (simp (disch := first | assumption | omega | (simp only [lnX]; omega)) only [LS, lenV_L, idx_L, below_at, Int.toNat_zero, Int.reduceToNat, *, hl, hb, List.length_map, List.getElem?_map] <;> rfl))) | (((with_reducible apply E.rP1); exact rfl; exact rfl; (focus (exact look_of rfl)))) | refine R.regs rfl ?_ | exact rfl
  · obtain ⟨k, rfl⟩ := Int.eq_ofNat_of_zero_le h1
    have hs : plainF vars (.leaf ⟨3, k⟩) = 36 :: dec k := by simp only [plainF]; rw [if_neg (by decide), if_neg (by decide)]; simp only [Int.toNat_natCast]
    rw [hs]
    have hd := (Digits_run k (by omega)).fv
    have hlen := dec_20 (n := k) (by omega)
    generalize dec k = s at *
    repeat' first | (with_reducible first | apply M.free | apply M.done | apply E.seqR | apply E.blkR | apply R.ret) | ((with_reducible first | apply F.load | apply F.fieldAddr); (iterate 3 exact rfl)) | ((with_reducible apply F.cmp); (iterate 4 exact rfl)) | ((with_reducible apply F.assign); exact rfl; exact rfl) | (((with_reducible apply F.adds); (iterate 3 exact rfl)); (focus (first | omega | (simp only [lnX]; omega)))) | ((with_reducible apply R.regs); exact rfl) | ((with_reducible apply F.call0); exact rfl; exact rfl; (focus (repeat' (first | exact Evs.nil | (apply Evs.cons; exact rfl)))); exact rfl; (focus (first | exact hr | exact hd))) | ((first | (with_reducible apply R.cond) | ((with_reducible apply M.guard); exact rfl)); (focus (first | (refine Eq.trans (look_of rfl) ?_; first | (simp only [dtX, *] <;> rfl) | exact rfl) | exact look_of rfl))) | refine imp_yes rfl ?_ | exact imp_no rfl | with_reducible apply R.seq | with_reducible apply R.block | (((with_reducible apply F.loadS); (iterate 3 exact rfl)); (focus (simp (disch := first | assumption | omega | (simp only [lnX]; omega)) only [LS, storeV, loadV, partV, partP, cut, over, mkAgg, allP, asP, V.cells, PC, elDiv, elMod, elDiv0, Nat.mul_mod_left, Int.toNat_zero, Int.reduceToNat, *] <;> rfl))) | (((with_reducible apply F.box); (iterate 3 exact rfl)); (focus (simp (disch := first | assumption | omega | (simp only [lnX]; omega)) only [LS, storeV, loadV, partV, partP, cut, over, mkAgg, allP, asP, V.cells, PC, elDiv, elMod, elDiv0, Nat.mul_mod_left, Int.toNat_zero, Int.reduceToNat, *] <;> rfl)); exact rfl; (focus (simp only [LS] <;> rfl)); (focus (simp only [LS] <;> rfl))) | (((with_reducible apply F.buildSlice); exact rfl; exact rfl; (focus (repeat' (first | exact Prs.nil | (apply Prs.cons; exact rfl))))); (focus (simp (disch := first | assumption | omega | (simp only [lnX]; omega)) only [LS, buildV, fillV, over, buildSliceV, elemsOf, appendV, elems, arrAt, cut, roomy, mkAgg, allP, asP, V.cells, PC, Int.toNat_zero, Int.reduceToNat, *] <;> rfl))) | (((with_reducible apply E.rP1); exact rfl; exact rfl; (focus (exact look_of rfl)))) | refine R.regs rfl ?_ | exact rfl
theorem plain_un {x : Pv} {vars : List (List UInt8)} (i : Ins) (a : T) (hi : i.op = 4 ∨ i.op = 5) (hp : PV cx 30 [.p a.pv, .p x] (.str (plainF vars a))) (hl : (plainF vars a).length ≤ 4503599627370496) : PV cx 30 [.p (T.un i a).pv, .p x] (.str (plainF vars (.un i a))) := by
  refine PV.run cxF30 rfl ?_
  have hsh := (shown_run a hp (by omega) 6).fv
  have hr := (T.rank_run (.un i a)).fv
  have hp := hp.fv
  obtain ⟨op, n⟩ := i
  obtain ⟨l, e⟩ := node_pv a
  have hlen := held_len (plainF vars a) a.rank 6
  have e4 : plainF vars (.un ⟨4, n⟩ a) = if a.ins.op = 1 ∧ a.ins.n ≥ 0 then [45, 40] ++ plainF vars a ++ [41] else 45 :: heldF (plainF vars a) a.rank 6 := rfl
  have e5 : plainF vars (.un ⟨5, n⟩ a) = 33 :: heldF (plainF vars a) a.rank 6 := rfl
  simp only [T.pv, node, List.isEmpty_cons] at hr ⊢
  rw [e] at hp hsh hr ⊢
  generalize a.ins.op = aop at *
  generalize a.ins.n = an at *
  generalize heldF (plainF vars a) a.rank 6 = s6 at *
  generalize plainF vars a = s at *
  simp only [args0, Nat.zero_add, Nat.reduceAdd]
  clear e
  rcases hi with h | h
  · simp only at h
    subst h
    rw [e4]
    clear e4 e5
    by_cases ha : aop = 1
    · subst ha
      by_cases h1 : an ≥ 0
      · rw [if_pos ⟨rfl, h1⟩]
        repeat' first | (with_reducible first | apply M.free | apply M.done | apply E.seqR | apply E.blkR | apply R.ret) | ((with_reducible first | apply F.move | apply F.assign); exact rfl; exact rfl) | ((with_reducible first | apply F.load | apply F.fieldAddr); (iterate 3 exact rfl)) | ((with_reducible apply F.cmp); (iterate 4 exact rfl)) | ((with_reducible apply F.pickT); (iterate 3 exact rfl)) | (((with_reducible apply F.adds); (iterate 3 exact rfl)); (focus (first | omega | (simp only [lnX]; omega)))) | ((with_reducible apply R.regs); exact rfl) | ((with_reducible apply F.call0); exact rfl; exact rfl; (focus (repeat' (first | exact Evs.nil | (apply Evs.cons; exact rfl)))); exact rfl; (focus (first | exact hr | exact hp | exact hsh))) | ((first | (with_reducible apply R.cond) | ((with_reducible apply M.guard); exact rfl)); (focus (first | (refine Eq.trans (look_of rfl) ?_; first | (simp only [dtX, *] <;> rfl) | exact rfl) | exact look_of rfl))) | refine imp_yes rfl ?_ | exact imp_no rfl | with_reducible apply R.seq | with_reducible apply R.block | (((with_reducible apply F.loadS); (iterate 3 exact rfl)); (focus (simp (disch := first | assumption | omega | (simp only [lnX]; omega)) only [LS, storeV, loadV, partV, partP, cut, over, mkAgg, allP, asP, V.cells, PC, elDiv, elMod, elDiv0, Nat.mul_mod_left, Int.toNat_zero, Int.reduceToNat, *] <;> rfl))) | (((with_reducible apply F.box); (iterate 3 exact rfl)); (focus (simp (disch := first | assumption | omega | (simp only [lnX]; omega)) only [LS, storeV, loadV, partV, partP, cut, over, mkAgg, allP, asP, V.cells, PC, elDiv, elMod, elDiv0, Nat.mul_mod_left, Int.toNat_zero, Int.reduceToNat, *] <;> rfl)); exact rfl; (focus (simp only [LS] <;> rfl)); (focus (simp only [LS] <;> rfl))) | (((with_reducible apply F.buildSlice); exact rfl; exact rfl; (focus (repeat' (first | exact Prs.nil | (apply Prs.cons; exact rfl))))); (focus (simp (disch := first | assumption | omega | (simp only [lnX]; omega)) only [LS, buildV, fillV, over, buildSliceV, elemsOf, appendV, elems, arrAt, cut, roomy, mkAgg, allP, asP, V.cells, PC, Int.toNat_zero, Int.reduceToNat, *] <;> rfl))) | (((with_reducible apply F.indexAddr); (iterate 4 exact rfl)); (focus (simp (disch := first | assumption | omega | (simp only [lnX]; omega)) only [LS, lenV_L, idx_L, below_at, Int.toNat_zero, Int.reduceToNat, *] <;> rfl))) | ((first | ((with_reducible apply F.indexAddr); (iterate 4 exact rfl)) | ((with_reducible apply F.fieldAddrS); (iterate 3 exact rfl))); (focus (simp (disch := first | assumption | omega | (simp only [lnX]; omega)) only [LS, indexAddrV, indexV, below_at, fieldV, fieldAddrV, convP, bytesOf, sliceV, bounds, bMax, bHi, bLo, upTo_at, makeFuncV, partV, partP, cut, binI, binS, binV, binP, arith, strOp_add, strOp_eql, strOp_neq, eqn, wrap64, wrap8, mkAgg, allP, asP, Option.getD_none, Int.toNat_zero, Int.reduceToNat, *] <;> rfl))) | (((with_reducible apply E.rP1); exact rfl; exact rfl; (focus (exact look_of rfl)))) | refine R.regs rfl ?_ | exact rfl
      · rw [if_neg (fun h => h1 h.2)]
        repeat' first | (with_reducible first | apply M.free | apply M.done | apply E.seqN | apply E.seqR | apply E.blkR | apply R.skip | apply R.ret) | ((with_reducible first | apply F.move | apply F.assign); exact rfl; exact rfl) | ((with_reducible first | apply F.load | apply F.fieldAddr); (iterate 3 exact rfl)) | ((with_reducible apply F.cmp); (iterate 4 exact rfl)) | ((with_reducible apply F.pickT); (iterate 3 exact rfl)) | (((with_reducible apply F.adds); (iterate 3 exact rfl)); (focus (first | omega | (simp only [lnX]; omega)))) | ((with_reducible apply R.regs); exact rfl) | ((with_reducible apply F.call0); exact rfl; exact rfl; (focus (repeat' (first | exact Evs.nil | (apply Evs.cons; exact rfl)))); exact rfl; (focus (first | exact hr | exact hp | exact hsh))) | ((first | (with_reducible apply R.cond) | ((with_reducible apply M.guard); exact rfl)); (focus (first | (refine Eq.trans (look_of rfl) ?_; first | (simp only [dtX, *] <;> rfl) | exact rfl) | exact look_of rfl))) | refine imp_yes rfl ?_ | exact imp_no rfl | with_reducible apply R.seq | with_reducible apply R.block | (((with_reducible apply F.loadS); (iterate 3 exact rfl)); (focus (simp (disch := first | assumption | omega | (simp only [lnX]; omega)) only [LS, storeV, loadV, partV, partP, cut, over, mkAgg, allP, asP, V.cells, PC, elDiv, elMod, elDiv0, Nat.mul_mod_left, Int.toNat_zero, Int.reduceToNat, *] <;> rfl))) | (((with_reducible apply F.box); (iterate 3 exact rfl)); (focus (simp (disch := first | assumption | omega | (simp only [lnX]; omega)) only [LS, storeV, loadV, partV, partP, cut, over, mkAgg, allP, asP, V.cells, PC, elDiv, elMod, elDiv0, Nat.mul_mod_left, Int.toNat_zero, Int.reduceToNat, *] <;> rfl)); exact rfl; (focus (simp only [LS] <;> rfl)); (focus (simp only [LS] <;> rfl))) | (((with_reducible apply F.buildSlice); exact rfl; exact rfl; (focus (repeat' (first | exact Prs.nil | (apply Prs.cons; exact rfl))))); (focus (simp (disch := first | assumption | omega | (simp only [lnX]; omega)) only [LS, buildV, fillV, over, buildSliceV, elemsOf, appendV, elems, arrAt, cut, roomy, mkAgg, allP, asP, V.cells, PC, Int.toNat_zero, Int.reduceToNat, *] <;> rfl))) | (((with_reducible apply F.indexAddr); (iterate 4 exact rfl)); (focus (simp (disch := first | assumption | omega | (simp only [lnX]; omega)) only [LS, lenV_L, idx_L, below_at, Int.toNat_zero, Int.reduceToNat, *] <;> rfl))) | ((first | ((with_reducible apply F.indexAddr); (iterate 4 exact rfl)) | ((with_reducible apply F.fieldAddrS); (iterate 3 exact rfl))); (focus (simp (disch := first | assumption | omega | (simp only [lnX]; omega)) only [LS, indexAddrV, indexV, below_at, fieldV, fieldAddrV, convP, bytesOf, sliceV, bounds, bMax, bHi, bLo, upTo_at, makeFuncV, partV, partP, cut, binI, binS, binV, binP, arith, strOp_add, strOp_eql, strOp_neq, eqn, wrap64, wrap8, mkAgg, allP, asP, Option.getD_none, Int.toNat_zero, Int.reduceToNat, *] <;> rfl))) | (((with_reducible apply E.rP1); exact rfl; exact rfl; (focus (exact look_of rfl)))) | refine R.regs rfl ?_ | exact rfl
    · rw [if_neg (fun h => ha h.1)]
      repeat' first | (with_reducible first | apply M.free | apply M.done | apply E.seqN | apply E.seqR | apply E.blkR | apply R.skip | apply R.ret) | ((with_reducible first | apply F.move | apply F.assign); exact rfl; exact rfl) | ((with_reducible first | apply F.load | apply F.fieldAddr); (iterate 3 exact rfl)) | ((with_reducible apply F.cmp); (iterate 4 exact rfl)) | (((with_reducible apply F.adds); (iterate 3 exact rfl)); (focus (first | omega | (simp only [lnX]; omega)))) | ((with_reducible apply R.regs); exact rfl) | ((with_reducible apply F.call0); exact rfl; exact rfl; (focus (repeat' (first | exact Evs.nil | (apply Evs.cons; exact rfl)))); exact rfl; (focus (first | exact hr | exact hp | exact hsh))) | ((first | (with_reducible apply R.cond) | ((with_reducible apply M.guard); exact rfl)); (focus (first | (refine Eq.trans (look_of rfl) ?_; first | (simp only [dtX, *] <;> rfl) | exact rfl) | exact look_of rfl))) | refine imp_yes rfl ?_ | exact imp_no rfl | with_reducible apply R.seq | with_reducible apply R.block | (((with_reducible apply F.loadS); (iterate 3 exact rfl)); (focus (simp (disch := first | assumption | omega | (simp only [lnX]; omega)) only [LS, storeV, loadV, partV, partP, cut, over, mkAgg, allP, asP, V.cells, PC, elDiv, elMod, elDiv0, Nat.mul_mod_left, Int.toNat_zero, Int.reduceToNat, *] <;> rfl))) | (((with_reducible apply F.box); (iterate 3 exact rfl)); (focus (simp (disch := first | assumption | omega | (simp only [lnX]; omega)) only [LS, storeV, loadV, partV, partP, cut, over, mkAgg, allP, asP, V.cells, PC, elDiv, elMod, elDiv0, Nat.mul_mod_left, Int.toNat_zero, Int.reduceToNat, *] <;> rfl)); exact rfl; (focus (simp only [LS] <;> rfl)); (focus (simp only [LS] <;> rfl))) | (((with_reducible apply F.buildSlice); exact rfl; exact rfl; (focus (repeat' (first | exact Prs.nil | (apply Prs.cons; exact rfl))))); (focus (simp (disch := first | assumption | omega | (simp only [lnX]; omega)) only [LS, buildV, fillV, over, buildSliceV, elemsOf, appendV, elems, arrAt, cut, roomy, mkAgg, allP, asP, V.cells, PC, Int.toNat_zero, Int.reduceToNat, *] <;> rfl))) | (((with_reducible apply F.indexAddr); (iterate 4 exact rfl)); (focus (simp (disch := first | assumption | omega | (simp only [lnX]; omega)) only [LS, lenV_L, idx_L, below_at, Int.toNat_zero, Int.reduceToNat, *] <;> rfl))) | ((first | ((with_reducible apply F.indexAddr); (iterate 4 exact rfl)) | ((with_reducible apply F.fieldAddrS); (iterate 3 exact rfl))); (focus (simp (disch := first | assumption | omega | (simp only [lnX]; omega)) only [LS, indexAddrV, indexV, below_at, fieldV, fieldAddrV, convP, bytesOf, sliceV, bounds, bMax, bHi, bLo, upTo_at, makeFuncV, partV, partP, cut, binI, binS, binV, binP, arith, strOp_add, strOp_eql, strOp_neq, eqn, wrap64, wrap8, mkAgg, allP, asP, Option.getD_none, Int.toNat_zero, Int.reduceToNat, *] <;> rfl))) | ((with_reducible apply F.pickF'); exact rfl; exact rfl; (focus (simp only [dtX, List.toList_toArray, *]; done)); exact rfl) | (((with_reducible apply E.rP1); exact rfl; exact rfl; (focus (exact look_of rfl)))) | refine R.regs rfl ?_ | exact rfl
  · simp only at h
    subst h
    rw [e5]
    clear e4 e5
    repeat' first | (with_reducible first | apply M.free | apply M.done | apply E.seqR | apply E.blkR | apply R.ret) | ((with_reducible first | apply F.move | apply F.assign); exact rfl; exact rfl) | ((with_reducible first | apply F.load | apply F.fieldAddr); (iterate 3 exact rfl)) | ((with_reducible apply F.cmp); (iterate 4 exact rfl)) | (((with_reducible apply F.adds); (iterate 3 exact rfl)); (focus (first | omega | (simp only [lnX]; omega)))) | ((with_reducible apply R.regs); exact rfl) | ((with_reducible apply F.call0); exact rfl; exact rfl; (focus (repeat' (first | exact Evs.nil | (apply Evs.cons; exact rfl)))); exact rfl; (focus (first | exact hr | exact hp | exact hsh))) | ((first | (with_reducible apply R.cond) | ((with_reducible apply M.guard); exact rfl)); (focus (first | (refine Eq.trans (look_of rfl) ?_; first | (simp only [dtX, *] <;> rfl) | exact rfl) | exact look_of rfl))) | refine imp_yes rfl ?_ | exact imp_no rfl | with_reducible apply R.seq | with_reducible apply R.block | (((with_reducible apply F.loadS); (iterate 3 exact rfl)); (focus (simp (disch := first | assumption | omega | (simp only [lnX]; omega)) only [LS, storeV, loadV, partV, partP, cut, over, mkAgg, allP, asP, V.cells, PC, elDiv, elMod, elDiv0, Nat.mul_mod_left, Int.toNat_zero, Int.reduceToNat, *] <;> rfl))) | (((with_reducible apply F.box); (iterate 3 exact rfl)); (focus (simp (disch := first | assumption | omega | (simp only [lnX]; omega)) only [LS, storeV, loadV, partV, partP, cut, over, mkAgg, allP, asP, V.cells, PC, elDiv, elMod, elDiv0, Nat.mul_mod_left, Int.toNat_zero, Int.reduceToNat, *] <;> rfl)); exact rfl; (focus (simp only [LS] <;> rfl)); (focus (simp only [LS] <;> rfl))) | (((with_reducible apply F.buildSlice); exact rfl; exact rfl; (focus (repeat' (first | exact Prs.nil | (apply Prs.cons; exact rfl))))); (focus (simp (disch := first | assumption | omega | (simp only [lnX]; omega)) only [LS, buildV, fillV, over, buildSliceV, elemsOf, appendV, elems, arrAt, cut, roomy, mkAgg, allP, asP, V.cells, PC, Int.toNat_zero, Int.reduceToNat, *] <;> rfl))) | (((with_reducible apply F.indexAddr); (iterate 4 exact rfl)); (focus (simp (disch := first | assumption | omega | (simp only [lnX]; omega)) only [LS, lenV_L, idx_L, below_at, Int.toNat_zero, Int.reduceToNat, *] <;> rfl))) | (((with_reducible apply F.indexAddr); (iterate 4 exact rfl)); (focus (simp (disch := first | assumption | omega | (simp only [lnX]; omega)) only [LS, indexAddrV, indexV, below_at, fieldV, fieldAddrV, convP, bytesOf, sliceV, bounds, bMax, bHi, bLo, upTo_at, makeFuncV, partV, partP, cut, binI, binS, binV, binP, arith, strOp_add, strOp_eql, strOp_neq, eqn, wrap64, wrap8, mkAgg, allP, asP, Option.getD_none, Int.toNat_zero, Int.reduceToNat, *] <;> rfl))) | (((with_reducible apply E.rP1); exact rfl; exact rfl; (focus (exact look_of rfl)))) | refine R.regs rfl ?_ | exact rfl
theorem plain_tri {x : Pv} {vars : List (List UInt8)} (i : Ins) (a b c : T) (hi : i.op = 16) (hpa : PV cx 30 [.p a.pv, .p x] (.str (plainF vars a))) (hpb : PV cx 30 [.p b.pv, .p x] (.str (plainF vars b))) (hpc : PV cx 30 [.p c.pv, .p x] (.str (plainF vars c)))
    (hla : (plainF vars a).length ≤ 4503599627370496) (hlb : (plainF vars b).length ≤ 4503599627370496) (hlc : (plainF vars c).length ≤ 4503599627370496) : PV cx 30 [.p (T.tri i a b c).pv, .p x] (.str (plainF vars (.tri i a b c))) := by
  refine PV.run cxF30 rfl ?_
  have hr := (T.rank_run (.tri i a b c)).fv
  have hpa := hpa.fv
  have hpb := hpb.fv
  have hpc := hpc.fv
  obtain ⟨op, n⟩ := i
  simp only at hi
  subst hi
  obtain ⟨la, ea⟩ := node_pv a
  obtain ⟨lb, eb⟩ := node_pv b
  obtain ⟨lc, ec⟩ := node_pv c
  simp only [T.pv, node, List.isEmpty_cons, plainF] at hr ⊢
  rw [ea] at hpa
  rw [eb] at hpb
  rw [ec] at hpc
  rw [ea, eb, ec] at hr ⊢
  generalize plainF vars a = sa at *
  generalize plainF vars b = sb at *
  generalize plainF vars c = sc at *
  clear ea eb ec
  simp only [args0, Nat.zero_add, Nat.reduceAdd]
  repeat' first | (with_reducible first | apply M.free | apply M.done | apply E.seqR | apply E.blkR | apply R.ret) | ((with_reducible first | apply F.move | apply F.assign); exact rfl; exact rfl) | ((with_reducible first | apply F.load | apply F.fieldAddr); (iterate 3 exact rfl)) | ((with_reducible apply F.cmp); (iterate 4 exact rfl)) | (((with_reducible apply F.adds); (iterate 3 exact rfl)); (focus (first | omega | (simp only [lnX]; omega)))) | ((with_reducible apply R.regs); exact rfl) | ((with_reducible apply F.call0); exact rfl; exact rfl; (focus (repeat' (first | exact Evs.nil | (apply Evs.cons; exact rfl)))); exact rfl; (focus (first | exact hr | exact hpa | exact hpb | exact hpc))) | ((first | (with_reducible apply R.cond) | ((with_reducible apply M.guard); exact rfl)); (focus (first | (refine Eq.trans (look_of rfl) ?_; first | (simp only [dtX, *] <;> rfl) | exact rfl) | exact look_of rfl))) | refine imp_yes rfl ?_ | exact imp_no rfl | with_reducible apply R.seq | with_reducible apply R.block | (((with_reducible apply F.loadS); (iterate 3 exact rfl)); (focus (simp (disch := first | assumption | omega | (simp only [lnX]; omega)) only [LS, storeV, loadV, partV, partP, cut, over, mkAgg, allP, asP, V.cells, PC, elDiv, elMod, elDiv0, Nat.mul_mod_left, Int.toNat_zero, Int.reduceToNat, *] <;> rfl))) | (((with_reducible apply F.box); (iterate 3 exact rfl)); (focus (simp (disch := first | assumption | omega | (simp only [lnX]; omega)) only [LS, storeV, loadV, partV, partP, cut, over, mkAgg, allP, asP, V.cells, PC, elDiv, elMod, elDiv0, Nat.mul_mod_left, Int.toNat_zero, Int.reduceToNat, *] <;> rfl)); exact rfl; (focus (simp only [LS] <;> rfl)); (focus (simp only [LS] <;> rfl))) | (((with_reducible apply F.buildSlice); exact rfl; exact rfl; (focus (repeat' (first | exact Prs.nil | (apply Prs.cons; exact rfl))))); (focus (simp (disch := first | assumption | omega | (simp only [lnX]; omega)) only [LS, buildV, fillV, over, buildSliceV, elemsOf, appendV, elems, arrAt, cut, roomy, mkAgg, allP, asP, V.cells, PC, Int.toNat_zero, Int.reduceToNat, *] <;> rfl))) | (((with_reducible apply F.indexAddr); (iterate 4 exact rfl)); (focus (simp (disch := first | assumption | omega | (simp only [lnX]; omega)) only [LS, lenV_L, idx_L, below_at, Int.toNat_zero, Int.reduceToNat, *] <;> rfl))) | (((with_reducible apply F.indexAddr); (iterate 4 exact rfl)); (focus (simp (disch := first | assumption | omega | (simp only [lnX]; omega)) only [LS, indexAddrV, indexV, below_at, fieldV, fieldAddrV, convP, bytesOf, sliceV, bounds, bMax, bHi, bLo, upTo_at, makeFuncV, partV, partP, cut, binI, binS, binV, binP, arith, strOp_add, strOp_eql, strOp_neq, eqn, wrap64, wrap8, mkAgg, allP, asP, Option.getD_none, Int.toNat_zero, Int.reduceToNat, *] <;> rfl))) | (((with_reducible apply E.rP1); exact rfl; exact rfl; (focus (exact look_of rfl)))) | refine R.regs rfl ?_ | exact rfl
theorem plain_bin {x : Pv} {vars : List (List UInt8)} (i : Ins) (a b : T) (hi : 6 ≤ i.op ∧ i.op ≤ 15) (hpa : PV cx 30 [.p a.pv, .p x] (.str (plainF vars a))) (hpb : PV cx 30 [.p b.pv, .p x] (.str (plainF vars b)))
    (hla : (plainF vars a).length ≤ 4503599627370496) (hlb : (plainF vars b).length ≤ 4503599627370496) : PV cx 30 [.p (T.bin i a b).pv, .p x] (.str (plainF vars (.bin i a b))) := by
  refine PV.run cxF30 rfl ?_
  have hr := (T.rank_run (.bin i a b)).fv
  have ha := fun q => (shown_run a hpa (by omega) q).fv
  have hb := fun q => (shown_run b hpb (by omega) q).fv
  have hpa := hpa.fv
  have hpb := hpb.fv
  obtain ⟨op, n⟩ := i
  have hop : op = 6 ∨ op = 7 ∨ op = 8 ∨ op = 9 ∨ op = 10 ∨ op = 11 ∨ op = 12 ∨ op = 13 ∨ op = 14 ∨ op = 15 := by simp only at hi; omega
  obtain ⟨la, ea⟩ := node_pv a
  obtain ⟨lb, eb⟩ := node_pv b
  have l1 := held_len (plainF vars a) a.rank (leftF (rankF op n))
  have l2 := held_len (plainF vars b) b.rank (rankF op n + 1)
  have ha' := ha (leftF (rankF op n))
  have hb' := hb (rankF op n + 1)
  clear ha hb
  simp only [T.pv, node, List.isEmpty_cons, plainF] at hr ⊢
  rw [ea] at hpa ha'
  rw [eb] at hpb hb'
  rw [ea, eb] at hr ⊢
  generalize heldF (plainF vars a) a.rank (leftF (rankF op n)) = ha1 at *
  generalize heldF (plainF vars b) b.rank (rankF op n + 1) = hb1 at *
  generalize plainF vars a = sa at *
  generalize plainF vars b = sb at *
  clear ea eb hi
  simp only [args0, Nat.zero_add, Nat.reduceAdd]
  rcases hop with rfl | rfl | rfl | rfl | rfl | rfl | rfl | rfl | rfl | rfl
  repeat' first | (with_reducible first | apply M.free | apply M.done | apply E.seqN | apply E.seqR | apply E.blkN | apply E.blkR | apply R.skip | apply R.ret) | ((with_reducible first | apply F.move | apply F.assign); exact rfl; exact rfl) | ((with_reducible first | apply F.load | apply F.fieldAddr); (iterate 3 exact rfl)) | ((with_reducible apply F.cmp); (iterate 4 exact rfl)) | ((first | ((with_reducible apply F.add); (iterate 3 exact rfl)) | ((with_reducible apply F.adds); (iterate 3 exact rfl))); (focus (first | omega | (simp only [lnX]; omega)))) | ((with_reducible apply R.regs); exact rfl) | ((with_reducible apply F.call0); exact rfl; exact rfl; (focus (repeat' (first | exact Evs.nil | (apply Evs.cons; exact rfl)))); exact rfl; (focus (first | exact hr | exact hpa | exact hpb | exact ha' | exact hb'))) | ((first | (with_reducible apply R.cond) | ((with_reducible apply M.guard); exact rfl)); (focus (first | (refine Eq.trans (look_of rfl) ?_; first | (simp only [dtX, *] <;> rfl) | exact rfl) | exact look_of rfl))) | refine imp_yes rfl ?_ | exact imp_no rfl | with_reducible apply R.seq | ((with_reducible apply R.region); exact rfl) | with_reducible apply R.block | (((with_reducible apply F.loadS); (iterate 3 exact rfl)); (focus (simp (disch := first | assumption | omega | (simp only [lnX]; omega)) only [LS, storeV, loadV, partV, partP, cut, over, mkAgg, allP, asP, V.cells, PC, elDiv, elMod, elDiv0, Nat.mul_mod_left, Int.toNat_zero, Int.reduceToNat, *] <;> rfl))) | (((with_reducible apply F.box); (iterate 3 exact rfl)); (focus (simp (disch := first | assumption | omega | (simp only [lnX]; omega)) only [LS, storeV, loadV, partV, partP, cut, over, mkAgg, allP, asP, V.cells, PC, elDiv, elMod, elDiv0, Nat.mul_mod_left, Int.toNat_zero, Int.reduceToNat, *] <;> rfl)); exact rfl; (focus (simp only [LS] <;> rfl)); (focus (simp only [LS] <;> rfl))) | (((with_reducible apply F.buildSlice); exact rfl; exact rfl; (focus (repeat' (first | exact Prs.nil | (apply Prs.cons; exact rfl))))); (focus (simp (disch := first | assumption | omega | (simp only [lnX]; omega)) only [LS, buildV, fillV, over, buildSliceV, elemsOf, appendV, elems, arrAt, cut, roomy, mkAgg, allP, asP, V.cells, PC, Int.toNat_zero, Int.reduceToNat, *] <;> rfl))) | (((with_reducible apply F.indexAddr); (iterate 4 exact rfl)); (focus (simp (disch := first | assumption | omega | (simp only [lnX]; omega)) only [LS, lenV_L, idx_L, below_at, Int.toNat_zero, Int.reduceToNat, *] <;> rfl))) | ((first | ((with_reducible apply F.indexAddr); (iterate 4 exact rfl)) | ((with_reducible apply F.bin); (iterate 4 exact rfl))); (focus (simp (disch := first | assumption | omega | (simp only [lnX]; omega)) only [LS, indexAddrV, indexV, below_at, fieldV, fieldAddrV, convP, bytesOf, sliceV, bounds, bMax, bHi, bLo, upTo_at, makeFuncV, partV, partP, cut, binI, binS, binV, binP, arith, strOp_add, strOp_eql, strOp_neq, eqn, wrap64, wrap8, mkAgg, allP, asP, Option.getD_none, Int.toNat_zero, Int.reduceToNat, *] <;> rfl))) | (((with_reducible apply E.rP1); exact rfl; exact rfl; (focus (exact look_of rfl)))) | refine R.regs rfl ?_ | exact rfl
theorem plain_run {x : Pv} {vars : List (List UInt8)} (hx : IsL 1 x) (hl : elemsP x = vars.map .str) (hv : ∀ v ∈ vars, v.length ≤ 140737488355328) : ∀ (t : T), okT vars t → wt t ≤ 4503599627370496 → PV cx 30 [.p t.pv, .p x] (.str (plainF vars t))
  | .leaf i, h, _ => plain_leaf hx hl hv i h
  | .un i a, h, hw => by
    simp only [okT] at h
    simp only [wt] at hw
    have := plain_len hv a h.2
    exact plain_un i a h.1 (plain_run hx hl hv a h.2 (by omega)) (by omega)
  | .bin i a b, h, hw => by
    simp only [okT] at h
    simp only [wt] at hw
    have := plain_len hv a h.2.2.1
    have := plain_len hv b h.2.2.2
    exact plain_bin i a b ⟨h.1, h.2.1⟩ (plain_run hx hl hv a h.2.2.1 (by omega)) (plain_run hx hl hv b h.2.2.2 (by omega)) (by omega) (by omega)
  | .tri i a b c, h, hw => by
    simp only [okT] at h
    simp only [wt] at hw
    have := plain_len hv a h.2.1
    have := plain_len hv b h.2.2.1
    have := plain_len hv c h.2.2.2
    exact plain_tri i a b c h.1 (plain_run hx hl hv a h.2.1 (by omega)) (plain_run hx hl hv b h.2.2.1 (by omega)) (plain_run hx hl hv c h.2.2.2 (by omega)) (by omega) (by omega) (by omega)
def stP : List T → Pv
  | [] => .nils
  | t :: st => .sl 3 false (stL (t :: st))
theorem tree_run (code : List Ins) (x : Pv) (hx : IsL 2 x) (hl : elemsP x = code.map Ins.pv) (vars args : Int) (hc : chk vars args 0 0 code = (0, 0)) (h31 : code.length ≤ 31) (t : T) (hb : bld code [] = [t]) : PV cx 31 [.p x] t.pv := by
  refine PV.run cxF31 rfl ?_
  simp only [args0, Nat.zero_add, Nat.reduceAdd]
  repeat' first | (with_reducible first | apply M.free | apply M.done) | ((with_reducible apply F.assign); exact rfl; exact rfl) | ((with_reducible apply R.regs); exact rfl) | ((with_reducible apply R.regsL); exact rfl) | ((with_reducible apply Lv.of); (focus (repeat' (first | exact Kp.nil | (apply Kp.cons; exact rfl))))) | with_reducible apply R.seq | with_reducible apply R.block | (((with_reducible apply F.alloc); exact rfl; exact rfl); (focus (simp only [LS] <;> rfl)); (focus (simp only [LS] <;> rfl))) | refine R.regs rfl ?_
  refine R.loop (fun m e H => ∃ (i : Nat) (st : List T), e = [(0, .p x), (2, .ptr 0 0 0), (3, .p (stP st)), (4, .p (.int .i64 i))] ∧ H = [.box 0 [.p (.int .i64 0), .p (.int .i64 0), .p .nils]] ∧ i ≤ code.length ∧ m = code.length - i ∧ st.length ≤ i ∧ chk vars args st.length i (code.drop i) = (0, 0) ∧ bld (code.drop i) st = [t]) code.length
    ⟨0, [], rfl, rfl, by omega, rfl, by simp, hc, hb⟩ ?_
  clear hc hb
  rintro m e H ⟨i, st, rfl, rfl, h2, rfl, hs, hc, hb⟩
  by_cases hlt : (i : Int) < code.length
  · obtain ⟨a, hcode⟩ : ∃ b, code[i]? = some b := ⟨code[i]'(by omega), by simp⟩
    rw [drop_at hcode] at hc hb
    obtain ⟨c1, c2, c3, c4⟩ := chk_step hc
    obtain ⟨base, kids, hk, hL, hL', hlen⟩ := push_split a st c1 c3
    have hpl := push_len a st c1 c3
    have hTk := (Takes_run a.op).fv
    have htl := takesF_le a.op
    simp only [bld] at hb
    have hend : ∀ st', st' = stP (pushT a st) → ∃ k, k < code.length - i ∧ ∃ (i' : Nat) (st'' : List T), ([(0, .p x), (2, .ptr 0 0 0), (3, .p st'), (4, .p (.int .i64 ((i : Int) + 1)))] : Env) = [(0, .p x), (2, .ptr 0 0 0), (3, .p (stP st'')), (4, .p (.int .i64 i'))] ∧ ([.box 0 [.p (.int .i64 0), .p (.int .i64 0), .p .nils]] : Hp) = [.box 0 [.p (.int .i64 0), .p (.int .i64 0), .p .nils]] ∧ i' ≤ code.length ∧ k = code.length - i' ∧ st''.length ≤ i' ∧ chk vars args st''.length i' (code.drop i') = (0, 0) ∧ bld (code.drop i') st'' = [t] :=
      fun st' e => ⟨code.length - (i + 1), by omega, i + 1, pushT a st, by rw [e]; rfl, rfl, by omega, rfl, by omega, by rw [hpl]; exact c4, hb⟩
    have hst : stP st = if st = [] then .nils else .sl 3 false (base ++ kids) := by
      cases st with
      | nil => rfl
      | cons t r => rw [if_neg (by simp), ← hL]; rfl
    have hst' : stP (pushT a st) = .sl 3 false (base ++ [node a kids]) := by
      cases hp : pushT a st with
      | nil => rw [hp] at hL'; simp [stL] at hL'
      | cons t r => rw [← hL', hp]; rfl
    have hkn : takesF a.op = kids.length := hk.symm
    rw [hkn] at hTk
    obtain ⟨op, n⟩ := a
    have hb1 : List.drop base.length (base ++ kids) = kids := by simp
    have hb2 : List.take base.length (base ++ kids) = base := by simp
    by_cases hnil : st = []
    · have h0 : base = [] ∧ kids = [] := by
        rw [hnil] at hlen
        simpa using hlen
      obtain ⟨rfl, rfl⟩ := h0
      rw [hst, if_pos hnil]
      have hfin := fun st' (e : st' = Pv.sl 3 false ([] ++ [node ⟨op, n⟩ []])) => hend st' (e.trans hst'.symm)
      clear hend hst hst' hL hL' hb c1 c2 c3 c4 hc hpl hk htl hs hkn
      repeat' first | (with_reducible first | apply M.free | apply M.done | apply E.seqN | apply E.blkN | apply R.skip) | ((with_reducible first | apply F.move | apply F.assign); exact rfl; exact rfl) | ((with_reducible apply F.load); (iterate 3 exact rfl)) | ((with_reducible first | apply F.cmp | apply F.len); (iterate 4 exact rfl)) | ((first | ((with_reducible apply F.add); (iterate 3 exact rfl)) | ((with_reducible apply F.sub); (iterate 3 exact rfl))); (focus (first | omega | (simp only [lnX]; omega)))) | ((with_reducible apply R.regs); exact rfl) | ((with_reducible apply Cut.of); (focus (repeat' (first | exact Kp.nil | (apply Kp.cons; exact rfl)))); (focus ((try simp only [List.take_succ_cons, List.take_zero, List.take_nil, Nat.zero_add, Nat.reduceAdd]) <;> rfl)); (focus (first | exact rfl | (simp [cutOk, lowOb, lowV, lowCell, lowCell1, low_map]; done)))) | ((with_reducible apply F.call0); exact rfl; exact rfl; (focus (repeat' (first | exact Evs.nil | (apply Evs.cons; exact rfl)))); exact rfl; (focus (first | exact hTk))) | ((first | (with_reducible apply R.cond) | ((with_reducible apply M.guard); exact rfl)); (focus (first | (refine Eq.trans (look_of rfl) ?_; first | (simp only [dtX, *, hl, hcode, List.length_map, List.getElem?_map, Ins.pv] <;> rfl) | exact rfl) | exact look_of rfl))) | refine imp_yes rfl ?_ | exact imp_no rfl | with_reducible apply R.seq | ((with_reducible apply R.region); exact rfl) | ((with_reducible apply R.regionT); exact rfl) | with_reducible apply R.block | ((first | ((with_reducible apply F.store); (iterate 4 exact rfl)) | ((with_reducible apply F.loadS); (iterate 3 exact rfl)) | ((with_reducible apply F.load2); (iterate 3 exact rfl))); (focus (simp (disch := first | assumption | omega | (simp only [lnX]; omega)) only [LS, storeV, loadV, partV, partP, cut, over, mkAgg, allP, asP, V.cells, PC, elDiv, elMod, elDiv0, Nat.mul_mod_left, Int.toNat_zero, Int.reduceToNat, *, hl, hcode, List.length_map, List.getElem?_map, Ins.pv] <;> rfl))) | (((with_reducible apply F.alloc); exact rfl; exact rfl); (focus (simp only [LS] <;> rfl)); (focus (simp only [LS] <;> rfl))) | ((first | ((with_reducible apply F.build); exact rfl; exact rfl; (focus (repeat' (first | exact Prs.nil | (apply Prs.cons; exact rfl))))) | ((with_reducible apply F.buildSlice); exact rfl; exact rfl; (focus (repeat' (first | exact Prs.nil | (apply Prs.cons; exact rfl))))) | ((with_reducible apply F.append); (iterate 8 exact rfl)) | ((with_reducible apply F.append3); (iterate 8 exact rfl))); (focus (simp (disch := first | assumption | omega | (simp only [lnX]; omega)) only [LS, buildV, fillV, over, buildSliceV, elemsOf, appendV, elems, arrAt, cut, roomy, mkAgg, allP, asP, V.cells, PC, Int.toNat_zero, Int.reduceToNat, *, hl, hcode, List.length_map, List.getElem?_map, Ins.pv] <;> rfl))) | ((first | ((with_reducible apply F.indexAddr); (iterate 4 exact rfl)) | ((with_reducible apply F.len); (iterate 3 exact rfl))); (focus (simp (disch := first | assumption | omega | (simp only [lnX]; omega)) only [LS, lenV_L, idx_L, below_at, Int.toNat_zero, Int.reduceToNat, *, hl, hcode, List.length_map, List.getElem?_map, Ins.pv] <;> rfl))) | ((first | ((with_reducible apply F.slice); (iterate 6 exact rfl)) | ((with_reducible apply F.fieldAddrS); (iterate 3 exact rfl))); (focus (simp (disch := first | assumption | omega | (simp only [lnX]; omega)) only [LS, indexAddrV, indexV, below_at, fieldV, fieldAddrV, convP, bytesOf, sliceV, bounds, bMax, bHi, bLo, upTo_at, makeFuncV, partV, partP, cut, binI, binS, binV, binP, arith, strOp_add, strOp_eql, strOp_neq, eqn, wrap64, wrap8, mkAgg, allP, asP, Option.getD_none, Int.toNat_zero, Int.reduceToNat, *, hl, hcode, List.length_map, List.getElem?_map, Ins.pv] <;> rfl))) | ((first | ((with_reducible apply F.assignF); exact rfl; exact rfl) | ((with_reducible apply F.append2); (iterate 8 exact rfl))); (focus (simp (disch := first | assumption | omega | (simp only [lnX]; omega)) only [LS, frzCells, frzAt, frz, markCells, markAt, mark, elems, arrAt, cut, allP, asP, appendV, V.cells, PC, roomy, Int.toNat_zero, Int.reduceToNat, *, hl, hcode, List.length_map, List.getElem?_map, Ins.pv] <;> rfl)); (focus (simp (disch := first | assumption | omega | (simp only [lnX]; omega)) only [LS, frzCells, frzAt, frz, markCells, markAt, mark, elems, arrAt, cut, allP, asP, appendV, V.cells, PC, roomy, Int.toNat_zero, Int.reduceToNat, *, hl, hcode, List.length_map, List.getElem?_map, Ins.pv] <;> rfl)))
      all_goals exact hfin _ rfl
    · rw [hst, if_neg hnil]
      have hfin := fun st' (e : st' = Pv.sl 3 false (base ++ [node ⟨op, n⟩ kids])) => hend st' (e.trans hst'.symm)
      have hcells : Sz 3 (stL st) := by
        intro p hp
        simp only [stL, List.mem_map] at hp
        obtain ⟨t, _, rfl⟩ := hp
        cases t <;> rfl
      rw [hL] at hcells
      have hsk : Sz 3 kids := fun p hp => hcells p (by simp [hp])
      have hsb : Sz 3 base := fun p hp => hcells p (by simp [hp])
      have e1 : (((base ++ kids).length : Nat) : Int) - (kids.length : Int) = (base.length : Int) := by simp
      have hlt1 : base.length ≤ (base ++ kids).length := by simp
      have e2 : (base ++ kids).length - base.length = kids.length := by simp
      have e3 : List.take kids.length kids = kids := by simp
      have hkl : kids.length ≤ 3 := by omega
      have hbl : base.length ≤ 31 := by omega
      have hne : base = [] → kids ≠ [] := fun h1 h2 => by
        rw [h1, h2] at hlen
        exact hnil (List.length_eq_zero_iff.1 hlen.symm)
      clear hend hst hst' hL hL' hb c1 c2 c3 c4 hc hpl hk htl hs hkn hcells hlen
      generalize hLL : base ++ kids = L at *
      clear hLL
      generalize hnb : base.length = nb at *
      generalize hnk : kids.length = nk at *
      by_cases hk0 : kids = []
      · have hb0 : base ≠ [] := fun h => hne h hk0
        have hbl2 : base.length ≤ 31 := by omega
        clear hnb hnk hsk hne
        repeat' first | (with_reducible first | apply M.free | apply M.done | apply E.seqN | apply E.blkN | apply R.skip) | ((with_reducible first | apply F.move | apply F.assign); exact rfl; exact rfl) | ((with_reducible apply F.load); (iterate 3 exact rfl)) | ((with_reducible first | apply F.cmp | apply F.len); (iterate 4 exact rfl)) | ((first | ((with_reducible apply F.add); (iterate 3 exact rfl)) | ((with_reducible apply F.sub); (iterate 3 exact rfl))); (focus (first | omega | (simp only [lnX]; omega)))) | ((with_reducible apply R.regs); exact rfl) | ((with_reducible apply Cut.of); (focus (repeat' (first | exact Kp.nil | (apply Kp.cons; exact rfl)))); (focus ((try simp only [List.take_succ_cons, List.take_zero, List.take_nil, Nat.zero_add, Nat.reduceAdd]) <;> rfl)); (focus (first | exact rfl | (simp [cutOk, lowOb, lowV, lowCell, lowCell1, low_map]; done)))) | ((with_reducible apply F.call0); exact rfl; exact rfl; (focus (repeat' (first | exact Evs.nil | (apply Evs.cons; exact rfl)))); exact rfl; (focus (first | exact hTk))) | ((first | (with_reducible apply R.cond) | ((with_reducible apply M.guard); exact rfl)); (focus (first | (refine Eq.trans (look_of rfl) ?_; first | (simp only [dtX, *, hl, hcode, List.length_map, List.getElem?_map, Ins.pv, List.take_nil, Nat.sub_zero] <;> rfl) | exact rfl) | exact look_of rfl))) | refine imp_yes rfl ?_ | exact imp_no rfl | with_reducible apply R.seq | ((with_reducible apply R.region); exact rfl) | ((with_reducible apply R.regionT); exact rfl) | with_reducible apply R.block | ((with_reducible apply F.append3); (iterate 8 exact rfl); (focus (refine Eq.trans (append_sl hb0 (by decide) hsb (by simp only [List.length_nil]; omega) (by decide)) ?_; simp only [List.length_cons, List.length_nil, List.cons_append, List.nil_append, List.set_cons_zero, List.set_cons_succ, List.map_cons, List.map_nil, Nat.zero_add, Nat.reduceAdd, Nat.sub_zero]; rfl))) | ((with_reducible apply F.append); (iterate 8 exact rfl); (focus (refine Eq.trans (append_arr (by simp) (by decide) (fun p hp => by simp only [List.mem_singleton] at hp; subst hp; rfl) rfl (cut_all (by simp)) (Nat.zero_le _) (by simp only [List.length_cons, List.length_nil]; omega) (by decide)) ?_; simp only [List.length_cons, List.length_nil, List.cons_append, List.nil_append, List.set_cons_zero, List.set_cons_succ, List.map_cons, List.map_nil, Nat.zero_add, Nat.reduceAdd, Nat.sub_zero]; rfl))) | ((with_reducible apply F.assignF); exact rfl; exact rfl; (focus (exact frz_arr (l := base ++ [.agg [.int .i64 op, .int .i64 n, .sl 3 true []]]) rfl ((cut_all (by simp)).trans (congrArg some (by simp))))); (focus (apply Eq.trans (mark_arr rfl); simp only [List.length_cons, List.length_nil, List.cons_append, List.nil_append, List.set_cons_zero, List.set_cons_succ, List.map_cons, List.map_nil, Nat.zero_add, Nat.reduceAdd, Nat.sub_zero]; rfl))) | ((first | ((with_reducible apply F.store); (iterate 4 exact rfl)) | ((with_reducible apply F.loadS); (iterate 3 exact rfl)) | ((with_reducible apply F.load2); (iterate 3 exact rfl))); (focus (simp (disch := first | assumption | omega | (simp only [lnX]; omega)) only [LS, storeV, loadV, partV, partP, cut, over, mkAgg, allP, asP, V.cells, PC, elDiv, elMod, elDiv0, Nat.mul_mod_left, Int.toNat_zero, Int.reduceToNat, *, hl, hcode, List.length_map, List.getElem?_map, Ins.pv, List.take_nil, Nat.sub_zero] <;> rfl))) | (((with_reducible apply F.alloc); exact rfl; exact rfl); (focus (simp only [LS] <;> rfl)); (focus (simp only [LS] <;> rfl))) | ((first | ((with_reducible apply F.build); exact rfl; exact rfl; (focus (repeat' (first | exact Prs.nil | (apply Prs.cons; exact rfl))))) | ((with_reducible apply F.buildSlice); exact rfl; exact rfl; (focus (repeat' (first | exact Prs.nil | (apply Prs.cons; exact rfl)))))); (focus (simp (disch := first | assumption | omega | (simp only [lnX]; omega)) only [LS, buildV, fillV, over, buildSliceV, elemsOf, appendV, elems, arrAt, cut, roomy, mkAgg, allP, asP, V.cells, PC, Int.toNat_zero, Int.reduceToNat, *, hl, hcode, List.length_map, List.getElem?_map, Ins.pv, List.take_nil, Nat.sub_zero] <;> rfl))) | ((first | ((with_reducible apply F.indexAddr); (iterate 4 exact rfl)) | ((with_reducible apply F.len); (iterate 3 exact rfl))); (focus (simp (disch := first | assumption | omega | (simp only [lnX]; omega)) only [LS, lenV_L, idx_L, below_at, Int.toNat_zero, Int.reduceToNat, *, hl, hcode, List.length_map, List.getElem?_map, Ins.pv, List.take_nil, Nat.sub_zero] <;> rfl))) | ((first | ((with_reducible apply F.slice); (iterate 6 exact rfl)) | ((with_reducible apply F.fieldAddrS); (iterate 3 exact rfl))); (focus (simp (disch := first | assumption | omega | (simp only [lnX]; omega)) only [LS, indexAddrV, indexV, below_at, fieldV, fieldAddrV, convP, bytesOf, sliceV, bounds, bMax, bHi, bLo, upTo_at, makeFuncV, partV, partP, cut, binI, binS, binV, binP, arith, strOp_add, strOp_eql, strOp_neq, eqn, wrap64, wrap8, mkAgg, allP, asP, Option.getD_none, Int.toNat_zero, Int.reduceToNat, *, hl, hcode, List.length_map, List.getElem?_map, Ins.pv, List.take_nil, Nat.sub_zero] <;> rfl))) | (((with_reducible apply F.append2); (iterate 8 exact rfl)); (focus (simp (disch := first | assumption | omega | (simp only [lnX]; omega)) only [LS, frzCells, frzAt, frz, markCells, markAt, mark, elems, arrAt, cut, allP, asP, appendV, V.cells, PC, roomy, Int.toNat_zero, Int.reduceToNat, *, hl, hcode, List.length_map, List.getElem?_map, Ins.pv, List.take_nil, Nat.sub_zero] <;> rfl)); (focus (simp (disch := first | assumption | omega | (simp only [lnX]; omega)) only [LS, frzCells, frzAt, frz, markCells, markAt, mark, elems, arrAt, cut, allP, asP, appendV, V.cells, PC, roomy, Int.toNat_zero, Int.reduceToNat, *, hl, hcode, List.length_map, List.getElem?_map, Ins.pv, List.take_nil, Nat.sub_zero] <;> rfl)))
        all_goals (refine hfin _ ?_)
        all_goals (simp only [node, *]; first | rfl | (cases kids with | nil => exact absurd rfl hk0 | cons => rfl) | trace_state)
      · have hbl2 : base.length ≤ 31 := by omega
        have hkl2 : kids.length ≤ 3 := by omega
        clear hnb hnk hne
        by_cases hb0 : base = []
        · repeat' first | (with_reducible first | apply M.free | apply M.done | apply E.seqN | apply E.blkN | apply R.skip) | ((with_reducible first | apply F.move | apply F.assign); exact rfl; exact rfl) | ((with_reducible apply F.load); (iterate 3 exact rfl)) | ((with_reducible first | apply F.cmp | apply F.len); (iterate 4 exact rfl)) | ((first | ((with_reducible apply F.add); (iterate 3 exact rfl)) | ((with_reducible apply F.sub); (iterate 3 exact rfl))); (focus (first | omega | (simp only [lnX]; omega)))) | ((with_reducible apply R.regs); exact rfl) | ((with_reducible apply Cut.of); (focus (repeat' (first | exact Kp.nil | (apply Kp.cons; exact rfl)))); (focus ((try simp only [List.take_succ_cons, List.take_zero, List.take_nil, Nat.zero_add, Nat.reduceAdd]) <;> rfl)); (focus (first | exact rfl | (simp [cutOk, lowOb, lowV, lowCell, lowCell1, low_map]; done)))) | ((with_reducible apply F.call0); exact rfl; exact rfl; (focus (repeat' (first | exact Evs.nil | (apply Evs.cons; exact rfl)))); exact rfl; (focus (first | exact hTk))) | ((first | (with_reducible apply R.cond) | ((with_reducible apply M.guard); exact rfl)); (focus (first | (refine Eq.trans (look_of rfl) ?_; first | (simp only [dtX, *, hl, hcode, List.length_map, List.getElem?_map, Ins.pv, List.take_nil, Nat.sub_zero] <;> rfl) | exact rfl) | exact look_of rfl))) | refine imp_yes rfl ?_ | exact imp_no rfl | with_reducible apply R.seq | ((with_reducible apply R.region); exact rfl) | ((with_reducible apply R.regionT); exact rfl) | with_reducible apply R.block | ((with_reducible apply F.append2); (iterate 8 exact rfl); (focus (exact append_sl hk0 (by decide) hsk (by simp only [List.length_nil]; omega) (by decide))); (focus (exact frz_arr (l := kids) rfl ((cut_all (by simp)).trans (congrArg some (by simp)))))) | ((first | ((with_reducible apply F.store); (iterate 4 exact rfl)) | ((with_reducible apply F.loadS); (iterate 3 exact rfl)) | ((with_reducible apply F.load2); (iterate 3 exact rfl))); (focus (simp (disch := first | assumption | omega | (simp only [lnX]; omega)) only [LS, storeV, loadV, partV, partP, cut, over, mkAgg, allP, asP, V.cells, PC, elDiv, elMod, elDiv0, Nat.mul_mod_left, Int.toNat_zero, Int.reduceToNat, *, hl, hcode, List.length_map, List.getElem?_map, Ins.pv, List.take_nil, Nat.sub_zero] <;> rfl))) | (((with_reducible apply F.alloc); exact rfl; exact rfl); (focus (simp only [LS] <;> rfl)); (focus (simp only [LS] <;> rfl))) | ((first | ((with_reducible apply F.build); exact rfl; exact rfl; (focus (repeat' (first | exact Prs.nil | (apply Prs.cons; exact rfl))))) | ((with_reducible apply F.buildSlice); exact rfl; exact rfl; (focus (repeat' (first | exact Prs.nil | (apply Prs.cons; exact rfl))))) | ((with_reducible apply F.append); (iterate 8 exact rfl)) | ((with_reducible apply F.append3); (iterate 8 exact rfl))); (focus (simp (disch := first | assumption | omega | (simp only [lnX]; omega)) only [LS, buildV, fillV, over, buildSliceV, elemsOf, appendV, elems, arrAt, cut, roomy, mkAgg, allP, asP, V.cells, PC, Int.toNat_zero, Int.reduceToNat, *, hl, hcode, List.length_map, List.getElem?_map, Ins.pv, List.take_nil, Nat.sub_zero] <;> rfl))) | ((first | ((with_reducible apply F.indexAddr); (iterate 4 exact rfl)) | ((with_reducible apply F.len); (iterate 3 exact rfl))); (focus (simp (disch := first | assumption | omega | (simp only [lnX]; omega)) only [LS, lenV_L, idx_L, below_at, Int.toNat_zero, Int.reduceToNat, *, hl, hcode, List.length_map, List.getElem?_map, Ins.pv, List.take_nil, Nat.sub_zero] <;> rfl))) | ((first | ((with_reducible apply F.slice); (iterate 6 exact rfl)) | ((with_reducible apply F.fieldAddrS); (iterate 3 exact rfl))); (focus (simp (disch := first | assumption | omega | (simp only [lnX]; omega)) only [LS, indexAddrV, indexV, below_at, fieldV, fieldAddrV, convP, bytesOf, sliceV, bounds, bMax, bHi, bLo, upTo_at, makeFuncV, partV, partP, cut, binI, binS, binV, binP, arith, strOp_add, strOp_eql, strOp_neq, eqn, wrap64, wrap8, mkAgg, allP, asP, Option.getD_none, Int.toNat_zero, Int.reduceToNat, *, hl, hcode, List.length_map, List.getElem?_map, Ins.pv, List.take_nil, Nat.sub_zero] <;> rfl))) | (((with_reducible apply F.assignF); exact rfl; exact rfl); (focus (simp (disch := first | assumption | omega | (simp only [lnX]; omega)) only [LS, frzCells, frzAt, frz, markCells, markAt, mark, elems, arrAt, cut, allP, asP, appendV, V.cells, PC, roomy, Int.toNat_zero, Int.reduceToNat, *, hl, hcode, List.length_map, List.getElem?_map, Ins.pv, List.take_nil, Nat.sub_zero] <;> rfl)); (focus (simp (disch := first | assumption | omega | (simp only [lnX]; omega)) only [LS, frzCells, frzAt, frz, markCells, markAt, mark, elems, arrAt, cut, allP, asP, appendV, V.cells, PC, roomy, Int.toNat_zero, Int.reduceToNat, *, hl, hcode, List.length_map, List.getElem?_map, Ins.pv, List.take_nil, Nat.sub_zero] <;> rfl)))
          all_goals (refine hfin _ ?_)
          all_goals (simp only [node, *]; first | rfl | (cases kids with | nil => exact absurd rfl hk0 | cons => rfl) | trace_state)
        · repeat' first | (with_reducible first | apply M.free | apply M.done | apply E.seqN | apply E.blkN | apply R.skip) | ((with_reducible first | apply F.move | apply F.assign); exact rfl; exact rfl) | ((with_reducible apply F.load); (iterate 3 exact rfl)) | ((with_reducible first | apply F.cmp | apply F.len); (iterate 4 exact rfl)) | ((first | ((with_reducible apply F.add); (iterate 3 exact rfl)) | ((with_reducible apply F.sub); (iterate 3 exact rfl))); (focus (first | omega | (simp only [lnX]; omega)))) | ((with_reducible apply R.regs); exact rfl) | ((with_reducible apply Cut.of); (focus (repeat' (first | exact Kp.nil | (apply Kp.cons; exact rfl)))); (focus ((try simp only [List.take_succ_cons, List.take_zero, List.take_nil, Nat.zero_add, Nat.reduceAdd]) <;> rfl)); (focus (first | exact rfl | (simp [cutOk, lowOb, lowV, lowCell, lowCell1, low_map]; done)))) | ((with_reducible apply F.call0); exact rfl; exact rfl; (focus (repeat' (first | exact Evs.nil | (apply Evs.cons; exact rfl)))); exact rfl; (focus (first | exact hTk))) | ((first | (with_reducible apply R.cond) | ((with_reducible apply M.guard); exact rfl)); (focus (first | (refine Eq.trans (look_of rfl) ?_; first | (simp only [dtX, *, hl, hcode, List.length_map, List.getElem?_map, Ins.pv, List.take_nil, Nat.sub_zero] <;> rfl) | exact rfl) | exact look_of rfl))) | refine imp_yes rfl ?_ | exact imp_no rfl | with_reducible apply R.seq | ((with_reducible apply R.region); exact rfl) | ((with_reducible apply R.regionT); exact rfl) | with_reducible apply R.block | ((with_reducible apply F.append2); (iterate 8 exact rfl); (focus (exact append_sl hk0 (by decide) hsk (by simp only [List.length_nil]; omega) (by decide))); (focus (exact frz_arr (l := kids) rfl ((cut_all (by simp)).trans (congrArg some (by simp)))))) | ((with_reducible apply F.append3); (iterate 8 exact rfl); (focus (refine Eq.trans (append_sl hb0 (by decide) hsb (by simp only [List.length_nil]; omega) (by decide)) ?_; simp only [List.length_cons, List.length_nil, List.cons_append, List.nil_append, List.set_cons_zero, List.set_cons_succ, List.map_cons, List.map_nil, Nat.zero_add, Nat.reduceAdd, Nat.sub_zero]; rfl))) | ((with_reducible apply F.append); (iterate 8 exact rfl); (focus (refine Eq.trans (append_arr (by simp) (by decide) (fun p hp => by simp only [List.mem_singleton] at hp; subst hp; rfl) rfl (cut_all (by simp)) (Nat.zero_le _) (by simp only [List.length_cons, List.length_nil]; omega) (by decide)) ?_; simp only [List.length_cons, List.length_nil, List.cons_append, List.nil_append, List.set_cons_zero, List.set_cons_succ, List.map_cons, List.map_nil, Nat.zero_add, Nat.reduceAdd, Nat.sub_zero]; rfl))) | ((with_reducible apply F.assignF); exact rfl; exact rfl; (focus (exact frz_arr (l := base ++ [.agg [.int .i64 op, .int .i64 n, .sl 3 false kids]]) rfl ((cut_all (by simp)).trans (congrArg some (by simp))))); (focus (apply Eq.trans (mark_arr rfl); simp only [List.length_cons, List.length_nil, List.cons_append, List.nil_append, List.set_cons_zero, List.set_cons_succ, List.map_cons, List.map_nil, Nat.zero_add, Nat.reduceAdd, Nat.sub_zero]; rfl))) | ((first | ((with_reducible apply F.store); (iterate 4 exact rfl)) | ((with_reducible apply F.loadS); (iterate 3 exact rfl)) | ((with_reducible apply F.load2); (iterate 3 exact rfl))); (focus (simp (disch := first | assumption | omega | (simp only [lnX]; omega)) only [LS, storeV, loadV, partV, partP, cut, over, mkAgg, allP, asP, V.cells, PC, elDiv, elMod, elDiv0, Nat.mul_mod_left, Int.toNat_zero, Int.reduceToNat, *, hl, hcode, List.length_map, List.getElem?_map, Ins.pv, List.take_nil, Nat.sub_zero] <;> rfl))) | (((with_reducible apply F.alloc); exact rfl; exact rfl); (focus (simp only [LS] <;> rfl)); (focus (simp only [LS] <;> rfl))) | ((first | ((with_reducible apply F.build); exact rfl; exact rfl; (focus (repeat' (first | exact Prs.nil | (apply Prs.cons; exact rfl))))) | ((with_reducible apply F.buildSlice); exact rfl; exact rfl; (focus (repeat' (first | exact Prs.nil | (apply Prs.cons; exact rfl)))))); (focus (simp (disch := first | assumption | omega | (simp only [lnX]; omega)) only [LS, buildV, fillV, over, buildSliceV, elemsOf, appendV, elems, arrAt, cut, roomy, mkAgg, allP, asP, V.cells, PC, Int.toNat_zero, Int.reduceToNat, *, hl, hcode, List.length_map, List.getElem?_map, Ins.pv, List.take_nil, Nat.sub_zero] <;> rfl))) | ((first | ((with_reducible apply F.indexAddr); (iterate 4 exact rfl)) | ((with_reducible apply F.len); (iterate 3 exact rfl))); (focus (simp (disch := first | assumption | omega | (simp only [lnX]; omega)) only [LS, lenV_L, idx_L, below_at, Int.toNat_zero, Int.reduceToNat, *, hl, hcode, List.length_map, List.getElem?_map, Ins.pv, List.take_nil, Nat.sub_zero] <;> rfl))) | ((first | ((with_reducible apply F.slice); (iterate 6 exact rfl)) | ((with_reducible apply F.fieldAddrS); (iterate 3 exact rfl))); (focus (simp (disch := first | assumption | omega | (simp only [lnX]; omega)) only [LS, indexAddrV, indexV, below_at, fieldV, fieldAddrV, convP, bytesOf, sliceV, bounds, bMax, bHi, bLo, upTo_at, makeFuncV, partV, partP, cut, binI, binS, binV, binP, arith, strOp_add, strOp_eql, strOp_neq, eqn, wrap64, wrap8, mkAgg, allP, asP, Option.getD_none, Int.toNat_zero, Int.reduceToNat, *, hl, hcode, List.length_map, List.getElem?_map, Ins.pv, List.take_nil, Nat.sub_zero] <;> rfl)))
          all_goals (refine hfin _ ?_)
          all_goals (simp only [node, *]; first | rfl | (cases kids with | nil => exact absurd rfl hk0 | cons => rfl) | trace_state)
  · have e : i = code.length := by omega
    subst e
    rw [List.drop_length] at hb
    simp only [bld] at hb
    subst hb
    obtain ⟨l, e⟩ := node_pv t
    have es : stP [t] = .sl 3 false [t.pv] := rfl
    rw [es, e]
    repeat' first | (with_reducible first | apply M.free | apply M.done | apply E.seqN | apply E.seqX | apply R.ret | apply R.exit) | ((with_reducible apply F.move); exact rfl; exact rfl) | ((with_reducible apply F.cmp); (iterate 4 exact rfl)) | ((with_reducible apply R.regs); exact rfl) | ((first | (with_reducible apply R.cond) | ((with_reducible apply M.guard); exact rfl)); (focus (first | (refine Eq.trans (look_of rfl) ?_; first | (simp only [dtX, *, hl, List.length_map] <;> rfl) | exact rfl) | exact look_of rfl))) | refine imp_yes rfl ?_ | exact imp_no rfl | with_reducible apply R.seq | ((with_reducible apply E.blkX); exact rfl) | ((first | ((with_reducible apply F.store); (iterate 4 exact rfl)) | ((with_reducible apply F.loadS); (iterate 3 exact rfl))); (focus (simp (disch := first | assumption | omega | (simp only [lnX]; omega)) only [LS, storeV, loadV, partV, partP, cut, over, mkAgg, allP, asP, V.cells, PC, elDiv, elMod, elDiv0, Nat.mul_mod_left, Int.toNat_zero, Int.reduceToNat, *, hl, List.length_map] <;> rfl))) | ((first | ((with_reducible apply F.indexAddr); (iterate 4 exact rfl)) | ((with_reducible apply F.len); (iterate 3 exact rfl))); (focus (simp (disch := first | assumption | omega | (simp only [lnX]; omega)) only [LS, lenV_L, idx_L, below_at, Int.toNat_zero, Int.reduceToNat, *, hl, List.length_map] <;> rfl))) | (((with_reducible apply F.indexAddr); (iterate 4 exact rfl)); (focus (simp (disch := first | assumption | omega | (simp only [lnX]; omega)) only [LS, indexAddrV, indexV, below_at, fieldV, fieldAddrV, convP, bytesOf, sliceV, bounds, bMax, bHi, bLo, upTo_at, makeFuncV, partV, partP, cut, binI, binS, binV, binP, arith, strOp_add, strOp_eql, strOp_neq, eqn, wrap64, wrap8, mkAgg, allP, asP, Option.getD_none, Int.toNat_zero, Int.reduceToNat, *, hl, List.length_map] <;> rfl))) | (((with_reducible apply E.rPc); exact rfl; exact rfl; (focus (exact look_of rfl)); exact rfl); (focus (simp (disch := first | assumption | omega | (simp only [lnX]; omega)) only [LS, storeV, loadV, partV, partP, cut, over, mkAgg, allP, asP, V.cells, PC, elDiv, elMod, elDiv0, Nat.mul_mod_left, Int.toNat_zero, Int.reduceToNat, *, hl, List.length_map] <;> rfl))) | exact rfl
noncomputable def fi12 : FnI := { body := (Tryd.f12.body).getD .skip, ntmps := 25, results := Tryd.f12.results.toList, hints := [] }
theorem cxF12 : cx.F 12 = some fi12 := by kernel_rfl
noncomputable def fi9 : FnI := { body := (Tryd.f9.body).getD .skip, ntmps := 9, results := Tryd.f9.results.toList, hints := [] }
theorem cxF9 : cx.F 9 = some fi9 := by kernel_rfl
noncomputable def fi3 : FnI := { body := (Tryd.f3.body).getD .skip, ntmps := 52, results := Tryd.f3.results.toList, hints := [(2, { live := some [0, 1, 2, 7] }), (4, { live := some [0, 1, 2, 7], trunc := some 0 })] }
theorem cxF3 : cx.F 3 = some fi3 := by kernel_rfl
theorem rshow_run (code : List Ins) (x : Pv) (hx : IsL 2 x) (hl : elemsP x = code.map Ins.pv) (y : Pv) (hy : IsL 1 y) (vars : List (List UInt8)) (hvl : elemsP y = vars.map .str) (hv : ∀ v ∈ vars, v.length ≤ 140737488355328) (args : Int) (ha : args < 9223372036854775808) :
    PV cx 12 [.p x, .p y, .p (.int .i64 args)] (.tup [.str (showF code vars args).1, .int .i64 (showF code vars args).2]) := by
  refine PV.run cxF12 rfl ?_
  simp only [args0, Nat.zero_add, Nat.reduceAdd]
  have hck := (rcheck_run code x hx hl vars.length args).fv
  generalize hr : checkF code vars.length args = r at *
  obtain ⟨k, e⟩ := r
  simp only [tup2] at hck
  by_cases he : e = 0
  rotate_left 1
  · have e1 : showF code vars args = ([], e) := by simp only [showF, hr]; rw [if_neg he]
    rw [e1]
    repeat' first | (with_reducible first | apply M.free | apply M.done | apply E.seqR | apply R.ret) | ((with_reducible first | apply F.move | apply F.assign); exact rfl; exact rfl) | ((with_reducible apply F.cmp); (iterate 4 exact rfl)) | ((with_reducible apply F.extract); (iterate 3 exact rfl)) | ((with_reducible apply R.regs); exact rfl) | ((with_reducible apply F.call0); exact rfl; exact rfl; (focus (repeat' (first | exact Evs.nil | (apply Evs.cons; exact rfl)))); exact rfl; (focus (first | exact hck))) | ((first | (with_reducible apply R.cond) | ((with_reducible apply M.guard); exact rfl)); (focus (first | (refine Eq.trans (look_of rfl) ?_; first | (simp only [dtX, *, hvl, List.length_map] <;> rfl) | exact rfl) | exact look_of rfl))) | refine imp_yes rfl ?_ | exact imp_no rfl | with_reducible apply R.seq | (((with_reducible apply F.len); (iterate 3 exact rfl)); (focus (simp (disch := first | assumption | omega | (simp only [lnX]; omega)) only [LS, lenV_L, idx_L, below_at, Int.toNat_zero, Int.reduceToNat, *, hvl, List.length_map] <;> rfl))) | (((with_reducible apply E.rP2); exact rfl; exact rfl; (focus (exact look_of rfl)); (focus (exact look_of rfl)))) | refine R.regs rfl ?_ | exact rfl
  subst he
  have hc : chk vars.length args 0 0 code = (0, 0) ∧ code.length ≤ 31 ∧ 0 ≤ args := by
    unfold checkF at hr
    split at hr
    · cases hr
    · split at hr
      · cases hr
      · exact ⟨chk_zero _ _ _ _ _ (by rw [hr]), by omega, by omega⟩
  obtain ⟨hc, h31, ha0⟩ := hc
  obtain ⟨t, hb⟩ := chk_end vars.length args code 0 [] hc
  have e1 : showF code vars args = (plainF vars t, 0) := by simp only [showF, hr, hb]; rfl
  rw [e1]
  have hinv : ∀ (l : List Ins) (k : Nat) (st : List T), chk vars.length args st.length k l = (0, 0) → (∀ t ∈ st, okT vars t) → (∀ t ∈ bld l st, okT vars t) ∧ wts (bld l st) ≤ wts st + 140737488355328 * l.length := by
    intro l
    induction l with
    | nil => intro k st _ hok; exact ⟨hok, by simp [bld]⟩
    | cons i l ih =>
      intro k st hc hok
      obtain ⟨c1, c2, c3, c4⟩ := chk_step hc
      have hp := push_ok vars args ha i st c1 c3 c2 hok
      rw [← push_len i st c1 c3] at c4
      have := ih (k + 1) (pushT i st) c4 hp.1
      refine ⟨this.1, ?_⟩
      have h2 := this.2
      simp only [bld, List.length_cons]
      omega
  have hi := hinv code 0 [] hc (by simp)
  rw [hb] at hi
  have hokt := hi.1 t (by simp)
  have hwt : wt t ≤ 4362862139015168 := by
    have := hi.2
    simp [wts] at this
    omega
  have ht := (tree_run code x hx hl vars.length args hc h31 t hb).fv
  have hp := (plain_run hy hvl hv t hokt (by omega)).fv
  clear hr e1 hinv hi hc
  repeat' first | (with_reducible first | apply M.free | apply M.done | apply E.seqN | apply R.skip | apply R.ret) | ((with_reducible first | apply F.move | apply F.assign); exact rfl; exact rfl) | ((with_reducible apply F.cmp); (iterate 4 exact rfl)) | ((with_reducible apply F.extract); (iterate 3 exact rfl)) | ((with_reducible apply R.regs); exact rfl) | ((with_reducible apply F.call0); exact rfl; exact rfl; (focus (repeat' (first | exact Evs.nil | (apply Evs.cons; exact rfl)))); exact rfl; (focus (first | exact hck | exact ht | exact hp))) | ((first | (with_reducible apply R.cond) | ((with_reducible apply M.guard); exact rfl)); (focus (first | (refine Eq.trans (look_of rfl) ?_; first | (simp only [dtX, *, hvl, List.length_map] <;> rfl) | exact rfl) | exact look_of rfl))) | refine imp_yes rfl ?_ | exact imp_no rfl | with_reducible apply R.seq | (((with_reducible apply F.len); (iterate 3 exact rfl)); (focus (simp (disch := first | assumption | omega | (simp only [lnX]; omega)) only [LS, lenV_L, idx_L, below_at, Int.toNat_zero, Int.reduceToNat, *, hvl, List.length_map] <;> rfl))) | (((with_reducible apply E.rP2); exact rfl; exact rfl; (focus (exact look_of rfl)); (focus (exact look_of rfl)))) | refine R.regs rfl ?_ | exact rfl
theorem few_run (x : Pv) (hx : IsL 1 x) : ∃ y, IsL 1 y ∧ elemsP y = (elemsP x).take 20 ∧ PV cx 9 [.p x] y := by
  by_cases h : (elemsP x).length ≤ 20
  · refine ⟨x, hx, (List.take_of_length_le h).symm, ?_⟩
    refine PV.run cxF9 rfl ?_
    simp only [args0, Nat.zero_add, Nat.reduceAdd]
    repeat' first | (with_reducible first | apply M.free | apply M.done | apply E.seqN | apply R.skip | apply R.ret) | ((with_reducible first | apply F.move | apply F.assign); exact rfl; exact rfl) | ((with_reducible apply F.cmp); (iterate 4 exact rfl)) | ((with_reducible apply R.regs); exact rfl) | ((first | (with_reducible apply R.cond) | ((with_reducible apply M.guard); exact rfl)); (focus (first | (refine Eq.trans (look_of rfl) ?_; first | (simp only [dtX, *] <;> rfl) | exact rfl) | exact look_of rfl))) | with_reducible apply R.seq | (((with_reducible apply F.len); (iterate 3 exact rfl)); (focus (simp (disch := first | assumption | omega | (simp only [lnX]; omega)) only [LS, lenV_L, idx_L, below_at, Int.toNat_zero, Int.reduceToNat, *] <;> rfl))) | (intro hc; (try rw [hc]); (try simp only [decide_eq_true_eq, decide_eq_false_iff_not, Bool.not_eq_eq_eq_not, Bool.not_true, Bool.not_false] at hc); (try (exfalso; omega))) | (((with_reducible apply E.rP1); exact rfl; exact rfl; (focus (exact look_of rfl)))) | refine R.regs rfl ?_ | exact rfl
  · rcases hx with rfl | ⟨ex, l, rfl⟩
    · simp [elemsP] at h
    · simp only [elemsP] at h ⊢
      have hb : Nat.beq 20 l.length = false := by
        cases hb : Nat.beq 20 l.length with
        | false => rfl
        | true => have := Nat.eq_of_beq_eq_true hb; omega
      refine ⟨.sl 1 false (l.take 20), isL_sl, rfl, ?_⟩
      refine PV.run cxF9 rfl ?_
      simp only [args0, Nat.zero_add, Nat.reduceAdd]
      repeat' first | (with_reducible first | apply M.free | apply M.done | apply E.seqR | apply R.ret) | ((with_reducible first | apply F.move | apply F.assign); exact rfl; exact rfl) | ((with_reducible first | apply F.cmp | apply F.len); (iterate 4 exact rfl)) | ((with_reducible apply R.regs); exact rfl) | ((first | (with_reducible apply R.cond) | ((with_reducible apply M.guard); exact rfl)); (focus (first | (refine Eq.trans (look_of rfl) ?_; first | (simp only [dtX, *, hb, Nat.sub_zero] <;> rfl) | exact rfl) | exact look_of rfl))) | with_reducible apply R.seq | (((with_reducible apply F.slice); (iterate 6 exact rfl)); (focus (simp (disch := first | assumption | omega | (simp only [lnX]; omega)) only [LS, indexAddrV, indexV, below_at, fieldV, fieldAddrV, convP, bytesOf, sliceV, bounds, bMax, bHi, bLo, upTo_at, makeFuncV, partV, partP, cut, binI, binS, binV, binP, arith, strOp_add, strOp_eql, strOp_neq, eqn, wrap64, wrap8, mkAgg, allP, asP, Option.getD_none, Int.toNat_zero, Int.reduceToNat, *, hb, Nat.sub_zero] <;> rfl))) | (intro hc; (try rw [hc]); (try simp only [decide_eq_true_eq, decide_eq_false_iff_not, Bool.not_eq_eq_eq_not, Bool.not_true, Bool.not_false] at hc); (try (exfalso; omega))) | (((with_reducible apply E.rP1); exact rfl; exact rfl; (focus (exact look_of rfl)))) | refine R.regs rfl ?_ | exact rfl
noncomputable def fi38 : FnI := { body := (Tryd.f38.body).getD .skip, ntmps := 56, results := Tryd.f38.results.toList, hints := [(0, { ops := [(0, 2), (1, 2)] }), (4, { live := some [2, 3, 7, 22, 23, 24] }), (11, { live := some [2, 3, 7, 22, 23, 24], trunc := some 0 })] }
theorem cxF38 : cx.F 38 = some fi38 := by kernel_rfl
noncomputable def fi44 : FnI := { body := (Tryd.f44.body).getD .skip, ntmps := 18, results := Tryd.f44.results.toList, hints := [(0, { ops := [(0, 2)] })] }
theorem cxF44 : cx.F 44 = some fi44 := by kernel_rfl
def exprT (t : Tb) (args : Int) (code : List Ins) : List UInt8 := (showF code t.vars args).1
def setT (t : Tb) (args : Int) (x : Sx) : List UInt8 := 32 :: (t.vars.getD x.var.toNat [] ++ ([32, 58, 61, 32] ++ exprT t args x.value))
def joinS {α : Type} (f : α → List UInt8) : List α → List UInt8
  | [] => []
  | x :: l => f x ++ (l.map fun y => 59 :: f y).flatten
theorem join_step {α : Type} (f : α → List UInt8) {l : List α} {i : Nat} {x : α} (h : l[i]? = some x) : joinS f (l.take (i + 1)) = joinS f (l.take i) ++ ((if i = 0 then [] else [59]) ++ f x) := by
  cases l with
  | nil => simp at h
  | cons a l =>
    cases i with
    | zero => simp at h; subst h; simp [joinS]
    | succ i =>
      simp only [List.getElem?_cons_succ] at h
      rw [List.take_succ_cons, List.take_succ_cons]
      simp [joinS, List.take_add_one, h]
theorem join_len {α : Type} (f : α → List UInt8) (B : Nat) : ∀ (l : List α), (∀ x ∈ l, (f x).length ≤ B) → (joinS f l).length ≤ l.length * (B + 1)
  | [], _ => by simp [joinS]
  | x :: l, h => by
    have h1 := h x (by simp)
    have h2 : ∀ (l : List α), (∀ y ∈ l, (f y).length ≤ B) → ((l.map fun y => 59 :: f y).flatten).length ≤ l.length * (B + 1) := by
      intro l
      induction l with
      | nil => intro _; simp
      | cons y l ih =>
        intro h
        have := h y (by simp)
        have := ih (fun z hz => h z (by simp [hz]))
        simp only [List.map_cons, List.flatten_cons, List.length_append, List.length_cons, Nat.add_mul] at *
        omega
    have := h2 l (fun y hy => h y (by simp [hy]))
    simp only [joinS, List.length_append, List.length_cons, Nat.add_mul] at *
    omega
theorem join_take {α : Type} (f : α → List UInt8) (l : List α) (i : Nat) : (joinS f (l.take i)).length ≤ (joinS f l).length := by
  have h : ∀ (l : List α) (i : Nat), ((l.take i).map fun y => 59 :: f y).flatten.length ≤ ((l.map fun y => 59 :: f y).flatten).length := by
    intro l i
    have : (l.map fun y => 59 :: f y).flatten = ((l.take i).map fun y => 59 :: f y).flatten ++ ((l.drop i).map fun y => 59 :: f y).flatten := by
      rw [← List.flatten_append, ← List.map_append, List.take_append_drop]
    rw [this, List.length_append]
    omega
  cases l with
  | nil => simp
  | cons a l =>
    cases i with
    | zero => simp [joinS]
    | succ i =>
      have := h l i
      simp only [List.take_succ_cons, joinS, List.length_append]
      omega
def toT (t : Tb) (s : Stp) : List UInt8 := if 0 ≤ s.to then t.states.getD s.to.toNat [] else [45]
def stepT (t : Tb) (args : Int) (s : Stp) : List UInt8 := toT t s ++ joinS (setT t args) s.sets
theorem name_at {l : List (List UInt8)} (h : Named l) (i : Nat) : (l.getD i []).length ≤ 24 := by
  rw [List.getD_eq_getElem?_getD]
  cases hi : l[i]? with
  | none => simp
  | some s => exact rname_big s (h i s hi).1
theorem expr_len {t : Tb} (hn : Named t.vars) {args : Int} (ha : args ≤ 10) {code : List Ins} (h : (checkF code t.vars.length args).2 = 0) : (exprT t args code).length ≤ 744 := by
  have hs : (showF code t.vars args).2 = 0 := by unfold showF; rw [if_pos h]
  obtain ⟨tr, hok, hcode, h31, hsh⟩ := show_tree hs
  have := plain_short hn ha tr hok
  unfold exprT
  rw [hsh]
  rw [hcode] at this
  omega
theorem sets_len {t : Tb} {args : Int} {s : Stp} (h : StpOK t args s) (v6 : t.vars.length ≤ 6) : s.sets.length ≤ 6 := by
  have h1 : ((s.sets.map (·.var)).map Int.toNat).Nodup := by
    have hd := h.dist
    rw [List.Nodup, List.pairwise_map]
    refine List.Pairwise.imp_of_mem ?_ hd
    intro a b ha hb hab e
    obtain ⟨x, hx, rfl⟩ := List.mem_map.1 ha
    obtain ⟨y, hy, rfl⟩ := List.mem_map.1 hb
    have := h.var x hx
    have := h.var y hy
    exact hab (by omega)
  have h2 := nodup_lt 6 _ h1 (by
    intro x hx
    obtain ⟨y, hy, rfl⟩ := List.mem_map.1 hx
    obtain ⟨z, hz, rfl⟩ := List.mem_map.1 hy
    have := h.var z hz
    omega)
  simpa using h2
theorem step_len {t : Tb} (T : TbOK t) {args : Int} (ha : args ≤ 10) {s : Stp} (h : StpOK t args s) : (stepT t args s).length ≤ 5000 := by
  have h1 : (toT t s).length ≤ 24 := by
    unfold toT
    split
    · exact name_at T.sn _
    · simp
  have h2 := join_len (setT t args) 773 s.sets (by
    intro x hx
    have := name_at T.vn x.var.toNat
    have := expr_len T.vn ha (h.val x hx)
    simp only [setT, List.length_cons, List.length_append, List.length_nil]
    omega)
  have h3 := sets_len h T.v6
  have h4 : s.sets.length * (773 + 1) ≤ 6 * (773 + 1) := Nat.mul_le_mul_right _ h3
  simp only [stepT, List.length_append]
  omega
theorem names_le {l : List (List UInt8)} (h : Named l) : ∀ v ∈ l, v.length ≤ 140737488355328 := by
  intro v hv
  obtain ⟨i, hi⟩ := List.mem_iff_getElem?.1 hv
  have := rname_big v (h i v hi).1
  omega
theorem text_run (t : Tb) (T : TbOK t) (s v a q x : Pv) (hv1 : IsL 1 v) (hv2 : elemsP v = t.vars.map .str) (code : List Ins) (hx : IsL 2 x) (hl : elemsP x = code.map Ins.pv) (args : Int) (ha : args ≤ 10) : PV cx 44 [.p x, .p (.agg [s, v, a, q]), .p (.int .i64 args)] (.str (exprT t args code)) := by
  refine PV.run cxF44 rfl ?_
  simp only [args0, Nat.zero_add, Nat.reduceAdd]
  have hsh := (rshow_run code x hx hl v hv1 t.vars hv2 (names_le T.vn) args (by omega)).fv
  unfold exprT
  generalize showF code t.vars args = r at *
  obtain ⟨r1, r2⟩ := r
  clear hv2 hl
  repeat' first | (with_reducible first | apply M.free | apply M.done | apply R.ret) | ((with_reducible first | apply F.move | apply F.assign); exact rfl; exact rfl) | ((with_reducible first | apply F.load | apply F.extract); (iterate 3 exact rfl)) | ((with_reducible apply R.regs); exact rfl) | ((with_reducible apply F.call0); exact rfl; exact rfl; (focus (repeat' (first | exact Evs.nil | (apply Evs.cons; exact rfl)))); exact rfl; (focus (first | exact hsh))) | (((with_reducible apply F.boxE); (iterate 3 exact rfl)); (focus (simp (disch := first | assumption | omega | (simp only [lnX]; omega)) only [LS, storeV, loadV, partV, partP, cut, over, mkAgg, allP, asP, V.cells, PC, elDiv, elMod, elDiv0, Nat.mul_mod_left, Int.toNat_zero, Int.reduceToNat, *] <;> rfl)); exact rfl; (focus (simp only [evOf, allP, asP] <;> rfl))) | (((with_reducible apply F.fieldAddrS); (iterate 3 exact rfl)); (focus (simp (disch := first | assumption | omega | (simp only [lnX]; omega)) only [LS, indexAddrV, indexV, below_at, fieldV, fieldAddrV, convP, bytesOf, sliceV, bounds, bMax, bHi, bLo, upTo_at, makeFuncV, partV, partP, cut, binI, binS, binV, binP, arith, strOp_add, strOp_eql, strOp_neq, eqn, wrap64, wrap8, mkAgg, allP, asP, Option.getD_none, Int.toNat_zero, Int.reduceToNat, *] <;> rfl))) | (((with_reducible apply E.rP1); exact rfl; exact rfl; (focus (exact look_of rfl)))) | refine R.regs rfl ?_ | exact rfl
theorem step_round (t : Tb) (T : TbOK t) (s v a q x : Pv) (P : TbP s v a q t) (l : List Sx) (hx : IsL 2 x) (hl : L2 SxR (elemsP x) l) (args : Int) (ha : args ≤ 10) (h6 : l.length ≤ 6) (hvar : ∀ z ∈ l, 0 ≤ z.var ∧ z.var < t.vars.length) (out0 : List UInt8) (hB : (out0 ++ joinS (setT t args) l).length ≤ 6000) (Q : Qt) (i : Nat) (hi : i < l.length)
    (hQ : ∀ e H, e = [(2,.p (.int .i64 args)),(3,.p (.ep [s, v, a, q])),(7,.p (.str (out0 ++ joinS (setT t args) (l.take (i + 1))))),(22,.p x),(23,.p (.int .i64 l.length)),(24,.p (.int .i64 ((i : Int) + 1)))] → H = [] → Q .norm e H) :
    R cx fi38 0 (match fi38.body with | .seq _ (.seq _ (.seq _ (.seq (.seq _ (.block _ (.loop b))) _))) => b | c => c) [(2,.p (.int .i64 args)),(3,.p (.ep [s, v, a, q])),(7,.p (.str (out0 ++ joinS (setT t args) (l.take i)))),(22,.p x),(23,.p (.int .i64 l.length)),(24,.p (.int .i64 i))] [] Q := by
  have cxq := cxF38
  obtain ⟨s1, s2, v1, v2, a1, a2, q1, q2⟩ := P
  have hlen := hl.1
  have hlv : (elemsP v).length = t.vars.length := by rw [v2, List.length_map]
  obtain ⟨z, hz⟩ := at_some hi
  obtain ⟨y, hy, u, rfl, hu1, hu2⟩ := hl.at hz
  have hjs := join_step (setT t args) hz
  have hjt := join_take (setT t args) l (i + 1)
  have hsh := (show_run z.value u hu1 hu2 v v1 t.vars v2 (names_le T.vn) args (by omega)).fv
  have hvz := hvar z (List.mem_of_getElem? hz)
  obtain ⟨zv, zval⟩ := z
  simp only at hvz hy hsh hu2
  obtain ⟨k, rfl⟩ := Int.eq_ofNat_of_zero_le hvz.1
  obtain ⟨w, hw⟩ := at_some (show k < t.vars.length by omega)
  have hst : setT t args ⟨k, zval⟩ = 32 :: (w ++ ([32, 58, 61, 32] ++ (showF zval t.vars args).1)) := by
    simp only [setT, exprT, Int.toNat_natCast]
    rw [List.getD_eq_getElem?_getD, hw]
    rfl
  rw [hst] at hjs
  rw [hjs] at hjt
  rw [hjs] at hQ
  simp only [List.length_append] at hB
  simp only [List.length_append, List.length_cons, List.length_nil] at hjt
  generalize joinS (setT t args) (l.take i) = J at *
  generalize (joinS (setT t args) l).length = JL at *
  generalize showF zval t.vars args = r at *
  obtain ⟨r1, r2⟩ := r
  simp only at hQ hjt hsh
  clear hl hu2 s2 a2 q2 hvar hst hjs
  by_cases hi0 : i = 0
  · subst hi0
    simp only [if_true, List.nil_append] at hQ
    repeat' first | (with_reducible first | apply M.free | apply M.done | apply E.seqN | apply E.blkN | apply R.skip) | ((with_reducible first | apply F.move | apply F.assign); exact rfl; exact rfl) | ((with_reducible first | apply F.load | apply F.fieldAddr | apply F.extract); (iterate 3 exact rfl)) | ((with_reducible apply F.cmp); (iterate 4 exact rfl)) | ((first | ((with_reducible apply F.add); (iterate 3 exact rfl)) | ((with_reducible apply F.adds); (iterate 3 exact rfl))); (focus (first | omega | (simp only [lnX]; omega)))) | ((with_reducible apply R.regs); exact rfl) | ((with_reducible apply Cut.of); (focus (repeat' (first | exact Kp.nil | (apply Kp.cons; exact rfl)))); (focus ((try simp only [List.take_succ_cons, List.take_zero, List.take_nil, Nat.zero_add, Nat.reduceAdd]) <;> rfl)); (focus (first | exact rfl | (simp [cutOk, lowOb, lowV, lowCell, lowCell1, low_map]; done)))) | ((with_reducible apply F.call0); exact rfl; exact rfl; (focus (repeat' (first | exact Evs.nil | (apply Evs.cons; exact rfl)))); exact rfl; (focus (first | exact hsh))) | ((first | (with_reducible apply R.cond) | ((with_reducible apply M.guard); exact rfl)); (focus (first | (refine Eq.trans (look_of rfl) ?_; first | (simp only [dtX, *, hlen, hy, v2, hw, List.length_map, List.getElem?_map] <;> rfl) | exact rfl) | exact look_of rfl))) | refine imp_yes rfl ?_ | exact imp_no rfl | with_reducible apply R.seq | ((with_reducible apply R.region); exact rfl) | ((with_reducible apply R.regionT); exact rfl) | with_reducible apply R.block | ((first | ((with_reducible apply F.store); (iterate 4 exact rfl)) | ((with_reducible apply F.loadS); (iterate 3 exact rfl))); (focus (simp (disch := first | assumption | omega | (simp only [lnX]; omega)) only [LS, storeV, loadV, partV, partP, cut, over, mkAgg, allP, asP, V.cells, PC, elDiv, elMod, elDiv0, Nat.mul_mod_left, Int.toNat_zero, Int.reduceToNat, *, hlen, hy, v2, hw, List.length_map, List.getElem?_map] <;> rfl))) | (((with_reducible apply F.alloc); exact rfl; exact rfl); (focus (simp only [LS] <;> rfl)); (focus (simp only [LS] <;> rfl))) | (((with_reducible apply F.indexAddr); (iterate 4 exact rfl)); (focus (simp (disch := first | assumption | omega | (simp only [lnX]; omega)) only [LS, lenV_L, idx_L, below_at, Int.toNat_zero, Int.reduceToNat, *, hlen, hy, v2, hw, List.length_map, List.getElem?_map] <;> rfl))) | (((with_reducible apply F.fieldAddrS); (iterate 3 exact rfl)); (focus (simp (disch := first | assumption | omega | (simp only [lnX]; omega)) only [LS, indexAddrV, indexV, below_at, fieldV, fieldAddrV, convP, bytesOf, sliceV, bounds, bMax, bHi, bLo, upTo_at, makeFuncV, partV, partP, cut, binI, binS, binV, binP, arith, strOp_add, strOp_eql, strOp_neq, eqn, wrap64, wrap8, mkAgg, allP, asP, Option.getD_none, Int.toNat_zero, Int.reduceToNat, *, hlen, hy, v2, hw, List.length_map, List.getElem?_map] <;> rfl))) | (intro hc; (try rw [hc]); (try simp only [decide_eq_true_eq, decide_eq_false_iff_not, Bool.not_eq_eq_eq_not, Bool.not_true, Bool.not_false] at hc); (try (exfalso; omega))) | refine R.regs rfl ?_
    all_goals (refine ⟨hQ _ _ ?_ rfl⟩; simp)
  · rw [if_neg hi0] at hQ
    rw [if_neg hi0] at hjt
    simp only [List.length_cons, List.length_nil] at hjt
    repeat' first | (with_reducible first | apply M.free | apply M.done | apply E.seqN | apply E.blkN | apply R.skip) | ((with_reducible first | apply F.move | apply F.assign); exact rfl; exact rfl) | ((with_reducible first | apply F.load | apply F.fieldAddr | apply F.extract); (iterate 3 exact rfl)) | ((with_reducible apply F.cmp); (iterate 4 exact rfl)) | ((first | ((with_reducible apply F.add); (iterate 3 exact rfl)) | ((with_reducible apply F.adds); (iterate 3 exact rfl))); (focus (first | omega | (simp only [lnX]; omega)))) | ((with_reducible apply R.regs); exact rfl) | ((with_reducible apply Cut.of); (focus (repeat' (first | exact Kp.nil | (apply Kp.cons; exact rfl)))); (focus ((try simp only [List.take_succ_cons, List.take_zero, List.take_nil, Nat.zero_add, Nat.reduceAdd]) <;> rfl)); (focus (first | exact rfl | (simp [cutOk, lowOb, lowV, lowCell, lowCell1, low_map]; done)))) | ((with_reducible apply F.call0); exact rfl; exact rfl; (focus (repeat' (first | exact Evs.nil | (apply Evs.cons; exact rfl)))); exact rfl; (focus (first | exact hsh))) | ((first | (with_reducible apply R.cond) | ((with_reducible apply M.guard); exact rfl)); (focus (first | (refine Eq.trans (look_of rfl) ?_; first | (simp only [dtX, *, hlen, hy, v2, hw, List.length_map, List.getElem?_map] <;> rfl) | exact rfl) | exact look_of rfl))) | with_reducible apply R.seq | ((with_reducible apply R.region); exact rfl) | ((with_reducible apply R.regionT); exact rfl) | with_reducible apply R.block | ((first | ((with_reducible apply F.store); (iterate 4 exact rfl)) | ((with_reducible apply F.loadS); (iterate 3 exact rfl))); (focus (simp (disch := first | assumption | omega | (simp only [lnX]; omega)) only [LS, storeV, loadV, partV, partP, cut, over, mkAgg, allP, asP, V.cells, PC, elDiv, elMod, elDiv0, Nat.mul_mod_left, Int.toNat_zero, Int.reduceToNat, *, hlen, hy, v2, hw, List.length_map, List.getElem?_map] <;> rfl))) | (((with_reducible apply F.alloc); exact rfl; exact rfl); (focus (simp only [LS] <;> rfl)); (focus (simp only [LS] <;> rfl))) | (((with_reducible apply F.indexAddr); (iterate 4 exact rfl)); (focus (simp (disch := first | assumption | omega | (simp only [lnX]; omega)) only [LS, lenV_L, idx_L, below_at, Int.toNat_zero, Int.reduceToNat, *, hlen, hy, v2, hw, List.length_map, List.getElem?_map] <;> rfl))) | (((with_reducible apply F.fieldAddrS); (iterate 3 exact rfl)); (focus (simp (disch := first | assumption | omega | (simp only [lnX]; omega)) only [LS, indexAddrV, indexV, below_at, fieldV, fieldAddrV, convP, bytesOf, sliceV, bounds, bMax, bHi, bLo, upTo_at, makeFuncV, partV, partP, cut, binI, binS, binV, binP, arith, strOp_add, strOp_eql, strOp_neq, eqn, wrap64, wrap8, mkAgg, allP, asP, Option.getD_none, Int.toNat_zero, Int.reduceToNat, *, hlen, hy, v2, hw, List.length_map, List.getElem?_map] <;> rfl))) | (intro hc; (try rw [hc]); (try simp only [decide_eq_true_eq, decide_eq_false_iff_not, Bool.not_eq_eq_eq_not, Bool.not_true, Bool.not_false] at hc); (try (exfalso; omega))) | refine R.regs rfl ?_
    all_goals (refine ⟨hQ _ _ ?_ rfl⟩; simp)
theorem step_loop (t : Tb) (T : TbOK t) (s v a q x : Pv) (P : TbP s v a q t) (l : List Sx) (hx : IsL 2 x) (hl : L2 SxR (elemsP x) l) (args : Int) (ha : args ≤ 10) (h6 : l.length ≤ 6) (hvar : ∀ z ∈ l, 0 ≤ z.var ∧ z.var < t.vars.length) (out0 : List UInt8) (hB : (out0 ++ joinS (setT t args) l).length ≤ 6000) (Q : Qt)
    (hQ : ∀ e H, e = [(25,.p (.bool false)),(2,.p (.int .i64 args)),(3,.p (.ep [s, v, a, q])),(7,.p (.str (out0 ++ joinS (setT t args) l))),(22,.p x),(23,.p (.int .i64 l.length)),(24,.p (.int .i64 l.length))] → H = [] → E Q (.exit 0) e H) :
    R cx fi38 0 (match fi38.body with | .seq _ (.seq _ (.seq _ (.seq (.seq _ (.block _ b)) _))) => b | c => c) [(2,.p (.int .i64 args)),(3,.p (.ep [s, v, a, q])),(7,.p (.str out0)),(22,.p x),(23,.p (.int .i64 l.length)),(24,.p (.int .i64 0))] [] Q := by
  have cxq := cxF38
  refine R.loop (fun m e H => ∃ i : Nat, e = [(2,.p (.int .i64 args)),(3,.p (.ep [s, v, a, q])),(7,.p (.str (out0 ++ joinS (setT t args) (l.take i)))),(22,.p x),(23,.p (.int .i64 l.length)),(24,.p (.int .i64 i))] ∧ H = [] ∧ i ≤ l.length ∧ m = l.length - i) l.length ⟨0, by simp [joinS], rfl, by omega, by omega⟩ ?_
  rintro m e H ⟨i, rfl, rfl, h1, rfl⟩
  by_cases hi : i = l.length
  · subst hi
    rw [List.take_length]
    clear hvar hB h1 hl
    obtain ⟨s1, s2, v1, v2, a1, a2, q1, q2⟩ := P
    have hq := hQ _ _ rfl rfl
    clear hQ T
    generalize out0 ++ joinS (setT t args) l = o at *
    have hE : E (seqQ (fun e H => ∃ k, k < l.length - l.length ∧ ∃ i : Nat, e = [(2,.p (.int .i64 args)),(3,.p (.ep [s, v, a, q])),(7,.p (.str (out0 ++ joinS (setT t args) (l.take i)))),(22,.p x),(23,.p (.int .i64 l.length)),(24,.p (.int .i64 i))] ∧ H = [] ∧ i ≤ l.length ∧ k = l.length - i) Q) (.exit 0) _ _ := ⟨hq.out⟩
    generalize (seqQ (fun e H => ∃ k, k < l.length - l.length ∧ ∃ i : Nat, e = [(2,.p (.int .i64 args)),(3,.p (.ep [s, v, a, q])),(7,.p (.str (out0 ++ joinS (setT t args) (l.take i)))),(22,.p x),(23,.p (.int .i64 l.length)),(24,.p (.int .i64 i))] ∧ H = [] ∧ i ≤ l.length ∧ k = l.length - i) Q) = QQ at *
    clear h6 hq s2 v2 a2 q2
    repeat' first | (with_reducible first | apply M.free | apply M.done | apply E.seqX | apply R.exit) | ((with_reducible apply F.cmp); (iterate 4 exact rfl)) | ((with_reducible apply R.regs); exact rfl) | ((first | (with_reducible apply R.cond) | ((with_reducible apply M.guard); exact rfl)); (focus (first | (refine Eq.trans (look_of rfl) ?_; first | (simp only [dtX, *] <;> rfl) | exact rfl) | exact look_of rfl))) | with_reducible apply R.seq | (intro hc; (try rw [hc]); (try simp only [decide_eq_true_eq, decide_eq_false_iff_not, Bool.not_eq_eq_eq_not, Bool.not_true, Bool.not_false] at hc); (try (exfalso; omega)))
    all_goals exact hE
  · refine step_round t T s v a q x P l hx hl args ha h6 hvar out0 hB _ i (by omega) ?_
    rintro e H rfl rfl
    exact ⟨l.length - (i + 1), by omega, i + 1, rfl, rfl, by omega, rfl⟩
theorem step_run' (t : Tb) (T : TbOK t) (s v a q : Pv) (P : TbP s v a q t) (x : Pv) (st : Stp) (hx : StpR x st) (args : Int) (ha : args ≤ 10) (h : StpOK t args st) : PV cx 38 [.p (.agg [s, v, a, q]), .p x, .p (.int .i64 args)] (.str (stepT t args st)) := by
  obtain ⟨y, rfl, hy, hl⟩ := hx
  obtain ⟨sets, to⟩ := st
  have hB := step_len T ha h
  have h6 := sets_len h T.v6
  have hvar : ∀ z ∈ sets, 0 ≤ z.var ∧ z.var < t.vars.length := fun z hz => h.var z hz
  have hto : to < t.states.length := h.to
  simp only at h6 hl hB
  have hll := hl.1
  have key := fun o hB Q hQ => step_loop t T s v a q y P sets hy hl args ha h6 hvar o hB Q hQ
  have P2 := P.s2
  have s1 := P.s1
  refine PV.run cxF38 rfl ?_
  simp only [args0, Nat.zero_add, Nat.reduceAdd]
  by_cases h0 : 0 ≤ to
  · obtain ⟨k, rfl⟩ := Int.eq_ofNat_of_zero_le h0
    obtain ⟨w, hw⟩ := at_some (show k < t.states.length by omega)
    have hk : stepT t args ⟨sets, k⟩ = w ++ joinS (setT t args) sets := by
      simp only [stepT, toT]; rw [if_pos h0, Int.toNat_natCast, List.getD_eq_getElem?_getD, hw]; rfl
    rw [hk] at hB ⊢
    have key := key w (by omega)
    clear hl hvar h hk P T hB
    generalize joinS (setT t args) sets = J at *
    
    repeat' first | (with_reducible first | apply M.free | apply M.done | apply E.seqN) | ((with_reducible first | apply F.move | apply F.assign); exact rfl; exact rfl) | ((with_reducible apply F.load); (iterate 3 exact rfl)) | ((with_reducible apply F.cmp); (iterate 4 exact rfl)) | ((with_reducible apply R.regs); exact rfl) | ((with_reducible apply R.regsL); exact rfl) | ((with_reducible apply Lv.of); (focus (repeat' (first | exact Kp.nil | (apply Kp.cons; exact rfl))))) | ((first | (with_reducible apply R.cond) | ((with_reducible apply M.guard); exact rfl)); (focus (first | (refine Eq.trans (look_of rfl) ?_; first | (simp only [dtX, *, P2, hw, List.length_map, List.getElem?_map, hll] <;> rfl) | exact rfl) | exact look_of rfl))) | refine imp_yes rfl ?_ | exact imp_no rfl | with_reducible apply R.seq | ((with_reducible apply R.region); exact rfl) | with_reducible apply R.block | (((with_reducible apply F.boxE); (iterate 3 exact rfl)); (focus (simp (disch := first | assumption | omega | (simp only [lnX]; omega)) only [LS, storeV, loadV, partV, partP, cut, over, mkAgg, allP, asP, V.cells, PC, elDiv, elMod, elDiv0, Nat.mul_mod_left, Int.toNat_zero, Int.reduceToNat, *, P2, hw, List.length_map, List.getElem?_map, hll] <;> rfl)); exact rfl; (focus (simp only [evOf, allP, asP] <;> rfl))) | ((first | ((with_reducible apply F.indexAddr); (iterate 4 exact rfl)) | ((with_reducible apply F.len); (iterate 3 exact rfl))); (focus (simp (disch := first | assumption | omega | (simp only [lnX]; omega)) only [LS, lenV_L, idx_L, below_at, Int.toNat_zero, Int.reduceToNat, *, P2, hw, List.length_map, List.getElem?_map, hll] <;> rfl))) | (((with_reducible apply F.fieldAddrS); (iterate 3 exact rfl)); (focus (simp (disch := first | assumption | omega | (simp only [lnX]; omega)) only [LS, indexAddrV, indexV, below_at, fieldV, fieldAddrV, convP, bytesOf, sliceV, bounds, bMax, bHi, bLo, upTo_at, makeFuncV, partV, partP, cut, binI, binS, binV, binP, arith, strOp_add, strOp_eql, strOp_neq, eqn, wrap64, wrap8, mkAgg, allP, asP, Option.getD_none, Int.toNat_zero, Int.reduceToNat, *, P2, hw, List.length_map, List.getElem?_map, hll] <;> rfl))) | refine R.regs rfl ?_
    refine key _ ?_
    rintro e H rfl rfl
    repeat' first | (with_reducible first | apply M.free | apply M.done | apply E.seqN | apply R.ret) | ((with_reducible first | apply F.move | apply F.assign); exact rfl; exact rfl) | ((with_reducible apply R.regs); exact rfl) | ((with_reducible apply E.blkX); exact rfl) | (((with_reducible apply E.rP1); exact rfl; exact rfl; (focus (exact look_of rfl)))) | exact rfl
  · have hk : stepT t args ⟨sets, to⟩ = [45] ++ joinS (setT t args) sets := by
      simp only [stepT, toT]; rw [if_neg h0]
    rw [hk] at hB ⊢
    have key := key [45] (by omega)
    clear hl hvar h hk P T hB
    generalize joinS (setT t args) sets = J at *
    repeat' first | (with_reducible first | apply M.free | apply M.done | apply E.seqN | apply R.skip) | ((with_reducible first | apply F.move | apply F.assign); exact rfl; exact rfl) | ((with_reducible apply F.load); (iterate 3 exact rfl)) | ((with_reducible apply F.cmp); (iterate 4 exact rfl)) | ((with_reducible apply R.regs); exact rfl) | ((with_reducible apply R.regsL); exact rfl) | ((with_reducible apply Lv.of); (focus (repeat' (first | exact Kp.nil | (apply Kp.cons; exact rfl))))) | ((first | (with_reducible apply R.cond) | ((with_reducible apply M.guard); exact rfl)); (focus (first | (refine Eq.trans (look_of rfl) ?_; first | (simp only [dtX, *, P2, List.length_map, hll] <;> rfl) | exact rfl) | exact look_of rfl))) | refine imp_yes rfl ?_ | exact imp_no rfl | with_reducible apply R.seq | with_reducible apply R.block | (((with_reducible apply F.boxE); (iterate 3 exact rfl)); (focus (simp (disch := first | assumption | omega | (simp only [lnX]; omega)) only [LS, storeV, loadV, partV, partP, cut, over, mkAgg, allP, asP, V.cells, PC, elDiv, elMod, elDiv0, Nat.mul_mod_left, Int.toNat_zero, Int.reduceToNat, *, P2, List.length_map, hll] <;> rfl)); exact rfl; (focus (simp only [evOf, allP, asP] <;> rfl))) | (((with_reducible apply F.len); (iterate 3 exact rfl)); (focus (simp (disch := first | assumption | omega | (simp only [lnX]; omega)) only [LS, lenV_L, idx_L, below_at, Int.toNat_zero, Int.reduceToNat, *, P2, List.length_map, hll] <;> rfl))) | (((with_reducible apply F.fieldAddrS); (iterate 3 exact rfl)); (focus (simp (disch := first | assumption | omega | (simp only [lnX]; omega)) only [LS, indexAddrV, indexV, below_at, fieldV, fieldAddrV, convP, bytesOf, sliceV, bounds, bMax, bHi, bLo, upTo_at, makeFuncV, partV, partP, cut, binI, binS, binV, binP, arith, strOp_add, strOp_eql, strOp_neq, eqn, wrap64, wrap8, mkAgg, allP, asP, Option.getD_none, Int.toNat_zero, Int.reduceToNat, *, P2, List.length_map, hll] <;> rfl))) | refine R.regs rfl ?_
    refine key _ ?_
    rintro e H rfl rfl
    repeat' first | (with_reducible first | apply M.free | apply M.done | apply E.seqN | apply R.ret) | ((with_reducible first | apply F.move | apply F.assign); exact rfl; exact rfl) | ((with_reducible apply R.regs); exact rfl) | ((with_reducible apply E.blkX); exact rfl) | (((with_reducible apply E.rP1); exact rfl; exact rfl; (focus (exact look_of rfl)))) | exact rfl
noncomputable def fi16 : FnI := { body := (Tryd.f16.body).getD .skip, ntmps := 143, results := Tryd.f16.results.toList, hints := [(0, { ops := [(0, 2)] }), (5, { ops := [(3, 1)] }), (7, { live := some [1, 5, 6, 34, 35, 36] }), (11, { live := some [1, 5, 6, 34, 35, 36] }), (12, { ops := [(1, 4), (2, 1)], live := some [1, 5], trunc := some 3 }), (13, { live := some [1, 5, 58, 59, 60] }), (19, { live := some [1, 5, 10, 11, 58, 59, 60, 78, 79, 80] }), (23, { live := some [1, 5, 10, 11, 58, 59, 60, 78, 79, 80] }), (24, { ops := [(1, 4), (2, 1)], live := some [1, 5, 10, 58, 59, 60], trunc := some 4 }), (25, { live := some [1, 5, 10, 58, 59, 60, 97, 98, 99] }), (29, { ops := [(6, 1)] }), (30, { live := some [1, 5, 10, 58, 59, 60, 97, 98, 99], trunc := some 4 }), (31, { live := some [1, 5, 10, 58, 59, 60, 122, 123, 124] }), (34, { ops := [(7, 1)] }), (35, { live := some [1, 5, 10, 58, 59, 60, 122, 123, 124], trunc := some 4 }), (36, { live := some [1, 5, 58, 59, 60], trunc := some 3 }), (37, { ops := [(4, 4)] })] }
theorem cxF16 : cx.F 16 = some fi16 := by kernel_rfl
def wsl (id : Nat) (l : List (List UInt8)) : V := match l with
  | [] => .p .nils
  | _ :: r => .arr id r.length 1 0 (r.length + 1)
def wob (l : List (List UInt8)) : Hp := match l with
  | [] => []
  | a :: r => [.arr r.length 0 1 (((a :: r).map Pv.str).map .p)]
def wfz (l : List (List UInt8)) : Pv := match l with
  | [] => .nils
  | a :: r => .sl 1 false ((a :: r).map .str)
theorem wfz_is (l : List (List UInt8)) : IsL 1 (wfz l) := by
  cases l with
  | nil => exact .inl rfl
  | cons a r => exact .inr ⟨_, _, rfl⟩
theorem wfz_el (l : List (List UInt8)) : elemsP (wfz l) = l.map .str := by
  cases l <;> rfl
theorem wsl_app {e size eb : Nat} {ag u agg : Bool} {zero : List Pv} {zv : Option Pv} {eq : Option (List Nat)} {ex : Bool} (H0 : Hp) (id : Nat) (hid : H0.length = id) (l : List (List UInt8)) (w : List UInt8) (hn : l.length < 1000000000) (hb : eb ≤ 1000) :
    appendV ⟨.slice e 1 eb ag u, size, agg, zero, zv, eq⟩ (H0 ++ wob l) (wsl id l) (.p (.sl 1 ex [.str w])) = some (wsl id (l ++ [w]), H0 ++ wob (l ++ [w])) := by
  cases l with
  | nil =>
    subst hid
    simp only [wob, wsl, List.append_nil]
    exact append_nil (m := [.str w]) (by simp) (by decide) (fun p hp => by simp only [List.mem_singleton] at hp; subst hp; rfl) (by simp) hb
  | cons a r =>
    subst hid
    simp only [wob, wsl, List.cons_append]
    refine (append_arr (old := ((a :: r).map Pv.str).map .p) (m := [.str w]) (fz := 0) (es := ((a :: r).map Pv.str).map .p) (by simp) (by decide) (fun p hp => by simp only [List.mem_singleton] at hp; subst hp; rfl) (by simp) (cut_all (by simp)) (Nat.zero_le _) (by simp at hn ⊢; omega) hb).trans ?_
    simp
theorem wsl_frz (H0 : Hp) (id : Nat) (hid : H0.length = id) (l : List (List UInt8)) : frzCells (H0 ++ wob l) (wsl id l) = .p (wfz l) := by
  cases l with
  | nil => rfl
  | cons a r =>
    subst hid
    simp only [wob, wsl]
    exact frz_arr (fz := 0) (es := ((a :: r).map Pv.str).map .p) (by simp) (cut_all (by simp))
def wmk (l : List (List UInt8)) : Hp := match l with
  | [] => []
  | a :: r => [.arr r.length (r.length + 1) 1 (((a :: r).map Pv.str).map .p)]
theorem wsl_mark (H0 : Hp) (id : Nat) (hid : H0.length = id) (l : List (List UInt8)) : markCells (H0 ++ wob l) (wsl id l) = H0 ++ wmk l := by
  cases l with
  | nil => rfl
  | cons a r =>
    subst hid
    simp only [wob, wsl, wmk]
    rw [mark_arr (fz := 0) (es := ((a :: r).map Pv.str).map .p) (by simp)]
    simp
def varsT (t : Tb) : List (List UInt8) := List.zipWith (fun s n => s ++ [61] ++ numT n) t.vars t.start
theorem varsT_at {t : Tb} {i : Nat} {s : List UInt8} {n : Int} (h1 : t.vars[i]? = some s) (h2 : t.start[i]? = some n) : (varsT t)[i]? = some (s ++ [61] ++ numT n) := by
  simp [varsT, List.getElem?_zipWith, h1, h2]
theorem varsT_len {t : Tb} (T : TbOK t) : (varsT t).length = t.vars.length := by
  simp [varsT, T.sl]
theorem numT_len {n : Int} (h1 : -1099511627776 ≤ n) (h2 : n ≤ 1099511627776) : (numT n).length ≤ 15 := by
  unfold numT
  split
  · have := dec_14 (n := (-n).toNat) (by omega)
    simp only [List.length_cons]
    omega
  · have := dec_14 (n := n.toNat) (by omega)
    omega
noncomputable def cS2 : Code := match fi16.body with | .seq _ (.seq _ (.seq _ (.seq _ (.seq _ (.seq _ (.seq _ (.seq (.seq _ (.block _ b)) _))))))) => b | c => c
noncomputable def cS0 : Code := match fi16.body with | .seq _ (.seq _ (.seq _ (.seq _ (.seq _ (.seq (.seq _ (.block _ b)) _))))) => b | c => c
noncomputable def cS3 : Code := match cS2 with | .loop (.seq _ (.seq _ (.seq (.block _ b) _))) => b | c => c
noncomputable def cS4 : Code := match cS3 with | .seq _ (.seq _ (.seq _ (.seq (.seq _ (.block _ b)) _))) => b | c => c
noncomputable def cS6 : Code := match cS3 with | .seq _ (.seq _ (.seq _ (.seq _ (.seq _ (.seq (.seq _ (.block _ b)) _))))) => b | c => c
noncomputable def cS8 : Code := match cS3 with | .seq _ (.seq _ (.seq _ (.seq _ (.seq _ (.seq _ (.seq _ (.block _ b))))))) => b | c => c
def iS0 (t : Tb) (s v a q : Pv) (f0 : Ob) (bs : List UInt8) (ver : Nat) (m : Nat) (e : Env) (H : Hp) : Prop := ∃ i : Nat, e = [(1,.p (.ep [s, v, a, q])),(5,.ptr 1 0 0),(6,wsl 3 ((varsT t).take i)),(34,.p v),(35,.p (.int .i64 t.vars.length)),(36,.p (.int .i64 i))] ∧ H = Hw f0 bs ver (wob ((varsT t).take i)) ∧ i ≤ t.vars.length ∧ m = t.vars.length - i
theorem vars_loop (t : Tb) (T : TbOK t) (s v a q : Pv) (P : TbP s v a q t) (f0 : Ob) (bs : List UInt8) (ver : Nat) (Q : Qt)
    (hQ : ∀ e H, e = [(37,.p (.bool false)),(1,.p (.ep [s, v, a, q])),(5,.ptr 1 0 0),(6,wsl 3 (varsT t)),(34,.p v),(35,.p (.int .i64 t.vars.length)),(36,.p (.int .i64 t.vars.length))] → H = Hw f0 bs ver (wob (varsT t)) → E Q (.exit 0) e H) :
    R cx fi16 0 cS0 [(1,.p (.ep [s, v, a, q])),(5,.ptr 1 0 0),(6,.p .nils),(34,.p v),(35,.p (.int .i64 t.vars.length)),(36,.p (.int .i64 0))] (Hw f0 bs ver []) Q := by
  have cxq := cxF16
  refine R.loop (iS0 t s v a q f0 bs ver) t.vars.length ⟨0, by simp [wsl], by simp [wob], by omega, by omega⟩ ?_
  rintro m e H ⟨i, rfl, rfl, h1, rfl⟩
  have v6 := T.v6
  have hvl := varsT_len T
  have hsl := T.sl
  have hsv := T.sv
  have hvn := T.vn
  obtain ⟨s1, s2, v1, v2, a1, a2, q1, q2⟩ := P
  by_cases hi : i = t.vars.length
  · subst hi
    rw [← hvl, List.take_length, hvl]
    have hq : E (seqQ (fun e H => ∃ k, k < t.vars.length - t.vars.length ∧ iS0 t s v a q f0 bs ver k e H) Q) (.exit 0) _ _ := ⟨(hQ _ _ rfl rfl).out⟩
    clear hQ T h1
    simp only [Hw] at hq ⊢
    generalize (seqQ (fun e H => ∃ k, k < t.vars.length - t.vars.length ∧ iS0 t s v a q f0 bs ver k e H) Q) = QQ at *
    generalize wob (varsT t) = o1 at *
    generalize wsl 3 (varsT t) = o2 at *
    clear hvl hsv hvn s2 v2 a2 q2
    repeat' first | (with_reducible first | apply M.free | apply M.done | apply E.seqX | apply R.exit) | ((with_reducible apply F.cmp); (iterate 4 exact rfl)) | ((with_reducible apply R.regs); exact rfl) | ((first | (with_reducible apply R.cond) | ((with_reducible apply M.guard); exact rfl)); (focus (first | (refine Eq.trans (look_of rfl) ?_; first | (simp only [dtX, *] <;> rfl) | exact rfl) | exact look_of rfl))) | with_reducible apply R.seq | (intro hc; (try rw [hc]); (try simp only [decide_eq_true_eq, decide_eq_false_iff_not, Bool.not_eq_eq_eq_not, Bool.not_true, Bool.not_false] at hc); (try (exfalso; omega)))
    all_goals exact hq
  · obtain ⟨w, hw⟩ := at_some (show i < t.vars.length by omega)
    obtain ⟨n, hn⟩ := at_some (show i < t.start.length by omega)
    have hx := varsT_at hw hn
    have hsn := (snoc_take hx).symm
    have hnn := hsv n (List.mem_of_getElem? hn)
    have hww := rname_big w (hvn i w hw).1
    have hd := (tdigits_run n (by omega) (by omega)).fv
    have happ := fun {e size eb : Nat} {ag u agg : Bool} {zero : List Pv} {zv : Option Pv} {eq : Option (List Nat)} {ex : Bool} hb => wsl_app (e := e) (size := size) (eb := eb) (ag := ag) (u := u) (agg := agg) (zero := zero) (zv := zv) (eq := eq) (ex := ex) [f0, .box 0 [.arr 2 ver 1 0 bs.length], .arr ver 0 1 (byt bs)] 3 rfl ((varsT t).take i) (w ++ [61] ++ numT n) (by rw [List.length_take]; omega) hb
    rw [← hsn] at happ
    have hend : ∀ e H, e = [(1,.p (.ep [s, v, a, q])),(5,.ptr 1 0 0),(6,wsl 3 ((varsT t).take (i + 1))),(34,.p v),(35,.p (.int .i64 t.vars.length)),(36,.p (.int .i64 ((i : Int) + 1)))] → H = Hw f0 bs ver (wob ((varsT t).take (i + 1))) → ∃ k, k < t.vars.length - i ∧ iS0 t s v a q f0 bs ver k e H := by
      rintro e H rfl rfl
      exact ⟨t.vars.length - (i + 1), by omega, i + 1, rfl, rfl, by omega, rfl⟩
    simp only [Hw] at hend ⊢
    simp only [List.cons_append, List.nil_append] at happ
    generalize wob ((varsT t).take i) = o1 at *
    generalize wsl 3 ((varsT t).take i) = o2 at *
    generalize wob ((varsT t).take (i + 1)) = p1 at *
    generalize wsl 3 ((varsT t).take (i + 1)) = p2 at *
    have hnl := numT_len (n := n) (by omega) (by omega)
    clear hQ hsn hx hvl hsv T
    generalize numT n = nn at *
    repeat' first | (with_reducible first | apply M.free | apply M.done | apply E.seqN | apply E.blkN | apply R.skip) | ((with_reducible first | apply F.move | apply F.assign); exact rfl; exact rfl) | ((with_reducible apply F.load); (iterate 3 exact rfl)) | ((with_reducible apply F.cmp); (iterate 4 exact rfl)) | ((first | ((with_reducible apply F.add); (iterate 3 exact rfl)) | ((with_reducible apply F.adds); (iterate 3 exact rfl))); (focus (first | omega | (simp only [lnX]; omega)))) | ((with_reducible apply R.regs); exact rfl) | ((with_reducible apply Lv.of); (focus (repeat' (first | exact Kp.nil | (apply Kp.cons; exact rfl))))) | ((with_reducible apply F.call0); exact rfl; exact rfl; (focus (repeat' (first | exact Evs.nil | (apply Evs.cons; exact rfl)))); exact rfl; (focus (first | exact hd))) | ((first | (with_reducible apply R.cond) | ((with_reducible apply M.guard); exact rfl)); (focus (first | (refine Eq.trans (look_of rfl) ?_; first | (simp only [dtX, *, v2, a2, hw, hn, List.length_map, List.getElem?_map] <;> rfl) | exact rfl) | exact look_of rfl))) | with_reducible apply R.seq | ((with_reducible apply R.region); exact rfl) | ((with_reducible apply R.regionL); exact rfl) | with_reducible apply R.block | ((with_reducible apply F.append); (iterate 8 exact rfl); (focus (exact happ (by decide)))) | (((with_reducible apply F.buildSlice); exact rfl; exact rfl; (focus (repeat' (first | exact Prs.nil | (apply Prs.cons; exact rfl))))); (focus (simp (disch := first | assumption | omega | (simp only [lnX]; omega)) only [LS, buildV, fillV, over, buildSliceV, elemsOf, appendV, elems, arrAt, cut, roomy, mkAgg, allP, asP, V.cells, PC, Int.toNat_zero, Int.reduceToNat, *, v2, a2, hw, hn, List.length_map, List.getElem?_map] <;> rfl))) | (((with_reducible apply F.indexAddr); (iterate 4 exact rfl)); (focus (simp (disch := first | assumption | omega | (simp only [lnX]; omega)) only [LS, lenV_L, idx_L, below_at, Int.toNat_zero, Int.reduceToNat, *, v2, a2, hw, hn, List.length_map, List.getElem?_map] <;> rfl))) | (((with_reducible apply F.fieldAddrS); (iterate 3 exact rfl)); (focus (simp (disch := first | assumption | omega | (simp only [lnX]; omega)) only [LS, indexAddrV, indexV, below_at, fieldV, fieldAddrV, convP, bytesOf, sliceV, bounds, bMax, bHi, bLo, upTo_at, makeFuncV, partV, partP, cut, binI, binS, binV, binP, arith, strOp_add, strOp_eql, strOp_neq, eqn, wrap64, wrap8, mkAgg, allP, asP, Option.getD_none, Int.toNat_zero, Int.reduceToNat, *, v2, a2, hw, hn, List.length_map, List.getElem?_map] <;> rfl))) | (intro hc; (try rw [hc]); (try simp only [decide_eq_true_eq, decide_eq_false_iff_not, Bool.not_eq_eq_eq_not, Bool.not_true, Bool.not_false] at hc); (try (exfalso; omega)))
    all_goals exact hend _ _ rfl rfl
def fromW (t : Tb) (r : Rl) : List (List UInt8) := r.from_.map fun s => t.states.getD s.toNat []
theorem fromW_at {t : Tb} {r : Rl} {i k : Nat} {w : List UInt8} (h : r.from_[i]? = some (k : Int)) (hw : t.states[k]? = some w) : (fromW t r)[i]? = some w := by
  simp [fromW, List.getElem?_map, h, List.getD_eq_getElem?_getD, hw]
def iS4 (s v a q : Pv) (j N : Int) (f : Pv) (f0 rb : Ob) (bs : List UInt8) (ver : Nat) (hd l : List (List UInt8)) (m : Nat) (e : Env) (H : Hp) : Prop := ∃ i : Nat, e = [(1,.p (.ep [s, v, a, q])),(5,.ptr 1 0 0),(10,.ptr 3 0 0),(11,.arr 4 i 1 0 (hd.length + i)),(58,.p q),(59,.p (.int .i64 N)),(60,.p (.int .i64 j)),(78,.p f),(79,.p (.int .i64 l.length)),(80,.p (.int .i64 i))] ∧ H = Hw f0 bs ver [rb, .arr i 0 1 (((hd ++ l.take i).map Pv.str).map .p)] ∧ i ≤ l.length ∧ m = l.length - i
theorem from_loop (t : Tb) (T : TbOK t) (s v a q : Pv) (P : TbP s v a q t) (f0 rb : Ob) (bs : List UInt8) (ver : Nat) (j N : Int) (r : Rl) (f : Pv) (hf1 : IsL 1 f) (hf2 : elemsP f = r.from_.map (.int .i64)) (hfr : ∀ s ∈ r.from_, 0 ≤ s ∧ s < t.states.length) (hfl : r.from_.length ≤ 100) (hd : List (List UInt8)) (hh0 : hd ≠ []) (hh : hd.length ≤ 5) (Q : Qt)
    (hQ : ∀ e H, e = [(81,.p (.bool false)),(1,.p (.ep [s, v, a, q])),(5,.ptr 1 0 0),(10,.ptr 3 0 0),(11,.arr 4 r.from_.length 1 0 (hd.length + r.from_.length)),(58,.p q),(59,.p (.int .i64 N)),(60,.p (.int .i64 j)),(78,.p f),(79,.p (.int .i64 r.from_.length)),(80,.p (.int .i64 r.from_.length))] → H = Hw f0 bs ver [rb, .arr r.from_.length 0 1 (((hd ++ fromW t r).map Pv.str).map .p)] → E Q (.exit 4) e H) :
    R cx fi16 0 cS4 [(1,.p (.ep [s, v, a, q])),(5,.ptr 1 0 0),(10,.ptr 3 0 0),(11,.arr 4 0 1 0 hd.length),(58,.p q),(59,.p (.int .i64 N)),(60,.p (.int .i64 j)),(78,.p f),(79,.p (.int .i64 r.from_.length)),(80,.p (.int .i64 0))] (Hw f0 bs ver [rb, .arr 0 0 1 ((hd.map Pv.str).map .p)]) Q := by
  have cxq := cxF16
  have hwl : (fromW t r).length = r.from_.length := by simp [fromW]
  rw [← hwl] at hQ ⊢
  refine R.loop (iS4 s v a q j N f f0 rb bs ver hd (fromW t r)) (fromW t r).length ⟨0, by simp, by simp, by omega, by omega⟩ ?_
  rintro m e H ⟨i, rfl, rfl, h1, rfl⟩
  obtain ⟨s1, s2, v1, v2, a1, a2, q1, q2⟩ := P
  by_cases hi : i = (fromW t r).length
  · subst hi
    rw [List.take_length]
    have hq : E (seqQ (fun e H => ∃ k, k < (fromW t r).length - (fromW t r).length ∧ iS4 s v a q j N f f0 rb bs ver hd (fromW t r) k e H) Q) (.exit 4) _ _ := ⟨(hQ _ _ rfl rfl).out⟩
    clear hQ T h1
    simp only [Hw] at hq ⊢
    generalize (seqQ (fun e H => ∃ k, k < (fromW t r).length - (fromW t r).length ∧ iS4 s v a q j N f f0 rb bs ver hd (fromW t r) k e H) Q) = QQ at *
    generalize List.map V.p (List.map Pv.str (hd ++ fromW t r)) = cells at *
    clear s2 v2 a2 q2 hfr hwl hfl
    generalize (fromW t r).length = n at *
    repeat' first | (with_reducible first | apply M.free | apply M.done | apply E.seqX | apply R.exit) | ((with_reducible apply F.cmp); (iterate 4 exact rfl)) | ((with_reducible apply R.regs); exact rfl) | ((first | (with_reducible apply R.cond) | ((with_reducible apply M.guard); exact rfl)); (focus (first | (refine Eq.trans (look_of rfl) ?_; first | (simp only [dtX, *] <;> rfl) | exact rfl) | exact look_of rfl))) | with_reducible apply R.seq | (intro hc; (try rw [hc]); (try simp only [decide_eq_true_eq, decide_eq_false_iff_not, Bool.not_eq_eq_eq_not, Bool.not_true, Bool.not_false] at hc); (try (exfalso; omega)))
    all_goals exact hq
  · obtain ⟨w, hw⟩ := at_some (show i < r.from_.length by omega)
    have hb := hfr w (List.mem_of_getElem? hw)
    obtain ⟨k, rfl⟩ := Int.eq_ofNat_of_zero_le hb.1
    obtain ⟨u, hu⟩ := at_some (show k < t.states.length by omega)
    have hx := fromW_at hw hu
    have hsn := (snoc_take hx).symm
    have hil : i < (fromW t r).length := by omega
    have hcut : cut (((hd ++ (fromW t r).take i).map Pv.str).map V.p) 0 (hd.length + i) = some (((hd ++ (fromW t r).take i).map Pv.str).map V.p) := cut_all (by simp; omega)
    have hend : ∀ e H, e = [(1,.p (.ep [s, v, a, q])),(5,.ptr 1 0 0),(10,.ptr 3 0 0),(11,.arr 4 (i + 1) 1 0 (hd.length + i + 1)),(58,.p q),(59,.p (.int .i64 N)),(60,.p (.int .i64 j)),(78,.p f),(79,.p (.int .i64 (fromW t r).length)),(80,.p (.int .i64 ((i : Int) + 1)))] → H = Hw f0 bs ver [rb, .arr (i + 1) 0 1 (((hd ++ (fromW t r).take i).map Pv.str).map .p ++ [.p (.str u)])] → ∃ k, k < (fromW t r).length - i ∧ iS4 s v a q j N f f0 rb bs ver hd (fromW t r) k e H := by
      rintro e H rfl rfl
      refine ⟨(fromW t r).length - (i + 1), by omega, i + 1, rfl, ?_, by omega, rfl⟩
      rw [hsn]
      simp
    simp only [Hw] at hend ⊢
    generalize ((hd ++ (fromW t r).take i).map Pv.str).map V.p = cells at *
    clear hQ hsn hx T
    generalize (fromW t r).length = n at *
    repeat' first | (with_reducible first | apply M.free | apply M.done | apply E.seqN | apply E.blkN | apply R.skip) | ((with_reducible first | apply F.move | apply F.assign); exact rfl; exact rfl) | ((with_reducible apply F.load); (iterate 3 exact rfl)) | ((with_reducible apply F.cmp); (iterate 4 exact rfl)) | (((with_reducible apply F.add); (iterate 3 exact rfl)); (focus (first | omega | (simp only [lnX]; omega)))) | ((with_reducible apply R.regs); exact rfl) | ((with_reducible apply Lv.of); (focus (repeat' (first | exact Kp.nil | (apply Kp.cons; exact rfl))))) | ((first | (with_reducible apply R.cond) | ((with_reducible apply M.guard); exact rfl)); (focus (first | (refine Eq.trans (look_of rfl) ?_; first | (simp only [dtX, *, s2, hf2, hw, hu, List.length_map, List.getElem?_map] <;> rfl) | exact rfl) | exact look_of rfl))) | with_reducible apply R.seq | ((with_reducible apply R.region); exact rfl) | ((with_reducible apply R.regionL); exact rfl) | with_reducible apply R.block | ((with_reducible apply F.append); (iterate 8 exact rfl); (focus (refine Eq.trans (append_arr (by simp) (by decide) (fun p hp => by simp only [List.mem_singleton] at hp; subst hp; rfl) rfl hcut (Nat.zero_le _) (by simp only [List.length_cons, List.length_nil]; omega) (by decide)) ?_; simp only [List.length_cons, List.length_nil, List.cons_append, List.nil_append, List.set_cons_zero, List.set_cons_succ, List.map_cons, List.map_nil, Nat.zero_add, Nat.reduceAdd, Nat.sub_zero]; rfl))) | (((with_reducible apply F.buildSlice); exact rfl; exact rfl; (focus (repeat' (first | exact Prs.nil | (apply Prs.cons; exact rfl))))); (focus (simp (disch := first | assumption | omega | (simp only [lnX]; omega)) only [LS, buildV, fillV, over, buildSliceV, elemsOf, appendV, elems, arrAt, cut, roomy, mkAgg, allP, asP, V.cells, PC, Int.toNat_zero, Int.reduceToNat, *, s2, hf2, hw, hu, List.length_map, List.getElem?_map] <;> rfl))) | (((with_reducible apply F.indexAddr); (iterate 4 exact rfl)); (focus (simp (disch := first | assumption | omega | (simp only [lnX]; omega)) only [LS, lenV_L, idx_L, below_at, Int.toNat_zero, Int.reduceToNat, *, s2, hf2, hw, hu, List.length_map, List.getElem?_map] <;> rfl))) | (((with_reducible apply F.fieldAddrS); (iterate 3 exact rfl)); (focus (simp (disch := first | assumption | omega | (simp only [lnX]; omega)) only [LS, indexAddrV, indexV, below_at, fieldV, fieldAddrV, convP, bytesOf, sliceV, bounds, bMax, bHi, bLo, upTo_at, makeFuncV, partV, partP, cut, binI, binS, binV, binP, arith, strOp_add, strOp_eql, strOp_neq, eqn, wrap64, wrap8, mkAgg, allP, asP, Option.getD_none, Int.toNat_zero, Int.reduceToNat, *, s2, hf2, hw, hu, List.length_map, List.getElem?_map] <;> rfl))) | (intro hc; (try rw [hc]); (try simp only [decide_eq_true_eq, decide_eq_false_iff_not, Bool.not_eq_eq_eq_not, Bool.not_true, Bool.not_false] at hc); (try (exfalso; omega)))
    all_goals first | exact hend _ _ rfl rfl | trace_state
@[simp] theorem low_byt (n : Nat) (s : List UInt8) : (byt s).all (lowV n) = true := low_map n _
def fb : Ob := .box 0 [.p (.int .i64 0), .p (.int .i64 0), .p (.int .i64 0), .p (.int .i64 0)]
def catF {α : Type} (f : α → List UInt8) (l : List α) : List UInt8 := (l.map f).flatten
theorem cat_step {α : Type} (f : α → List UInt8) {l : List α} {i : Nat} {x : α} (h : l[i]? = some x) : catF f (l.take (i + 1)) = catF f (l.take i) ++ f x := by
  simp [catF, List.take_add_one, h]
theorem cat_take {α : Type} (f : α → List UInt8) (l : List α) (i : Nat) : (catF f (l.take i)).length ≤ (catF f l).length := by
  have : catF f l = catF f (l.take i) ++ catF f (l.drop i) := by
    simp only [catF]
    rw [← List.flatten_append, ← List.map_append, List.take_append_drop]
  rw [this, List.length_append]
  omega
def guardL (t : Tb) (r : Rl) (g : Gd) : List UInt8 := lineF [103, 117, 97, 114, 100] [numT g.code, exprT t r.args g.test]
def stepL (t : Tb) (r : Rl) (s : Stp) : List UInt8 := lineF [115, 116, 101, 112] [stepT t r.args s]
def rbx (r : Rl) (f g st : Pv) : Ob := .box 0 [.p (.str r.name), .p (.int .i64 r.args), .p f, .p g, .p st]
def iS6 (s v a q : Pv) (t : Tb) (r : Rl) (j N : Int) (f g st : Pv) (bs : List UInt8) (m : Nat) (e : Env) (H : Hp) : Prop := ∃ (i ver : Nat), e = [(1,.p (.ep [s, v, a, q])),(5,.ptr 1 0 0),(10,.ptr 3 0 0),(58,.p q),(59,.p (.int .i64 N)),(60,.p (.int .i64 j)),(97,.p g),(98,.p (.int .i64 r.guards.length)),(99,.p (.int .i64 i))] ∧ H = Hw fb (bs ++ catF (guardL t r) (r.guards.take i)) ver [rbx r f g st] ∧ i ≤ r.guards.length ∧ m = r.guards.length - i
theorem guards_loop (t : Tb) (T : TbOK t) (s v a q : Pv) (P : TbP s v a q t) (bs : List UInt8) (ver : Nat) (j N : Int) (k : Nat) (r : Rl) (R0 : RlOK t k r) (f g st : Pv) (hg1 : IsL 2 g) (hg2 : L2 GdR (elemsP g) r.guards) (hB : (bs ++ catF (guardL t r) r.guards).length ≤ 1000000000) (Q : Qt)
    (hQ : ∀ ver e H, e = [(100,.p (.bool false)),(1,.p (.ep [s, v, a, q])),(5,.ptr 1 0 0),(10,.ptr 3 0 0),(58,.p q),(59,.p (.int .i64 N)),(60,.p (.int .i64 j)),(97,.p g),(98,.p (.int .i64 r.guards.length)),(99,.p (.int .i64 r.guards.length))] → H = Hw fb (bs ++ catF (guardL t r) r.guards) ver [rbx r f g st] → E Q (.exit 6) e H) :
    R cx fi16 0 cS6 [(1,.p (.ep [s, v, a, q])),(5,.ptr 1 0 0),(10,.ptr 3 0 0),(58,.p q),(59,.p (.int .i64 N)),(60,.p (.int .i64 j)),(97,.p g),(98,.p (.int .i64 r.guards.length)),(99,.p (.int .i64 0))] (Hw fb bs ver [rbx r f g st]) Q := by
  have cxq := cxF16
  refine R.loop (iS6 s v a q t r j N f g st bs) r.guards.length ⟨0, ver, rfl, by simp [catF], by omega, by omega⟩ ?_
  rintro m e H ⟨i, ver, rfl, rfl, h1, rfl⟩
  obtain ⟨s1, s2, v1, v2, a1, a2, q1, q2⟩ := P
  by_cases hi : i = r.guards.length
  · subst hi
    rw [List.take_length]
    have hq : E (seqQ (fun e H => ∃ k, k < r.guards.length - r.guards.length ∧ iS6 s v a q t r j N f g st bs k e H) Q) (.exit 6) _ _ := ⟨(hQ ver _ _ rfl rfl).out⟩
    clear hQ T h1
    simp only [Hw] at hq ⊢
    generalize (seqQ (fun e H => ∃ k, k < r.guards.length - r.guards.length ∧ iS6 s v a q t r j N f g st bs k e H) Q) = QQ at *
    generalize bs ++ catF (guardL t r) r.guards = bs at *
    generalize rbx r f g st = rb at *
    clear s2 v2 a2 q2 R0 hg2
    generalize r.guards.length = n at *
    repeat' first | (with_reducible first | apply M.free | apply M.done | apply E.seqX | apply R.exit) | ((with_reducible apply F.cmp); (iterate 4 exact rfl)) | ((with_reducible apply R.regs); exact rfl) | ((first | (with_reducible apply R.cond) | ((with_reducible apply M.guard); exact rfl)); (focus (first | (refine Eq.trans (look_of rfl) ?_; first | (simp only [dtX, *] <;> rfl) | exact rfl) | exact look_of rfl))) | with_reducible apply R.seq | (intro hc; (try rw [hc]); (try simp only [decide_eq_true_eq, decide_eq_false_iff_not, Bool.not_eq_eq_eq_not, Bool.not_true, Bool.not_false] at hc); (try (exfalso; omega)))
    all_goals exact hq
  · have hil : i < r.guards.length := by omega
    obtain ⟨z, hz⟩ := at_some hil
    obtain ⟨y, hy, u, rfl, hu1, hu2⟩ := hg2.at hz
    have hcs := cat_step (guardL t r) hz
    have hct := cat_take (guardL t r) r.guards (i + 1)
    have hzm := List.mem_of_getElem? hz
    have hcode := R0.code z hzm
    have hr4 := R0.args
    have hxl := expr_len T.vn (by omega) (R0.test z hzm)
    have hnl := numT_len (n := z.code) (by omega) (by omega)
    have hsh := (show_run z.test u hu1 hu2 v v1 t.vars v2 (names_le T.vn) r.args (by omega)).fv
    have hd := (tdigits_run z.code (by omega) (by omega)).fv
    have hgl := hg2.1
    have hg4 := R0.g4
    have hput := put_run fb [103, 117, 97, 114, 100] (.sl 1 true [.str (numT z.code), .str (exprT t r.args z.test)]) (.inr ⟨_, _, rfl⟩) [numT z.code, exprT t r.args z.test] rfl (bs ++ catF (guardL t r) (r.guards.take i)) ver [rbx r f g st, .box 0 [.p (.int .i64 z.code), .p u]] (by
      have : bs ++ catF (guardL t r) (r.guards.take i) ++ lineF [103, 117, 97, 114, 100] [numT z.code, exprT t r.args z.test] = bs ++ catF (guardL t r) (r.guards.take (i + 1)) := by
        rw [hcs, List.append_assoc]; rfl
      rw [this]
      simp only [List.length_append] at hB ⊢
      omega) (by simp)
    have hend : ∀ ver e H, e = [(1,.p (.ep [s, v, a, q])),(5,.ptr 1 0 0),(10,.ptr 3 0 0),(58,.p q),(59,.p (.int .i64 N)),(60,.p (.int .i64 j)),(97,.p g),(98,.p (.int .i64 r.guards.length)),(99,.p (.int .i64 ((i : Int) + 1)))] → H = Hw fb (bs ++ catF (guardL t r) (r.guards.take i) ++ lineF [103, 117, 97, 114, 100] [numT z.code, exprT t r.args z.test]) ver [rbx r f g st] → ∃ k, k < r.guards.length - i ∧ iS6 s v a q t r j N f g st bs k e H := by
      rintro ver e H rfl rfl
      refine ⟨r.guards.length - (i + 1), by omega, i + 1, ver, rfl, ?_, by omega, rfl⟩
      rw [hcs, List.append_assoc]
      rfl
    simp only [Hw, fb, rbx, exprT] at hput hend ⊢
    simp only [exprT] at hxl
    generalize bs ++ catF (guardL t r) (r.guards.take i) = b0 at *
    generalize b0 ++ lineF _ _ = b1 at *
    generalize verM _ _ = ver1 at *
    generalize showF z.test t.vars r.args = sh at *
    obtain ⟨sh1, sh2⟩ := sh
    obtain ⟨zc, zt⟩ := z
    simp only at hput hend hxl hd hnl hy
    clear hQ hcs hct T R0 hz hg2 hB hu2 s2 a2 q2
    generalize numT zc = nn at *
    repeat' first | (with_reducible first | apply M.free | apply M.done | apply E.seqN | apply E.blkN | apply R.skip) | ((with_reducible first | apply F.move | apply F.assign); exact rfl; exact rfl) | ((with_reducible first | apply F.load | apply F.fieldAddr | apply F.extract); (iterate 3 exact rfl)) | ((with_reducible apply F.cmp); (iterate 4 exact rfl)) | (((with_reducible apply F.add); (iterate 3 exact rfl)); (focus (first | omega | (simp only [lnX]; omega)))) | ((with_reducible apply R.regs); exact rfl) | ((with_reducible apply Cut.of); (focus (repeat' (first | exact Kp.nil | (apply Kp.cons; exact rfl)))); (focus ((try simp only [List.take_succ_cons, List.take_zero, List.take_nil, Nat.zero_add, Nat.reduceAdd]) <;> rfl)); (focus (first | exact rfl | (simp [cutOk, lowOb, lowV, lowCell, lowCell1, low_map]; done)))) | ((with_reducible apply F.call0); exact rfl; exact rfl; (focus (repeat' (first | exact Evs.nil | (apply Evs.cons; exact rfl)))); exact rfl; (focus (first | exact hsh | exact hd))) | (((with_reducible apply F.call1); exact rfl; exact rfl; (focus (repeat' (first | exact Evs.nil | (apply Evs.cons; exact rfl))))); (focus (first | exact hput))) | ((first | (with_reducible apply R.cond) | ((with_reducible apply M.guard); exact rfl)); (focus (first | (refine Eq.trans (look_of rfl) ?_; first | (simp only [dtX, *, hy, hgl, v2, List.length_map, List.getElem?_map] <;> rfl) | exact rfl) | exact look_of rfl))) | with_reducible apply R.seq | ((with_reducible apply R.region); exact rfl) | ((with_reducible apply R.regionT); exact rfl) | with_reducible apply R.block | ((first | ((with_reducible apply F.store); (iterate 4 exact rfl)) | ((with_reducible apply F.loadS); (iterate 3 exact rfl))); (focus (simp (disch := first | assumption | omega | (simp only [lnX]; omega)) only [LS, storeV, loadV, partV, partP, cut, over, mkAgg, allP, asP, V.cells, PC, elDiv, elMod, elDiv0, Nat.mul_mod_left, Int.toNat_zero, Int.reduceToNat, *, hy, hgl, v2, List.length_map, List.getElem?_map] <;> rfl))) | (((with_reducible apply F.alloc); exact rfl; exact rfl); (focus (simp only [LS] <;> rfl)); (focus (simp only [LS] <;> rfl))) | (((with_reducible apply F.buildSlice); exact rfl; exact rfl; (focus (repeat' (first | exact Prs.nil | (apply Prs.cons; exact rfl))))); (focus (simp (disch := first | assumption | omega | (simp only [lnX]; omega)) only [LS, buildV, fillV, over, buildSliceV, elemsOf, appendV, elems, arrAt, cut, roomy, mkAgg, allP, asP, V.cells, PC, Int.toNat_zero, Int.reduceToNat, *, hy, hgl, v2, List.length_map, List.getElem?_map] <;> rfl))) | (((with_reducible apply F.indexAddr); (iterate 4 exact rfl)); (focus (simp (disch := first | assumption | omega | (simp only [lnX]; omega)) only [LS, lenV_L, idx_L, below_at, Int.toNat_zero, Int.reduceToNat, *, hy, hgl, v2, List.length_map, List.getElem?_map] <;> rfl))) | (((with_reducible apply F.fieldAddrS); (iterate 3 exact rfl)); (focus (simp (disch := first | assumption | omega | (simp only [lnX]; omega)) only [LS, indexAddrV, indexV, below_at, fieldV, fieldAddrV, convP, bytesOf, sliceV, bounds, bMax, bHi, bLo, upTo_at, makeFuncV, partV, partP, cut, binI, binS, binV, binP, arith, strOp_add, strOp_eql, strOp_neq, eqn, wrap64, wrap8, mkAgg, allP, asP, Option.getD_none, Int.toNat_zero, Int.reduceToNat, *, hy, hgl, v2, List.length_map, List.getElem?_map] <;> rfl))) | (intro hc; (try rw [hc]); (try simp only [decide_eq_true_eq, decide_eq_false_iff_not, Bool.not_eq_eq_eq_not, Bool.not_true, Bool.not_false] at hc); (try (exfalso; omega)))
    all_goals first | exact hend _ _ _ rfl rfl | trace_state
def iS8 (s v a q : Pv) (t : Tb) (r : Rl) (j N : Int) (f g st : Pv) (bs : List UInt8) (m : Nat) (e : Env) (H : Hp) : Prop := ∃ (i ver : Nat), e = [(1,.p (.ep [s, v, a, q])),(5,.ptr 1 0 0),(10,.ptr 3 0 0),(58,.p q),(59,.p (.int .i64 N)),(60,.p (.int .i64 j)),(122,.p st),(123,.p (.int .i64 r.steps.length)),(124,.p (.int .i64 i))] ∧ H = Hw fb (bs ++ catF (stepL t r) (r.steps.take i)) ver [rbx r f g st] ∧ i ≤ r.steps.length ∧ m = r.steps.length - i
theorem steps_loop (t : Tb) (T : TbOK t) (s v a q : Pv) (P : TbP s v a q t) (bs : List UInt8) (ver : Nat) (j N : Int) (k : Nat) (r : Rl) (R0 : RlOK t k r) (f g st : Pv) (hg1 : IsL 2 st) (hg2 : L2 StpR (elemsP st) r.steps) (hB : (bs ++ catF (stepL t r) r.steps).length ≤ 1000000000) (Q : Qt)
    (hQ : ∀ ver e H, e = [(125,.p (.bool false)),(1,.p (.ep [s, v, a, q])),(5,.ptr 1 0 0),(10,.ptr 3 0 0),(58,.p q),(59,.p (.int .i64 N)),(60,.p (.int .i64 j)),(122,.p st),(123,.p (.int .i64 r.steps.length)),(124,.p (.int .i64 r.steps.length))] → H = Hw fb (bs ++ catF (stepL t r) r.steps) ver [rbx r f g st] → E Q (.exit 8) e H) :
    R cx fi16 0 cS8 [(1,.p (.ep [s, v, a, q])),(5,.ptr 1 0 0),(10,.ptr 3 0 0),(58,.p q),(59,.p (.int .i64 N)),(60,.p (.int .i64 j)),(122,.p st),(123,.p (.int .i64 r.steps.length)),(124,.p (.int .i64 0))] (Hw fb bs ver [rbx r f g st]) Q := by
  have cxq := cxF16
  refine R.loop (iS8 s v a q t r j N f g st bs) r.steps.length ⟨0, ver, rfl, by simp [catF], by omega, by omega⟩ ?_
  rintro m e H ⟨i, ver, rfl, rfl, h1, rfl⟩
  have hPP := P
  obtain ⟨s1, s2, v1, v2, a1, a2, q1, q2⟩ := P
  by_cases hi : i = r.steps.length
  · subst hi
    rw [List.take_length]
    have hq : E (seqQ (fun e H => ∃ k, k < r.steps.length - r.steps.length ∧ iS8 s v a q t r j N f g st bs k e H) Q) (.exit 8) _ _ := ⟨(hQ ver _ _ rfl rfl).out⟩
    clear hQ T h1 hPP
    simp only [Hw] at hq ⊢
    generalize (seqQ (fun e H => ∃ k, k < r.steps.length - r.steps.length ∧ iS8 s v a q t r j N f g st bs k e H) Q) = QQ at *
    generalize bs ++ catF (stepL t r) r.steps = bs at *
    generalize rbx r f g st = rb at *
    clear s2 v2 a2 q2 R0 hg2
    generalize r.steps.length = n at *
    repeat' first | (with_reducible first | apply M.free | apply M.done | apply E.seqX | apply R.exit) | ((with_reducible apply F.cmp); (iterate 4 exact rfl)) | ((with_reducible apply R.regs); exact rfl) | ((first | (with_reducible apply R.cond) | ((with_reducible apply M.guard); exact rfl)); (focus (first | (refine Eq.trans (look_of rfl) ?_; first | (simp only [dtX, *] <;> rfl) | exact rfl) | exact look_of rfl))) | with_reducible apply R.seq | (intro hc; (try rw [hc]); (try simp only [decide_eq_true_eq, decide_eq_false_iff_not, Bool.not_eq_eq_eq_not, Bool.not_true, Bool.not_false] at hc); (try (exfalso; omega)))
    all_goals exact hq
  · have hil : i < r.steps.length := by omega
    obtain ⟨z, hz⟩ := at_some hil
    obtain ⟨y, hy, hyr⟩ := hg2.at hz
    have hcs := cat_step (stepL t r) hz
    have hct := cat_take (stepL t r) r.steps (i + 1)
    have hzm := List.mem_of_getElem? hz
    have hr4 := R0.args
    have hg4 := R0.s3
    have hxl := step_len T (by omega) (R0.steps z hzm)
    have hgl := hg2.1
    have hst := (step_run' t T s v a q hPP y z hyr r.args (by omega) (R0.steps z hzm)).fv
    obtain ⟨l0, rfl, hl1, hl2⟩ := hyr
    have hput := put_run fb [115, 116, 101, 112] (.sl 1 true [.str (stepT t r.args z)]) (.inr ⟨_, _, rfl⟩) [stepT t r.args z] rfl (bs ++ catF (stepL t r) (r.steps.take i)) ver [rbx r f g st, .box 0 [.p l0, .p (.int .i64 z.to)]] (by
      have : bs ++ catF (stepL t r) (r.steps.take i) ++ lineF [115, 116, 101, 112] [stepT t r.args z] = bs ++ catF (stepL t r) (r.steps.take (i + 1)) := by
        rw [hcs, List.append_assoc]; rfl
      rw [this]
      simp only [List.length_append] at hB ⊢
      omega) (by simp)
    have hend : ∀ ver e H, e = [(1,.p (.ep [s, v, a, q])),(5,.ptr 1 0 0),(10,.ptr 3 0 0),(58,.p q),(59,.p (.int .i64 N)),(60,.p (.int .i64 j)),(122,.p st),(123,.p (.int .i64 r.steps.length)),(124,.p (.int .i64 ((i : Int) + 1)))] → H = Hw fb (bs ++ catF (stepL t r) (r.steps.take i) ++ lineF [115, 116, 101, 112] [stepT t r.args z]) ver [rbx r f g st] → ∃ k, k < r.steps.length - i ∧ iS8 s v a q t r j N f g st bs k e H := by
      rintro ver e H rfl rfl
      refine ⟨r.steps.length - (i + 1), by omega, i + 1, ver, rfl, ?_, by omega, rfl⟩
      rw [hcs, List.append_assoc]
      rfl
    simp only [Hw, fb, rbx] at hput hend ⊢
    generalize bs ++ catF (stepL t r) (r.steps.take i) = b0 at *
    generalize b0 ++ lineF _ _ = b1 at *
    generalize verM _ _ = ver1 at *
    generalize stepT t r.args z = sh at *
    generalize z.to = zt at *
    clear hQ hcs hct T R0 hz hg2 hB s2 a2 q2 v2 hPP hl2
    repeat' first | (with_reducible first | apply M.free | apply M.done | apply E.seqN | apply E.blkN | apply R.skip) | ((with_reducible apply F.move); exact rfl; exact rfl) | ((with_reducible first | apply F.load | apply F.fieldAddr); (iterate 3 exact rfl)) | ((with_reducible apply F.cmp); (iterate 4 exact rfl)) | (((with_reducible apply F.add); (iterate 3 exact rfl)); (focus (first | omega | (simp only [lnX]; omega)))) | ((with_reducible apply R.regs); exact rfl) | ((with_reducible apply Cut.of); (focus (repeat' (first | exact Kp.nil | (apply Kp.cons; exact rfl)))); (focus ((try simp only [List.take_succ_cons, List.take_zero, List.take_nil, Nat.zero_add, Nat.reduceAdd]) <;> rfl)); (focus (first | exact rfl | (simp [cutOk, lowOb, lowV, lowCell, lowCell1, low_map]; done)))) | ((with_reducible apply F.call0); exact rfl; exact rfl; (focus (repeat' (first | exact Evs.nil | (apply Evs.cons; exact rfl)))); exact rfl; (focus (first | exact hst))) | (((with_reducible apply F.call1); exact rfl; exact rfl; (focus (repeat' (first | exact Evs.nil | (apply Evs.cons; exact rfl))))); (focus (first | exact hput))) | ((first | (with_reducible apply R.cond) | ((with_reducible apply M.guard); exact rfl)); (focus (first | (refine Eq.trans (look_of rfl) ?_; first | (simp only [dtX, *, hy, hgl, List.length_map, List.getElem?_map] <;> rfl) | exact rfl) | exact look_of rfl))) | with_reducible apply R.seq | ((with_reducible apply R.region); exact rfl) | ((with_reducible apply R.regionT); exact rfl) | with_reducible apply R.block | ((first | ((with_reducible apply F.store); (iterate 4 exact rfl)) | ((with_reducible apply F.loadS); (iterate 3 exact rfl))); (focus (simp (disch := first | assumption | omega | (simp only [lnX]; omega)) only [LS, storeV, loadV, partV, partP, cut, over, mkAgg, allP, asP, V.cells, PC, elDiv, elMod, elDiv0, Nat.mul_mod_left, Int.toNat_zero, Int.reduceToNat, *, hy, hgl, List.length_map, List.getElem?_map] <;> rfl))) | (((with_reducible apply F.alloc); exact rfl; exact rfl); (focus (simp only [LS] <;> rfl)); (focus (simp only [LS] <;> rfl))) | (((with_reducible apply F.buildSlice); exact rfl; exact rfl; (focus (repeat' (first | exact Prs.nil | (apply Prs.cons; exact rfl))))); (focus (simp (disch := first | assumption | omega | (simp only [lnX]; omega)) only [LS, buildV, fillV, over, buildSliceV, elemsOf, appendV, elems, arrAt, cut, roomy, mkAgg, allP, asP, V.cells, PC, Int.toNat_zero, Int.reduceToNat, *, hy, hgl, List.length_map, List.getElem?_map] <;> rfl))) | (((with_reducible apply F.indexAddr); (iterate 4 exact rfl)); (focus (simp (disch := first | assumption | omega | (simp only [lnX]; omega)) only [LS, lenV_L, idx_L, below_at, Int.toNat_zero, Int.reduceToNat, *, hy, hgl, List.length_map, List.getElem?_map] <;> rfl))) | (intro hc; (try rw [hc]); (try simp only [decide_eq_true_eq, decide_eq_false_iff_not, Bool.not_eq_eq_eq_not, Bool.not_true, Bool.not_false] at hc); (try (exfalso; omega)))
    all_goals first | exact hend _ _ _ rfl rfl | trace_state
def ruleW (t : Tb) (r : Rl) : List (List UInt8) := [r.name, numT r.args] ++ (if r.from_ = [] then [] else [102, 114, 111, 109] :: fromW t r)
def ruleX (t : Tb) (r : Rl) : List UInt8 := lineF [114, 117, 108, 101] (ruleW t r) ++ catF (guardL t r) r.guards ++ catF (stepL t r) r.steps
theorem from_len {t : Tb} (T : TbOK t) {k : Nat} {r : Rl} (R0 : RlOK t k r) : r.from_.length ≤ 8 := by
  have hd := R0.dist
  have hf := R0.from_
  have h1 : (r.from_.map Int.toNat).Nodup := by
    rw [List.Nodup, List.pairwise_map]
    refine List.Pairwise.imp_of_mem ?_ hd
    intro a b ha hb hab e
    have := hf a ha
    have := hf b hb
    exact hab (by omega)
  have h2 := nodup_lt 8 _ h1 (by
    intro x hx
    obtain ⟨y, hy, rfl⟩ := List.mem_map.1 hx
    have := hf y hy
    have := T.s8
    omega)
  simpa using h2
def iS2 (s v a q : Pv) (t : Tb) (bs : List UInt8) (m : Nat) (e : Env) (H : Hp) : Prop := ∃ (i ver : Nat), e = [(1,.p (.ep [s, v, a, q])),(5,.ptr 1 0 0),(58,.p q),(59,.p (.int .i64 t.rules.length)),(60,.p (.int .i64 i))] ∧ H = Hw fb (bs ++ catF (ruleX t) (t.rules.take i)) ver [] ∧ i ≤ t.rules.length ∧ m = t.rules.length - i
theorem rules_loop (t : Tb) (T : TbOK t) (s v a q : Pv) (P : TbP s v a q t) (bs : List UInt8) (ver : Nat) (hB : (bs ++ catF (ruleX t) t.rules).length ≤ 1000000000) (Q : Qt)
    (hQ : ∀ ver e H, e = [(61,.p (.bool false)),(1,.p (.ep [s, v, a, q])),(5,.ptr 1 0 0),(58,.p q),(59,.p (.int .i64 t.rules.length)),(60,.p (.int .i64 t.rules.length))] → H = Hw fb (bs ++ catF (ruleX t) t.rules) ver [] → E Q (.exit 2) e H) :
    R cx fi16 0 cS2 [(1,.p (.ep [s, v, a, q])),(5,.ptr 1 0 0),(58,.p q),(59,.p (.int .i64 t.rules.length)),(60,.p (.int .i64 0))] (Hw fb bs ver []) Q := by
  have cxq := cxF16
  refine R.loop (iS2 s v a q t bs) t.rules.length ⟨0, ver, rfl, by simp [catF], by omega, by omega⟩ ?_
  rintro m e H ⟨i, ver, rfl, rfl, h1, rfl⟩
  have hPP := P
  obtain ⟨s1, s2, v1, v2, a1, a2, q1, q2⟩ := P
  by_cases hi : i = t.rules.length
  · subst hi
    rw [List.take_length]
    have hq : E (seqQ (fun e H => ∃ k, k < t.rules.length - t.rules.length ∧ iS2 s v a q t bs k e H) Q) (.exit 2) _ _ := ⟨(hQ ver _ _ rfl rfl).out⟩
    clear hQ T h1 hPP
    simp only [Hw] at hq ⊢
    generalize (seqQ (fun e H => ∃ k, k < t.rules.length - t.rules.length ∧ iS2 s v a q t bs k e H) Q) = QQ at *
    generalize bs ++ catF (ruleX t) t.rules = bs at *
    clear s2 v2 a2 q2
    generalize t.rules.length = n at *
    repeat' first | (with_reducible first | apply M.free | apply M.done | apply E.seqX | apply R.exit) | ((with_reducible apply F.cmp); (iterate 4 exact rfl)) | ((with_reducible apply R.regs); exact rfl) | ((first | (with_reducible apply R.cond) | ((with_reducible apply M.guard); exact rfl)); (focus (first | (refine Eq.trans (look_of rfl) ?_; first | (simp only [dtX, *] <;> rfl) | exact rfl) | exact look_of rfl))) | with_reducible apply R.seq | (intro hc; (try rw [hc]); (try simp only [decide_eq_true_eq, decide_eq_false_iff_not, Bool.not_eq_eq_eq_not, Bool.not_true, Bool.not_false] at hc); (try (exfalso; omega)))
    all_goals exact hq
  · have hil : i < t.rules.length := by omega
    obtain ⟨r, hr⟩ := at_some hil
    obtain ⟨y, hy, f, g, st, rfl, f1, f2, g1, g2, t1, t2⟩ := q2.at hr
    have R0 := T.rules i r hr
    have hcs := cat_step (ruleX t) hr
    have hct := cat_take (ruleX t) t.rules (i + 1)
    have hr4 := R0.args
    have hr12 := T.r12
    have hnm := rname_big r.name R0.name
    have hfl := from_len T R0
    have hgl := q2.1
    have hnl := numT_len (n := r.args) (by omega) (by omega)
    have hd := (tdigits_run r.args (by omega) (by omega)).fv
    have hfe : (elemsP f).length = r.from_.length := by rw [f2, List.length_map]
    have hge := g2.1
    have hte := t2.1
    have hg4 := R0.g4
    have hs3 := R0.s3
    have hend : ∀ ver e H, e = [(1,.p (.ep [s, v, a, q])),(5,.ptr 1 0 0),(58,.p q),(59,.p (.int .i64 t.rules.length)),(60,.p (.int .i64 ((i : Int) + 1)))] → H = Hw fb (bs ++ catF (ruleX t) (t.rules.take i) ++ lineF [114, 117, 108, 101] (ruleW t r) ++ catF (guardL t r) r.guards ++ catF (stepL t r) r.steps) ver [] → ∃ k, k < t.rules.length - i ∧ iS2 s v a q t bs k e H := by
      rintro ver e H rfl rfl
      refine ⟨t.rules.length - (i + 1), by omega, i + 1, ver, rfl, ?_, by omega, rfl⟩
      rw [hcs, ruleX]
      simp only [List.append_assoc]
    have hBB : (bs ++ catF (ruleX t) (t.rules.take i) ++ lineF [114, 117, 108, 101] (ruleW t r) ++ catF (guardL t r) r.guards ++ catF (stepL t r) r.steps).length ≤ 1000000000 := by
      rw [hcs, ruleX] at hct
      simp only [List.length_append] at hB hct ⊢
      omega
    have gl := fun b1 ver hB Q hQ => guards_loop t T s v a q hPP b1 ver i t.rules.length i r R0 f g st g1 g2 hB Q hQ
    have sl := fun b1 ver hB Q hQ => steps_loop t T s v a q hPP b1 ver i t.rules.length i r R0 f g st t1 t2 hB Q hQ
    clear hcs hct hQ
    generalize bs ++ catF (ruleX t) (t.rules.take i) = b0 at *
    by_cases hf0 : r.from_ = []
    · have hrw : ruleW t r = [r.name, numT r.args] := by simp [ruleW, hf0]
      rw [hrw] at hend hBB
      have hput := put_run fb [114, 117, 108, 101] (.sl 1 true [.str r.name, .str (numT r.args)]) (.inr ⟨_, _, rfl⟩) [r.name, numT r.args] rfl b0 ver [rbx r f g st] (by simp only [List.length_append] at hBB ⊢; omega) (by simp)
      have gl := fun ver Q hQ => gl (b0 ++ lineF [114, 117, 108, 101] [r.name, numT r.args]) ver (by simp only [List.length_append] at hBB ⊢; omega) Q hQ
      have sl := fun ver Q hQ => sl (b0 ++ lineF [114, 117, 108, 101] [r.name, numT r.args] ++ catF (guardL t r) r.guards) ver hBB Q hQ
      rw [hf0] at hfe hfl f2
      generalize b0 ++ lineF [114, 117, 108, 101] [r.name, numT r.args] = b1 at *
      generalize b1 ++ catF (guardL t r) r.guards = b2 at *
      generalize b2 ++ catF (stepL t r) r.steps = b3 at *
      generalize verM _ _ = ver1 at *
      generalize hnn : numT r.args = nn at *
      simp only [Hw, fb, rbx] at hput gl sl hend ⊢
      clear hB hBB R0 T s2 a2 v2 g2 t2 q2 hPP hf0 hrw hr
      repeat' first | (with_reducible first | apply M.free | apply M.done | apply E.seqN | apply R.skip) | ((with_reducible first | apply F.move | apply F.assign); exact rfl; exact rfl) | ((with_reducible first | apply F.load | apply F.fieldAddr); (iterate 3 exact rfl)) | ((with_reducible apply F.cmp); (iterate 4 exact rfl)) | ((with_reducible apply R.regs); exact rfl) | ((with_reducible apply R.regsL); exact rfl) | ((with_reducible apply Lv.of); (focus (repeat' (first | exact Kp.nil | (apply Kp.cons; exact rfl))))) | ((with_reducible apply F.call0); exact rfl; exact rfl; (focus (repeat' (first | exact Evs.nil | (apply Evs.cons; exact rfl)))); exact rfl; (focus (first | exact hd))) | ((first | (with_reducible apply R.cond) | ((with_reducible apply M.guard); exact rfl)); (focus (first | (refine Eq.trans (look_of rfl) ?_; first | (simp only [dtX, *, hy, hgl, hfe, hge, hte, List.length_map, List.getElem?_map] <;> rfl) | exact rfl) | exact look_of rfl))) | refine imp_yes rfl ?_ | exact imp_no rfl | with_reducible apply R.seq | with_reducible apply R.block | ((first | ((with_reducible apply F.store); (iterate 4 exact rfl)) | ((with_reducible apply F.loadS); (iterate 3 exact rfl))); (focus (simp (disch := first | assumption | omega | (simp only [lnX]; omega)) only [LS, storeV, loadV, partV, partP, cut, over, mkAgg, allP, asP, V.cells, PC, elDiv, elMod, elDiv0, Nat.mul_mod_left, Int.toNat_zero, Int.reduceToNat, *, hy, hgl, hfe, hge, hte, List.length_map, List.getElem?_map] <;> rfl))) | (((with_reducible apply F.alloc); exact rfl; exact rfl); (focus (simp only [LS] <;> rfl)); (focus (simp only [LS] <;> rfl))) | (((with_reducible apply F.buildSlice); exact rfl; exact rfl; (focus (repeat' (first | exact Prs.nil | (apply Prs.cons; exact rfl))))); (focus (simp (disch := first | assumption | omega | (simp only [lnX]; omega)) only [LS, buildV, fillV, over, buildSliceV, elemsOf, appendV, elems, arrAt, cut, roomy, mkAgg, allP, asP, V.cells, PC, Int.toNat_zero, Int.reduceToNat, *, hy, hgl, hfe, hge, hte, List.length_map, List.getElem?_map] <;> rfl))) | ((first | ((with_reducible apply F.indexAddr); (iterate 4 exact rfl)) | ((with_reducible apply F.len); (iterate 3 exact rfl))); (focus (simp (disch := first | assumption | omega | (simp only [lnX]; omega)) only [LS, lenV_L, idx_L, below_at, Int.toNat_zero, Int.reduceToNat, *, hy, hgl, hfe, hge, hte, List.length_map, List.getElem?_map] <;> rfl))) | (intro hc; (try rw [hc]); (try simp only [decide_eq_true_eq, decide_eq_false_iff_not, Bool.not_eq_eq_eq_not, Bool.not_true, Bool.not_false] at hc); (try (exfalso; omega)))
      refine R.loop (fun m e H => e = [(1,.p (.ep [s, v, a, q])),(5,.ptr 1 0 0),(10,.ptr 3 0 0),(11,.p (.sl 1 true [.str r.name, .str nn])),(58,.p q),(59,.p (.int .i64 t.rules.length)),(60,.p (.int .i64 i)),(78,.p f),(79,.p (.int .i64 0)),(80,.p (.int .i64 0))] ∧ H = Hw fb b0 ver [rbx r f g st]) 0 ⟨rfl, rfl⟩ ?_
      rintro m e H ⟨rfl, rfl⟩
      try simp only [Hw, fb, rbx]
      repeat' first | (with_reducible first | apply M.free | apply M.done | apply E.seqN | apply E.seqX | apply R.exit) | ((with_reducible apply F.move); exact rfl; exact rfl) | ((with_reducible first | apply F.load | apply F.fieldAddr); (iterate 3 exact rfl)) | ((with_reducible apply F.cmp); (iterate 4 exact rfl)) | ((with_reducible apply R.regs); exact rfl) | ((with_reducible apply R.regsL); exact rfl) | ((with_reducible apply R.regsT); exact rfl) | ((with_reducible apply Cut.of); (focus (repeat' (first | exact Kp.nil | (apply Kp.cons; exact rfl)))); (focus ((try simp only [List.take_succ_cons, List.take_zero, List.take_nil, Nat.zero_add, Nat.reduceAdd]) <;> rfl)); (focus (first | exact rfl | (simp [cutOk, lowOb, lowV, lowCell, lowCell1, low_map]; done)))) | ((with_reducible apply Lv.of); (focus (repeat' (first | exact Kp.nil | (apply Kp.cons; exact rfl))))) | (((with_reducible apply F.call1); exact rfl; exact rfl; (focus (repeat' (first | exact Evs.nil | (apply Evs.cons; exact rfl))))); (focus (first | exact hput))) | ((first | (with_reducible apply R.cond) | ((with_reducible apply M.guard); exact rfl)); (focus (first | (refine Eq.trans (look_of rfl) ?_; first | (simp only [dtX, *, hy, hgl, hfe, hge, hte, List.length_map, List.getElem?_map] <;> rfl) | exact rfl) | exact look_of rfl))) | refine imp_yes rfl ?_ | exact imp_no rfl | with_reducible apply R.seq | ((with_reducible apply E.blkX); exact rfl) | with_reducible apply R.block | (((with_reducible apply F.moveF); exact rfl; exact rfl); (focus (simp (disch := first | assumption | omega | (simp only [lnX]; omega)) only [LS, frzCells, frzAt, frz, markCells, markAt, mark, elems, arrAt, cut, allP, asP, appendV, V.cells, PC, roomy, Int.toNat_zero, Int.reduceToNat, *, hy, hgl, hfe, hge, hte, List.length_map, List.getElem?_map] <;> rfl)); (focus (simp (disch := first | assumption | omega | (simp only [lnX]; omega)) only [LS, frzCells, frzAt, frz, markCells, markAt, mark, elems, arrAt, cut, allP, asP, appendV, V.cells, PC, roomy, Int.toNat_zero, Int.reduceToNat, *, hy, hgl, hfe, hge, hte, List.length_map, List.getElem?_map] <;> rfl))) | (((with_reducible apply F.len); (iterate 3 exact rfl)); (focus (simp (disch := first | assumption | omega | (simp only [lnX]; omega)) only [LS, lenV_L, idx_L, below_at, Int.toNat_zero, Int.reduceToNat, *, hy, hgl, hfe, hge, hte, List.length_map, List.getElem?_map] <;> rfl)))
      refine gl _ _ ?_
      rintro ver2 e H rfl rfl
      try simp only [Hw, fb, rbx]
      repeat' first | (with_reducible first | apply M.free | apply M.done | apply E.seqN) | ((with_reducible apply F.move); exact rfl; exact rfl) | ((with_reducible first | apply F.load | apply F.fieldAddr); (iterate 3 exact rfl)) | ((with_reducible apply R.regsL); exact rfl) | ((with_reducible apply Lv.of); (focus (repeat' (first | exact Kp.nil | (apply Kp.cons; exact rfl))))) | ((with_reducible apply E.blkX); exact rfl) | with_reducible apply R.block | (((with_reducible apply F.len); (iterate 3 exact rfl)); (focus (simp (disch := first | assumption | omega | (simp only [lnX]; omega)) only [LS, lenV_L, idx_L, below_at, Int.toNat_zero, Int.reduceToNat, *, hy, hgl, hfe, hge, hte, List.length_map, List.getElem?_map] <;> rfl)))
      refine sl _ _ ?_
      rintro ver3 e H rfl rfl
      try simp only [Hw, fb, rbx]
      repeat' first | (with_reducible first | apply M.free | apply M.done | apply E.seqN | apply E.blkN) | ((with_reducible apply F.move); exact rfl; exact rfl) | (((with_reducible apply F.add); (iterate 3 exact rfl)); (focus (first | omega | (simp only [lnX]; omega)))) | ((with_reducible apply Cut.of); (focus (repeat' (first | exact Kp.nil | (apply Kp.cons; exact rfl)))); (focus ((try simp only [List.take_succ_cons, List.take_zero, List.take_nil, Nat.zero_add, Nat.reduceAdd]) <;> rfl)); (focus (first | exact rfl | (simp [cutOk, lowOb, lowV, lowCell, lowCell1, low_map]; done)))) | ((with_reducible apply R.regionT); exact rfl) | ((with_reducible apply E.blkX); exact rfl)
      all_goals first | exact hend _ _ _ rfl rfl | trace_state
    · have hrw : ruleW t r = [r.name, numT r.args, [102, 114, 111, 109]] ++ fromW t r := by simp [ruleW, hf0]
      rw [hrw] at hend hBB
      have hfw : (fromW t r).length = r.from_.length := by simp [fromW]
      have hfp : 0 < r.from_.length := by
        cases hh : r.from_ with
        | nil => exact absurd hh hf0
        | cons _ _ => simp
      have hput := put_run fb [114, 117, 108, 101] (.sl 1 false (([r.name, numT r.args, [102, 114, 111, 109]] ++ fromW t r).map .str)) (.inr ⟨_, _, rfl⟩) ([r.name, numT r.args, [102, 114, 111, 109]] ++ fromW t r) rfl b0 ver [rbx r f g st, .arr r.from_.length (max 0 (0 + (3 + r.from_.length))) 1 ((([r.name, numT r.args, [102, 114, 111, 109]] ++ fromW t r).map Pv.str).map .p)] (by simp only [List.length_append] at hBB ⊢; omega) (by simp only [List.length_append, List.length_cons, List.length_nil]; omega)
      have gl := fun ver Q hQ => gl (b0 ++ lineF [114, 117, 108, 101] ([r.name, numT r.args, [102, 114, 111, 109]] ++ fromW t r)) ver (by simp only [List.length_append] at hBB ⊢; omega) Q hQ
      have sl := fun ver Q hQ => sl (b0 ++ lineF [114, 117, 108, 101] ([r.name, numT r.args, [102, 114, 111, 109]] ++ fromW t r) ++ catF (guardL t r) r.guards) ver hBB Q hQ
      have fl := fun Q hQ => from_loop t T s v a q hPP fb (rbx r f g st) b0 ver i t.rules.length r f f1 f2 R0.from_ (by omega) [r.name, numT r.args, [102, 114, 111, 109]] (by simp) (by simp) Q hQ
      have hcut : cut ((([r.name, numT r.args, [102, 114, 111, 109]] ++ fromW t r).map Pv.str).map V.p) 0 (3 + r.from_.length) = some ((([r.name, numT r.args, [102, 114, 111, 109]] ++ fromW t r).map Pv.str).map V.p) := cut_all (by simp only [List.length_map, List.length_append, List.length_cons, List.length_nil]; omega)
      have hfz : ∀ o1 o2 o3 o4 : Ob, frzCells [o1, o2, o3, o4, .arr r.from_.length 0 1 ((([r.name, numT r.args, [102, 114, 111, 109]] ++ fromW t r).map Pv.str).map .p)] (.arr 4 r.from_.length 1 0 (3 + r.from_.length)) = .p (.sl 1 false (([r.name, numT r.args, [102, 114, 111, 109]] ++ fromW t r).map .str)) := fun _ _ _ _ => frz_arr rfl hcut
      have hmk : ∀ o1 o2 o3 o4 : Ob, markCells [o1, o2, o3, o4, .arr r.from_.length 0 1 ((([r.name, numT r.args, [102, 114, 111, 109]] ++ fromW t r).map Pv.str).map .p)] (.arr 4 r.from_.length 1 0 (3 + r.from_.length)) = [o1, o2, o3, o4, .arr r.from_.length (max 0 (0 + (3 + r.from_.length))) 1 ((([r.name, numT r.args, [102, 114, 111, 109]] ++ fromW t r).map Pv.str).map .p)] := fun _ _ _ _ => mark_arr rfl
      generalize b0 ++ lineF [114, 117, 108, 101] _ = b1 at *
      generalize b1 ++ catF (guardL t r) r.guards = b2 at *
      generalize b2 ++ catF (stepL t r) r.steps = b3 at *
      generalize verM _ _ = ver1 at *
      generalize hcl : (([r.name, numT r.args, [102, 114, 111, 109]] ++ fromW t r).map Pv.str).map V.p = cells at *
      generalize hcl2 : (([r.name, numT r.args, [102, 114, 111, 109]] ++ fromW t r).map Pv.str) = words at *
      generalize hnn : numT r.args = nn at *
      simp only [Hw, fb, rbx] at hput gl sl fl hend ⊢
      clear hB hBB R0 T s2 a2 v2 g2 t2 q2 hPP hf0 hrw hr hcut hcl hcl2 hfw f2
      generalize hfn : r.from_.length = fn at *
      repeat' first | (with_reducible first | apply M.free | apply M.done | apply E.seqN | apply R.skip) | ((with_reducible first | apply F.move | apply F.assign); exact rfl; exact rfl) | ((with_reducible first | apply F.load | apply F.fieldAddr); (iterate 3 exact rfl)) | ((with_reducible apply F.cmp); (iterate 4 exact rfl)) | ((with_reducible apply R.regs); exact rfl) | ((with_reducible apply R.regsL); exact rfl) | ((with_reducible apply Lv.of); (focus (repeat' (first | exact Kp.nil | (apply Kp.cons; exact rfl))))) | ((with_reducible apply F.call0); exact rfl; exact rfl; (focus (repeat' (first | exact Evs.nil | (apply Evs.cons; exact rfl)))); exact rfl; (focus (first | exact hd))) | ((first | (with_reducible apply R.cond) | ((with_reducible apply M.guard); exact rfl)); (focus (first | (refine Eq.trans (look_of rfl) ?_; first | (simp only [dtX, *, hy, hgl, hfe, hge, hte, List.length_map, List.getElem?_map] <;> rfl) | exact rfl) | exact look_of rfl))) | with_reducible apply R.seq | ((with_reducible apply R.region); exact rfl) | with_reducible apply R.block | ((first | ((with_reducible apply F.store); (iterate 4 exact rfl)) | ((with_reducible apply F.loadS); (iterate 3 exact rfl))); (focus (simp (disch := first | assumption | omega | (simp only [lnX]; omega)) only [LS, storeV, loadV, partV, partP, cut, over, mkAgg, allP, asP, V.cells, PC, elDiv, elMod, elDiv0, Nat.mul_mod_left, Int.toNat_zero, Int.reduceToNat, *, hy, hgl, hfe, hge, hte, List.length_map, List.getElem?_map] <;> rfl))) | (((with_reducible apply F.alloc); exact rfl; exact rfl); (focus (simp only [LS] <;> rfl)); (focus (simp only [LS] <;> rfl))) | ((first | ((with_reducible apply F.buildSlice); exact rfl; exact rfl; (focus (repeat' (first | exact Prs.nil | (apply Prs.cons; exact rfl))))) | ((with_reducible apply F.append); (iterate 8 exact rfl))); (focus (simp (disch := first | assumption | omega | (simp only [lnX]; omega)) only [LS, buildV, fillV, over, buildSliceV, elemsOf, appendV, elems, arrAt, cut, roomy, mkAgg, allP, asP, V.cells, PC, Int.toNat_zero, Int.reduceToNat, *, hy, hgl, hfe, hge, hte, List.length_map, List.getElem?_map] <;> rfl))) | ((first | ((with_reducible apply F.indexAddr); (iterate 4 exact rfl)) | ((with_reducible apply F.len); (iterate 3 exact rfl))); (focus (simp (disch := first | assumption | omega | (simp only [lnX]; omega)) only [LS, lenV_L, idx_L, below_at, Int.toNat_zero, Int.reduceToNat, *, hy, hgl, hfe, hge, hte, List.length_map, List.getElem?_map] <;> rfl))) | (intro hc; (try rw [hc]); (try simp only [decide_eq_true_eq, decide_eq_false_iff_not, Bool.not_eq_eq_eq_not, Bool.not_true, Bool.not_false] at hc); (try (exfalso; omega)))
      refine fl _ ?_
      rintro e H rfl rfl
      repeat' first | (with_reducible first | apply M.free | apply M.done | apply E.seqN) | ((with_reducible apply F.move); exact rfl; exact rfl) | ((with_reducible first | apply F.load | apply F.fieldAddr); (iterate 3 exact rfl)) | ((with_reducible apply R.regsL); exact rfl) | ((with_reducible apply R.regsT); exact rfl) | ((with_reducible apply Cut.of); (focus (repeat' (first | exact Kp.nil | (apply Kp.cons; exact rfl)))); (focus ((try simp only [List.take_succ_cons, List.take_zero, List.take_nil, Nat.zero_add, Nat.reduceAdd]) <;> rfl)); (focus (first | exact rfl | (simp [cutOk, lowOb, lowV, lowCell, lowCell1, low_map]; done)))) | ((with_reducible apply Lv.of); (focus (repeat' (first | exact Kp.nil | (apply Kp.cons; exact rfl))))) | (((with_reducible apply F.call1); exact rfl; exact rfl; (focus (repeat' (first | exact Evs.nil | (apply Evs.cons; exact rfl))))); (focus (first | exact hput))) | with_reducible apply R.seq | ((with_reducible apply E.blkX); exact rfl) | with_reducible apply R.block | ((with_reducible apply F.moveF); exact rfl; exact rfl; (focus (exact hfz _ _ _ _)); (focus (exact hmk _ _ _ _))) | (((with_reducible apply F.len); (iterate 3 exact rfl)); (focus (simp (disch := first | assumption | omega | (simp only [lnX]; omega)) only [LS, lenV_L, idx_L, below_at, Int.toNat_zero, Int.reduceToNat, *, hy, hgl, hfe, hge, hte, List.length_map, List.getElem?_map] <;> rfl)))
      refine gl _ _ ?_
      rintro ver2 e H rfl rfl
      try simp only [Hw, fb, rbx]
      repeat' first | (with_reducible first | apply M.free | apply M.done | apply E.seqN) | ((with_reducible apply F.move); exact rfl; exact rfl) | ((with_reducible first | apply F.load | apply F.fieldAddr); (iterate 3 exact rfl)) | ((with_reducible apply R.regsL); exact rfl) | ((with_reducible apply Lv.of); (focus (repeat' (first | exact Kp.nil | (apply Kp.cons; exact rfl))))) | ((with_reducible apply E.blkX); exact rfl) | with_reducible apply R.block | (((with_reducible apply F.len); (iterate 3 exact rfl)); (focus (simp (disch := first | assumption | omega | (simp only [lnX]; omega)) only [LS, lenV_L, idx_L, below_at, Int.toNat_zero, Int.reduceToNat, *, hy, hgl, hfe, hge, hte, List.length_map, List.getElem?_map] <;> rfl)))
      refine sl _ _ ?_
      rintro ver3 e H rfl rfl
      try simp only [Hw, fb, rbx]
      repeat' first | (with_reducible first | apply M.free | apply M.done | apply E.seqN | apply E.blkN) | ((with_reducible apply F.move); exact rfl; exact rfl) | (((with_reducible apply F.add); (iterate 3 exact rfl)); (focus (first | omega | (simp only [lnX]; omega)))) | ((with_reducible apply Cut.of); (focus (repeat' (first | exact Kp.nil | (apply Kp.cons; exact rfl)))); (focus ((try simp only [List.take_succ_cons, List.take_zero, List.take_nil, Nat.zero_add, Nat.reduceAdd]) <;> rfl)); (focus (first | exact rfl | (simp [cutOk, lowOb, lowV, lowCell, lowCell1, low_map]; done)))) | ((with_reducible apply R.regionT); exact rfl) | ((with_reducible apply E.blkX); exact rfl)
      all_goals first | exact hend _ _ _ rfl rfl | trace_state
theorem rulesG_e (t : Tb) : ∀ (l : List Rl) (n : Nat), rulesG t n l = (0, 0, 0, 0) ∨ (rulesG t n l).1 ≠ 0
  | [], n => .inl rfl
  | r :: l, n => by
    rw [rulesG]
    split
    · exact rulesG_e t l (n + 1)
    · rename_i h
      rcases ruleF_e t n r with h1 | h1
      · exact absurd h1 h
      · exact .inr h1
theorem checkT_e (t : Tb) : checkT t = (0, 0, 0, 0) ∨ (checkT t).1 ≠ 0 := by
  unfold checkT
  split
  · exact rulesG_e t _ _
  · rename_i h
    rcases tableF_e t with h1 | h1
    · exact absurd h1 h
    · exact .inr h1
def showT (t : Tb) : List UInt8 := lineF [115, 116, 97, 116, 101, 115] t.states ++ lineF [118, 97, 114, 115] (varsT t) ++ catF (ruleX t) t.rules
def tshowF (t : Tb) : List UInt8 × Int := if (checkT t).1 = 0 then (showT t, 0) else ([], (checkT t).1)
theorem cat_len {α : Type} (f : α → List UInt8) (B : Nat) : ∀ (l : List α), (∀ x ∈ l, (f x).length ≤ B) → (catF f l).length ≤ l.length * B
  | [], _ => by simp [catF]
  | x :: l, h => by
    have h1 := h x (by simp)
    have h2 := cat_len f B l (fun y hy => h y (by simp [hy]))
    simp only [catF, List.map_cons, List.flatten_cons, List.length_append, List.length_cons, Nat.add_mul] at *
    omega
theorem lineF_len (a : List UInt8) (l : List (List UInt8)) (B : Nat) (h : ∀ x ∈ l, x.length ≤ B) : (lineF a l).length ≤ a.length + l.length * (B + 1) + 1 := by
  have := cat_len (fun s => 32 :: s) (B + 1) l (fun x hx => by have := h x hx; simp only [List.length_cons]; omega)
  simp only [catF] at this
  simp only [lineF, moreF, List.length_append, List.length_cons, List.length_nil]
  omega
theorem names_24 {l : List (List UInt8)} (h : Named l) : ∀ v ∈ l, v.length ≤ 24 := by
  intro v hv
  obtain ⟨i, hi⟩ := List.mem_iff_getElem?.1 hv
  exact rname_big v (h i v hi).1
theorem mul_le (a b c : Nat) (h : a ≤ b) : a * c ≤ b * c := Nat.mul_le_mul_right c h
theorem ruleX_len {t : Tb} (T : TbOK t) {k : Nat} {r : Rl} (R0 : RlOK t k r) : (ruleX t r).length ≤ 20000 := by
  have hr := R0.args
  have h1 := lineF_len [114, 117, 108, 101] (ruleW t r) 24 (by
    intro x hx
    simp only [ruleW, List.mem_append, List.mem_cons, List.not_mem_nil, or_false] at hx
    rcases hx with (rfl | rfl) | hx
    · exact rname_big r.name R0.name
    · have := numT_len (n := r.args) (by omega) (by omega)
      omega
    · split at hx
      · simp at hx
      · rcases List.mem_cons.1 hx with rfl | hx
        · simp
        · obtain ⟨y, _, rfl⟩ := List.mem_map.1 hx
          exact name_at T.sn _)
  have h2 : (ruleW t r).length ≤ 11 := by
    have := from_len T R0
    simp only [ruleW]
    split <;> simp [fromW] <;> omega
  have h3 := cat_len (guardL t r) 800 r.guards (by
    intro g hg
    have hc := R0.code g hg
    have := numT_len (n := g.code) (by omega) (by omega)
    have := expr_len T.vn (by omega) (R0.test g hg)
    simp only [guardL, lineF, moreF, List.map_cons, List.map_nil, List.flatten_cons, List.flatten_nil, List.length_append, List.length_cons, List.length_nil]
    omega)
  have h4 := cat_len (stepL t r) 5010 r.steps (by
    intro s hs
    have := step_len T (by omega) (R0.steps s hs)
    simp only [stepL, lineF, moreF, List.map_cons, List.map_nil, List.flatten_cons, List.flatten_nil, List.length_append, List.length_cons, List.length_nil]
    omega)
  have := R0.g4
  have := R0.s3
  have := mul_le _ 11 (24 + 1) h2
  have := mul_le _ 4 800 R0.g4
  have := mul_le _ 3 5010 R0.s3
  simp only [ruleX, List.length_append, List.length_cons, List.length_nil] at *
  omega
theorem showT_len {t : Tb} (T : TbOK t) : (showT t).length ≤ 300000 := by
  have h1 := lineF_len [115, 116, 97, 116, 101, 115] t.states 24 (names_24 T.sn)
  have h2 := lineF_len [118, 97, 114, 115] (varsT t) 50 (by
    intro x hx
    obtain ⟨i, hi⟩ := List.mem_iff_getElem?.1 hx
    have hil : i < (varsT t).length := (List.getElem?_eq_some_iff.1 hi).1
    have := varsT_len T
    obtain ⟨w, hw⟩ := at_some (show i < t.vars.length by omega)
    obtain ⟨n, hn⟩ := at_some (show i < t.start.length by have := T.sl; omega)
    rw [varsT_at hw hn] at hi
    cases hi
    have := names_24 T.vn w (List.mem_of_getElem? hw)
    have hb := T.sv n (List.mem_of_getElem? hn)
    have := numT_len (n := n) (by omega) (by omega)
    simp only [List.length_append, List.length_cons, List.length_nil]
    omega)
  have h3 := cat_len (ruleX t) 20000 t.rules (by
    intro r hr
    obtain ⟨i, hi⟩ := List.mem_iff_getElem?.1 hr
    exact ruleX_len T (T.rules i r hi))
  have := mul_le _ 8 25 T.s8
  have := mul_le _ 12 20000 T.r12
  have := varsT_len T
  have := T.v6
  have := mul_le (varsT t).length 6 51 (by omega)
  simp only [showT, List.length_append, List.length_cons, List.length_nil] at *
  omega
theorem bytes_to : ∀ (s : List UInt8), bytesOf (toBytes s) = some s
  | [] => rfl
  | b :: s => by
    have h := bytes_to s
    simp only [toBytes, List.map_cons, bytesOf] at h ⊢
    rw [h]
    simp
theorem tshow_run (t : Tb) (hB : TbB t) (s v a q : Pv) (P : TbP s v a q t) : PV cx 16 [.p (.agg [s, v, a, q])] (.tup [.str (tshowF t).1, .int .i64 (tshowF t).2]) := by
  have hc := (tcheck_run t hB s v a q P).fv
  refine PV.run cxF16 rfl ?_
  simp only [args0, Nat.zero_add, Nat.reduceAdd]
  rcases checkT_e t with h0 | h0
  · have hr : tshowF t = (showT t, 0) := by rw [tshowF, if_pos (by rw [h0])]
    have T := checkT_ok (t := t) (by rw [h0])
    have hlen := showT_len T
    have rl := fun b ver hB Q hQ => rules_loop t T s v a q P b ver hB Q hQ
    have vl := fun b ver Q hQ => vars_loop t T s v a q P fb b ver Q hQ
    have hp1 := put_first fb [115, 116, 97, 116, 101, 115] (by simp) s P.s1 t.states P.s2 (by simp only [showT, List.length_append] at hlen ⊢; omega) (by have := T.s8; omega)
    have hp2 := fun ver => put_run fb [118, 97, 114, 115] (wfz (varsT t)) (wfz_is _) (varsT t) (wfz_el _) (lineF [115, 116, 97, 116, 101, 115] t.states) ver (wmk (varsT t)) (by simp only [showT, List.length_append] at hlen ⊢; omega) (by have := varsT_len T; have := T.v6; omega)
    have rl := fun ver Q hQ => rl (lineF [115, 116, 97, 116, 101, 115] t.states ++ lineF [118, 97, 114, 115] (varsT t)) ver (by simp only [showT, List.length_append] at hlen ⊢; omega) Q hQ
    have hfz : ∀ o1 o2 o3 : Ob, frzCells (o1 :: o2 :: o3 :: wob (varsT t)) (wsl 3 (varsT t)) = .p (wfz (varsT t)) := fun o1 o2 o3 => wsl_frz [o1, o2, o3] 3 rfl _
    have hmk : ∀ o1 o2 o3 : Ob, markCells (o1 :: o2 :: o3 :: wob (varsT t)) (wsl 3 (varsT t)) = o1 :: o2 :: o3 :: wmk (varsT t) := fun o1 o2 o3 => wsl_mark [o1, o2, o3] 3 rfl _
    have hvl : (elemsP v).length = t.vars.length := by rw [P.v2, List.length_map]
    have hql := P.q2.1
    have s1 := P.s1
    have v1 := P.v1
    have q1 := P.q1
    have v6 := T.v6
    have r12 := T.r12
    rw [hr]
    rw [h0, fltP] at hc
    rw [showT] at hlen ⊢
    clear h0 hr
    generalize lineF [115, 116, 97, 116, 101, 115] t.states = b1 at *
    generalize b1 ++ lineF [118, 97, 114, 115] _ = b2 at *
    generalize b2 ++ catF _ _ = b3 at *
    generalize verM 0 t.states = ver1 at *
    generalize varsT t = vt at *
    simp only [Hw, fb] at hp1 hp2 rl vl ⊢
    clear hB P T
    repeat' first | (with_reducible first | apply M.free | apply M.done | apply E.seqN | apply R.skip) | ((with_reducible first | apply F.move | apply F.assign); exact rfl; exact rfl) | ((with_reducible first | apply F.load | apply F.fieldAddr); (iterate 3 exact rfl)) | ((with_reducible apply F.cmp); (iterate 4 exact rfl)) | ((with_reducible apply R.regs); exact rfl) | ((with_reducible apply R.regsL); exact rfl) | ((with_reducible apply Lv.of); (focus (repeat' (first | exact Kp.nil | (apply Kp.cons; exact rfl))))) | ((with_reducible apply F.call0); exact rfl; exact rfl; (focus (repeat' (first | exact Evs.nil | (apply Evs.cons; exact rfl)))); exact rfl; (focus (first | exact hc))) | (((with_reducible apply F.call1); exact rfl; exact rfl; (focus (repeat' (first | exact Evs.nil | (apply Evs.cons; exact rfl))))); (focus (first | exact hp1 | exact hp2 _))) | ((first | (with_reducible apply R.cond) | ((with_reducible apply M.guard); exact rfl)); (focus (first | (refine Eq.trans (look_of rfl) ?_; first | (simp only [dtX, *, hvl, hql] <;> rfl) | exact rfl) | exact look_of rfl))) | refine imp_yes rfl ?_ | exact imp_no rfl | with_reducible apply R.seq | with_reducible apply R.block | ((first | ((with_reducible apply F.store); (iterate 4 exact rfl)) | ((with_reducible apply F.loadS); (iterate 3 exact rfl))); (focus (simp (disch := first | assumption | omega | (simp only [lnX]; omega)) only [LS, storeV, loadV, partV, partP, cut, over, mkAgg, allP, asP, V.cells, PC, elDiv, elMod, elDiv0, Nat.mul_mod_left, Int.toNat_zero, Int.reduceToNat, *, hvl, hql] <;> rfl))) | (((with_reducible apply F.alloc); exact rfl; exact rfl); (focus (simp only [LS] <;> rfl)); (focus (simp only [LS] <;> rfl))) | (((with_reducible apply F.box); (iterate 3 exact rfl)); (focus (simp (disch := first | assumption | omega | (simp only [lnX]; omega)) only [LS, storeV, loadV, partV, partP, cut, over, mkAgg, allP, asP, V.cells, PC, elDiv, elMod, elDiv0, Nat.mul_mod_left, Int.toNat_zero, Int.reduceToNat, *, hvl, hql] <;> rfl)); exact rfl; (focus (simp only [LS] <;> rfl)); (focus (simp only [LS] <;> rfl))) | (((with_reducible apply F.boxE); (iterate 3 exact rfl)); (focus (simp (disch := first | assumption | omega | (simp only [lnX]; omega)) only [LS, storeV, loadV, partV, partP, cut, over, mkAgg, allP, asP, V.cells, PC, elDiv, elMod, elDiv0, Nat.mul_mod_left, Int.toNat_zero, Int.reduceToNat, *, hvl, hql] <;> rfl)); exact rfl; (focus (simp only [evOf, allP, asP] <;> rfl))) | (((with_reducible apply F.build); exact rfl; exact rfl; (focus (repeat' (first | exact Prs.nil | (apply Prs.cons; exact rfl))))); (focus (simp (disch := first | assumption | omega | (simp only [lnX]; omega)) only [LS, buildV, fillV, over, buildSliceV, elemsOf, appendV, elems, arrAt, cut, roomy, mkAgg, allP, asP, V.cells, PC, Int.toNat_zero, Int.reduceToNat, *, hvl, hql] <;> rfl))) | (((with_reducible apply F.len); (iterate 3 exact rfl)); (focus (simp (disch := first | assumption | omega | (simp only [lnX]; omega)) only [LS, lenV_L, idx_L, below_at, Int.toNat_zero, Int.reduceToNat, *, hvl, hql] <;> rfl))) | (((with_reducible apply F.fieldAddrS); (iterate 3 exact rfl)); (focus (simp (disch := first | assumption | omega | (simp only [lnX]; omega)) only [LS, indexAddrV, indexV, below_at, fieldV, fieldAddrV, convP, bytesOf, sliceV, bounds, bMax, bHi, bLo, upTo_at, makeFuncV, partV, partP, cut, binI, binS, binV, binP, arith, strOp_add, strOp_eql, strOp_neq, eqn, wrap64, wrap8, mkAgg, allP, asP, Option.getD_none, Int.toNat_zero, Int.reduceToNat, *, hvl, hql] <;> rfl))) | refine R.regs rfl ?_
    refine vl _ _ _ ?_
    rintro e H rfl rfl
    generalize wsl 3 vt = w3 at *
    generalize wob vt = o3 at *
    repeat' first | (with_reducible first | apply M.free | apply M.done | apply E.seqN) | ((with_reducible apply F.move); exact rfl; exact rfl) | ((with_reducible apply F.load); (iterate 3 exact rfl)) | ((with_reducible apply R.regsL); exact rfl) | ((with_reducible apply R.regsT); exact rfl) | ((with_reducible apply Cut.of); (focus (repeat' (first | exact Kp.nil | (apply Kp.cons; exact rfl)))); (focus ((try simp only [List.take_succ_cons, List.take_zero, List.take_nil, Nat.zero_add, Nat.reduceAdd]) <;> rfl)); (focus (first | exact rfl | (simp [cutOk, lowOb, lowV, lowCell, lowCell1, low_map]; done)))) | ((with_reducible apply Lv.of); (focus (repeat' (first | exact Kp.nil | (apply Kp.cons; exact rfl))))) | (((with_reducible apply F.call1); exact rfl; exact rfl; (focus (repeat' (first | exact Evs.nil | (apply Evs.cons; exact rfl))))); (focus (first | exact hp1 | exact hp2 _))) | with_reducible apply R.seq | ((with_reducible apply E.blkX); exact rfl) | with_reducible apply R.block | ((with_reducible apply F.moveF); exact rfl; exact rfl; (focus (exact hfz _ _ _)); (focus (exact hmk _ _ _))) | (((with_reducible apply F.len); (iterate 3 exact rfl)); (focus (simp (disch := first | assumption | omega | (simp only [lnX]; omega)) only [LS, lenV_L, idx_L, below_at, Int.toNat_zero, Int.reduceToNat, *, hvl, hql] <;> rfl))) | (((with_reducible apply F.fieldAddrS); (iterate 3 exact rfl)); (focus (simp (disch := first | assumption | omega | (simp only [lnX]; omega)) only [LS, indexAddrV, indexV, below_at, fieldV, fieldAddrV, convP, bytesOf, sliceV, bounds, bMax, bHi, bLo, upTo_at, makeFuncV, partV, partP, cut, binI, binS, binV, binP, arith, strOp_add, strOp_eql, strOp_neq, eqn, wrap64, wrap8, mkAgg, allP, asP, Option.getD_none, Int.toNat_zero, Int.reduceToNat, *, hvl, hql] <;> rfl)))
    refine rl _ _ ?_
    rintro ver e H rfl rfl
    have hcut : cut (byt b3) 0 b3.length = some ((toBytes b3).map .p) := cut_all (l := byt b3) (byt_len b3).symm
    have hb3 := bytes_to b3
    generalize toBytes b3 = bb at *
    repeat' first | (with_reducible first | apply M.free | apply M.done | apply E.seqN | apply R.ret) | ((with_reducible first | apply F.move | apply F.assign); exact rfl; exact rfl) | ((with_reducible first | apply F.load | apply F.fieldAddr | apply F.nilCheck); (iterate 3 exact rfl)) | ((with_reducible apply R.regs); exact rfl) | ((with_reducible apply E.blkX); exact rfl) | ((with_reducible apply F.convertF); (iterate 4 exact rfl); (focus (exact frz_arr rfl hcut)); (focus (exact mark_arr rfl)); (focus (exact congrArg (Option.map Pv.str) hb3))) | (((with_reducible apply E.rP2); exact rfl; exact rfl; (focus (exact look_of rfl)); (focus (exact look_of rfl)))) | exact rfl
    all_goals trace_state
  · have hr : tshowF t = ([], (checkT t).1) := by rw [tshowF, if_neg h0]
    rw [hr]
    generalize checkT t = r at *
    obtain ⟨r1, r2, r3, r4⟩ := r
    simp only [fltP] at hc h0 ⊢
    clear hB P hr
    repeat' first | (with_reducible first | apply M.free | apply M.done | apply E.seqR | apply R.ret) | ((with_reducible first | apply F.load | apply F.fieldAddr); (iterate 3 exact rfl)) | ((with_reducible apply F.cmp); (iterate 4 exact rfl)) | ((with_reducible apply F.assign); exact rfl; exact rfl) | ((with_reducible apply R.regs); exact rfl) | ((with_reducible apply F.call0); exact rfl; exact rfl; (focus (repeat' (first | exact Evs.nil | (apply Evs.cons; exact rfl)))); exact rfl; (focus (first | exact hc))) | ((first | (with_reducible apply R.cond) | ((with_reducible apply M.guard); exact rfl)); (focus (first | (refine Eq.trans (look_of rfl) ?_; first | (simp only [dtX, *] <;> rfl) | exact rfl) | exact look_of rfl))) | refine imp_yes rfl ?_ | exact imp_no rfl | with_reducible apply R.seq | ((first | ((with_reducible apply F.store); (iterate 4 exact rfl)) | ((with_reducible apply F.loadS); (iterate 3 exact rfl))); (focus (simp (disch := first | assumption | omega | (simp only [lnX]; omega)) only [LS, storeV, loadV, partV, partP, cut, over, mkAgg, allP, asP, V.cells, PC, elDiv, elMod, elDiv0, Nat.mul_mod_left, Int.toNat_zero, Int.reduceToNat, *] <;> rfl))) | (((with_reducible apply F.alloc); exact rfl; exact rfl); (focus (simp only [LS] <;> rfl)); (focus (simp only [LS] <;> rfl))) | (((with_reducible apply F.boxE); (iterate 3 exact rfl)); (focus (simp (disch := first | assumption | omega | (simp only [lnX]; omega)) only [LS, storeV, loadV, partV, partP, cut, over, mkAgg, allP, asP, V.cells, PC, elDiv, elMod, elDiv0, Nat.mul_mod_left, Int.toNat_zero, Int.reduceToNat, *] <;> rfl)); exact rfl; (focus (simp only [evOf, allP, asP] <;> rfl))) | (((with_reducible apply E.rP2); exact rfl; exact rfl; (focus (exact look_of rfl)); (focus (exact look_of rfl)))) | refine R.regs rfl ?_ | exact rfl
noncomputable def fi19 : FnI := { body := (Tryd.f19.body).getD .skip, ntmps := 205, results := Tryd.f19.results.toList, hints := [(0, { ops := [(0, 2)] }), (2, { live := some [1, 3, 4] }), (4, { live := some [1, 3, 4] }), (7, { live := some [1, 3, 5] }), (9, { live := some [1, 3, 5] }), (15, { live := some [1, 3, 7] }), (17, { live := some [1, 3, 7], trunc := some 0 }), (20, { live := some [1, 3, 7, 8, 9] }), (22, { live := some [1, 3, 7, 8, 9] }), (27, { live := some [1, 3, 7, 8, 10] }), (29, { live := some [1, 3, 7, 8, 10] }), (31, { live := some [1, 3, 7, 8, 11] }), (33, { live := some [1, 3, 7, 8, 11], trunc := some 1 }), (39, { live := some [1, 3, 7, 8, 11, 12, 13] }), (41, { live := some [1, 3, 7, 8, 11, 12, 13] })] }
theorem cxF19 : cx.F 19 = some fi19 := by kernel_rfl
noncomputable def cW0 : Code := match fi19.body with | .seq _ (.seq _ (.seq (.seq _ (.block _ b)) _)) => b | c => c
noncomputable def cW2 : Code := match fi19.body with | .seq _ (.seq _ (.seq _ (.seq _ (.seq (.seq _ (.block _ b)) _)))) => b | c => c
noncomputable def cW4 : Code := match fi19.body with | .seq _ (.seq _ (.seq _ (.seq _ (.seq _ (.seq _ (.seq (.seq _ (.block _ b)) _)))))) => b | c => c
noncomputable def cW5 : Code := match cW4 with | .loop (.seq _ (.seq (.block _ b) _)) => b | c => c
noncomputable def cW6 : Code := match cW5 with | .seq _ (.seq _ (.seq (.seq _ (.block _ b)) _)) => b | c => c
noncomputable def cW8 : Code := match cW5 with | .seq _ (.seq _ (.seq _ (.seq _ (.seq (.seq _ (.block _ b)) _)))) => b | c => c
noncomputable def cW10 : Code := match cW5 with | .seq _ (.seq _ (.seq _ (.seq _ (.seq _ (.seq _ (.block _ b)))))) => b | c => c
noncomputable def cW11 : Code := match cW10 with | .loop (.seq _ (.seq (.block _ b) _)) => b | c => c
noncomputable def cW12 : Code := match cW11 with | .seq _ (.seq _ (.seq _ (.seq (.seq _ (.block _ b)) _))) => b | c => c
def jW0 (p : Pv) (l : List (List UInt8)) (o : List UInt8) (m : Nat) (e : Env) (H : Hp) : Prop := ∃ i : Nat, e = [(1,.p p),(3,.p (.str (o ++ moreF (l.take i)))),(4,.p (.int .i64 i))] ∧ H = [] ∧ i ≤ l.length ∧ m = l.length - i
theorem w0_loop (t : Tb) (T : TbOK t) (s v a q : Pv) (P : TbP s v a q t) (o : List UInt8) (hB : (o ++ moreF t.states).length ≤ 1000000000) (Q : Qt)
    (hQ : ∀ y e H, e = [(18,.p (.bool false)),(17,.p (.int .i64 t.states.length)),(16,.p s),(15,y),(14,.p (.int .i64 t.states.length)),(1,.p (.ep [s, v, a, q])),(3,.p (.str (o ++ moreF t.states))),(4,.p (.int .i64 t.states.length))] → H = [] → E Q (.exit 0) e H) :
    R cx fi19 0 cW0 [(1,.p (.ep [s, v, a, q])),(3,.p (.str o)),(4,.p (.int .i64 0))] [] Q := by
  have cxq := cxF19
  refine R.loop (jW0 (.ep [s, v, a, q]) t.states o) t.states.length ⟨0, by simp [moreF], rfl, by omega, by omega⟩ ?_
  rintro m e H ⟨i, rfl, rfl, h1, rfl⟩
  obtain ⟨s1, s2, v1, v2, a1, a2, q1, q2⟩ := P
  have hsl : (elemsP s).length = t.states.length := by rw [s2, List.length_map]
  have h8 := T.s8
  by_cases hi : i = t.states.length
  · subst hi
    rw [List.take_length]
    have hq := fun y => show E (seqQ (fun e H => ∃ k, k < t.states.length - t.states.length ∧ jW0 (.ep [s, v, a, q]) t.states o k e H) Q) (.exit 0) _ _ from ⟨(hQ y _ _ rfl rfl).out⟩
    clear hQ T h1 s2 v2 a2 q2
    generalize (seqQ (fun e H => ∃ k, k < t.states.length - t.states.length ∧ jW0 (.ep [s, v, a, q]) t.states o k e H) Q) = QQ at *
    generalize o ++ moreF t.states = o1 at *
    repeat' first | (with_reducible first | apply M.free | apply M.done | apply E.seqX | apply R.exit) | ((with_reducible apply F.move); exact rfl; exact rfl) | ((with_reducible apply F.load); (iterate 3 exact rfl)) | ((with_reducible apply F.cmp); (iterate 4 exact rfl)) | ((with_reducible apply R.regs); exact rfl) | ((first | (with_reducible apply R.cond) | ((with_reducible apply M.guard); exact rfl)); (focus (first | (refine Eq.trans (look_of rfl) ?_; first | (simp only [dtX, *, hsl] <;> rfl) | exact rfl) | exact look_of rfl))) | with_reducible apply R.seq | (((with_reducible apply F.len); (iterate 3 exact rfl)); (focus (simp (disch := first | assumption | omega | (simp only [lnX]; omega)) only [LS, lenV_L, idx_L, below_at, Int.toNat_zero, Int.reduceToNat, *, hsl] <;> rfl))) | (((with_reducible apply F.fieldAddrS); (iterate 3 exact rfl)); (focus (simp (disch := first | assumption | omega | (simp only [lnX]; omega)) only [LS, indexAddrV, indexV, below_at, fieldV, fieldAddrV, convP, bytesOf, sliceV, bounds, bMax, bHi, bLo, upTo_at, makeFuncV, partV, partP, cut, binI, binS, binV, binP, arith, strOp_add, strOp_eql, strOp_neq, eqn, wrap64, wrap8, mkAgg, allP, asP, Option.getD_none, Int.toNat_zero, Int.reduceToNat, *, hsl] <;> rfl))) | (intro hc; (try rw [hc]); (try simp only [decide_eq_true_eq, decide_eq_false_iff_not, Bool.not_eq_eq_eq_not, Bool.not_true, Bool.not_false] at hc); (try (exfalso; omega)))
    all_goals exact hq _
  · obtain ⟨w, hw⟩ := at_some (show i < t.states.length by omega)
    have hms := more_step hw
    have hml := more_len t.states (i + 1)
    have hend : ∀ e H, e = [(1,.p (.ep [s, v, a, q])),(3,.p (.str (o ++ moreF (t.states.take (i + 1))))),(4,.p (.int .i64 ((i : Int) + 1)))] → H = [] → ∃ k, k < t.states.length - i ∧ jW0 (.ep [s, v, a, q]) t.states o k e H := by
      rintro e H rfl rfl
      exact ⟨t.states.length - (i + 1), by omega, i + 1, rfl, rfl, by omega, rfl⟩
    rw [hms] at hend hml
    simp only [List.length_append, List.length_cons, List.length_nil] at hB hml
    generalize moreF (t.states.take i) = o1 at *
    clear hQ T hms
    repeat' first | (with_reducible first | apply M.free | apply M.done | apply E.seqN | apply E.blkN | apply R.skip) | ((with_reducible first | apply F.move | apply F.assign); exact rfl; exact rfl) | ((with_reducible apply F.load); (iterate 3 exact rfl)) | ((with_reducible apply F.cmp); (iterate 4 exact rfl)) | ((first | ((with_reducible apply F.add); (iterate 3 exact rfl)) | ((with_reducible apply F.adds); (iterate 3 exact rfl))); (focus (first | omega | (simp only [lnX]; omega)))) | ((with_reducible apply R.regs); exact rfl) | ((with_reducible apply Lv.of); (focus (repeat' (first | exact Kp.nil | (apply Kp.cons; exact rfl))))) | ((first | (with_reducible apply R.cond) | ((with_reducible apply M.guard); exact rfl)); (focus (first | (refine Eq.trans (look_of rfl) ?_; first | (simp only [dtX, *, hsl, s2, hw, List.length_map, List.getElem?_map] <;> rfl) | exact rfl) | exact look_of rfl))) | with_reducible apply R.seq | ((with_reducible apply R.region); exact rfl) | ((with_reducible apply R.regionL); exact rfl) | with_reducible apply R.block | ((first | ((with_reducible apply F.indexAddr); (iterate 4 exact rfl)) | ((with_reducible apply F.len); (iterate 3 exact rfl))); (focus (simp (disch := first | assumption | omega | (simp only [lnX]; omega)) only [LS, lenV_L, idx_L, below_at, Int.toNat_zero, Int.reduceToNat, *, hsl, s2, hw, List.length_map, List.getElem?_map] <;> rfl))) | (((with_reducible apply F.fieldAddrS); (iterate 3 exact rfl)); (focus (simp (disch := first | assumption | omega | (simp only [lnX]; omega)) only [LS, indexAddrV, indexV, below_at, fieldV, fieldAddrV, convP, bytesOf, sliceV, bounds, bMax, bHi, bLo, upTo_at, makeFuncV, partV, partP, cut, binI, binS, binV, binP, arith, strOp_add, strOp_eql, strOp_neq, eqn, wrap64, wrap8, mkAgg, allP, asP, Option.getD_none, Int.toNat_zero, Int.reduceToNat, *, hsl, s2, hw, List.length_map, List.getElem?_map] <;> rfl))) | (intro hc; (try rw [hc]); (try simp only [decide_eq_true_eq, decide_eq_false_iff_not, Bool.not_eq_eq_eq_not, Bool.not_true, Bool.not_false] at hc); (try (exfalso; omega)))
    all_goals (refine hend _ _ ?_ rfl; simp)
def jW2 (p : Pv) (l : List (List UInt8)) (o : List UInt8) (m : Nat) (e : Env) (H : Hp) : Prop := ∃ i : Nat, e = [(1,.p p),(3,.p (.str (o ++ moreF (l.take i)))),(5,.p (.int .i64 i))] ∧ H = [] ∧ i ≤ l.length ∧ m = l.length - i
theorem w2_loop (t : Tb) (T : TbOK t) (s v a q : Pv) (P : TbP s v a q t) (o : List UInt8) (hB : (o ++ moreF (varsT t)).length ≤ 1000000000) (Q : Qt)
    (hQ : ∀ y e H, e = [(35,.p (.bool false)),(34,.p (.int .i64 t.vars.length)),(33,.p v),(32,y),(31,.p (.int .i64 t.vars.length)),(1,.p (.ep [s, v, a, q])),(3,.p (.str (o ++ moreF (varsT t)))),(5,.p (.int .i64 t.vars.length))] → H = [] → E Q (.exit 2) e H) :
    R cx fi19 0 cW2 [(1,.p (.ep [s, v, a, q])),(3,.p (.str o)),(5,.p (.int .i64 0))] [] Q := by
  have cxq := cxF19
  have hvl := varsT_len T
  rw [← hvl] at hQ
  refine R.loop (jW2 (.ep [s, v, a, q]) (varsT t) o) (varsT t).length ⟨0, by simp [moreF], rfl, by omega, by omega⟩ ?_
  rintro m e H ⟨i, rfl, rfl, h1, rfl⟩
  obtain ⟨s1, s2, v1, v2, a1, a2, q1, q2⟩ := P
  have hsl : (elemsP v).length = (varsT t).length := by rw [v2, List.length_map, hvl]
  have hal : (elemsP a).length = (varsT t).length := by rw [a2, List.length_map, hvl, T.sl]
  have h8 := T.v6
  rw [← hvl] at h8
  by_cases hi : i = (varsT t).length
  · subst hi
    rw [List.take_length]
    have hq := fun y => show E (seqQ (fun e H => ∃ k, k < (varsT t).length - (varsT t).length ∧ jW2 (.ep [s, v, a, q]) (varsT t) o k e H) Q) (.exit 2) _ _ from ⟨(hQ y _ _ rfl rfl).out⟩
    clear hQ T h1 s2 v2 a2 q2 hvl
    generalize (seqQ (fun e H => ∃ k, k < (varsT t).length - (varsT t).length ∧ jW2 (.ep [s, v, a, q]) (varsT t) o k e H) Q) = QQ at *
    generalize o ++ moreF (varsT t) = o1 at *
    generalize (varsT t).length = n at *
    repeat' first | (with_reducible first | apply M.free | apply M.done | apply E.seqX | apply R.exit) | ((with_reducible apply F.move); exact rfl; exact rfl) | ((with_reducible apply F.load); (iterate 3 exact rfl)) | ((with_reducible apply F.cmp); (iterate 4 exact rfl)) | ((with_reducible apply R.regs); exact rfl) | ((first | (with_reducible apply R.cond) | ((with_reducible apply M.guard); exact rfl)); (focus (first | (refine Eq.trans (look_of rfl) ?_; first | (simp only [dtX, *, hsl, hal] <;> rfl) | exact rfl) | exact look_of rfl))) | with_reducible apply R.seq | (((with_reducible apply F.len); (iterate 3 exact rfl)); (focus (simp (disch := first | assumption | omega | (simp only [lnX]; omega)) only [LS, lenV_L, idx_L, below_at, Int.toNat_zero, Int.reduceToNat, *, hsl, hal] <;> rfl))) | (((with_reducible apply F.fieldAddrS); (iterate 3 exact rfl)); (focus (simp (disch := first | assumption | omega | (simp only [lnX]; omega)) only [LS, indexAddrV, indexV, below_at, fieldV, fieldAddrV, convP, bytesOf, sliceV, bounds, bMax, bHi, bLo, upTo_at, makeFuncV, partV, partP, cut, binI, binS, binV, binP, arith, strOp_add, strOp_eql, strOp_neq, eqn, wrap64, wrap8, mkAgg, allP, asP, Option.getD_none, Int.toNat_zero, Int.reduceToNat, *, hsl, hal] <;> rfl))) | (intro hc; (try rw [hc]); (try simp only [decide_eq_true_eq, decide_eq_false_iff_not, Bool.not_eq_eq_eq_not, Bool.not_true, Bool.not_false] at hc); (try (exfalso; omega)))
    all_goals exact hq _
  · obtain ⟨w, hw⟩ := at_some (show i < t.vars.length by omega)
    have hil : i < (varsT t).length := by omega
    obtain ⟨n, hn⟩ := at_some (show i < t.start.length by have := T.sl; omega)
    have hms := more_step (varsT_at hw hn)
    have hml := more_len (varsT t) (i + 1)
    have hnn := T.sv n (List.mem_of_getElem? hn)
    have hsl2 := T.sl
    have hd := (number_run n (by omega) (by omega)).fv
    have hend : ∀ e H, e = [(1,.p (.ep [s, v, a, q])),(3,.p (.str (o ++ moreF ((varsT t).take (i + 1))))),(5,.p (.int .i64 ((i : Int) + 1)))] → H = [] → ∃ k, k < (varsT t).length - i ∧ jW2 (.ep [s, v, a, q]) (varsT t) o k e H := by
      rintro e H rfl rfl
      exact ⟨(varsT t).length - (i + 1), by omega, i + 1, rfl, rfl, by omega, rfl⟩
    rw [hms] at hend hml
    simp only [List.length_append, List.length_cons, List.length_nil] at hB hml
    generalize moreF ((varsT t).take i) = o1 at *
    generalize numT n = nn at *
    clear hQ T hms
    generalize (varsT t).length = N at *
    repeat' first | (with_reducible first | apply M.free | apply M.done | apply E.seqN | apply E.blkN | apply R.skip) | ((with_reducible first | apply F.move | apply F.assign); exact rfl; exact rfl) | ((with_reducible apply F.load); (iterate 3 exact rfl)) | ((with_reducible apply F.cmp); (iterate 4 exact rfl)) | ((first | ((with_reducible apply F.add); (iterate 3 exact rfl)) | ((with_reducible apply F.adds); (iterate 3 exact rfl))); (focus (first | omega | (simp only [lnX]; omega)))) | ((with_reducible apply R.regs); exact rfl) | ((with_reducible apply Lv.of); (focus (repeat' (first | exact Kp.nil | (apply Kp.cons; exact rfl))))) | ((with_reducible apply F.call0); exact rfl; exact rfl; (focus (repeat' (first | exact Evs.nil | (apply Evs.cons; exact rfl)))); exact rfl; (focus (first | exact hd))) | ((first | (with_reducible apply R.cond) | ((with_reducible apply M.guard); exact rfl)); (focus (first | (refine Eq.trans (look_of rfl) ?_; first | (simp only [dtX, *, hsl, hal, v2, a2, hw, hn, List.length_map, List.getElem?_map] <;> rfl) | exact rfl) | exact look_of rfl))) | refine imp_yes rfl ?_ | exact imp_no rfl | with_reducible apply R.seq | ((with_reducible apply R.region); exact rfl) | ((with_reducible apply R.regionL); exact rfl) | with_reducible apply R.block | ((first | ((with_reducible apply F.indexAddr); (iterate 4 exact rfl)) | ((with_reducible apply F.len); (iterate 3 exact rfl))); (focus (simp (disch := first | assumption | omega | (simp only [lnX]; omega)) only [LS, lenV_L, idx_L, below_at, Int.toNat_zero, Int.reduceToNat, *, hsl, hal, v2, a2, hw, hn, List.length_map, List.getElem?_map] <;> rfl))) | (((with_reducible apply F.fieldAddrS); (iterate 3 exact rfl)); (focus (simp (disch := first | assumption | omega | (simp only [lnX]; omega)) only [LS, indexAddrV, indexV, below_at, fieldV, fieldAddrV, convP, bytesOf, sliceV, bounds, bMax, bHi, bLo, upTo_at, makeFuncV, partV, partP, cut, binI, binS, binV, binP, arith, strOp_add, strOp_eql, strOp_neq, eqn, wrap64, wrap8, mkAgg, allP, asP, Option.getD_none, Int.toNat_zero, Int.reduceToNat, *, hsl, hal, v2, a2, hw, hn, List.length_map, List.getElem?_map] <;> rfl))) | (intro hc; (try rw [hc]); (try simp only [decide_eq_true_eq, decide_eq_false_iff_not, Bool.not_eq_eq_eq_not, Bool.not_true, Bool.not_false] at hc); (try (exfalso; omega)))
    all_goals (refine hend _ _ ?_ rfl; simp)
def fromX (t : Tb) (r : Rl) (i : Nat) : List UInt8 := if i = 0 then [] else [32, 102, 114, 111, 109] ++ moreF ((fromW t r).take i)
def jW6 (p : Pv) (t : Tb) (r : Rl) (rb : Ob) (j : Int) (o : List UInt8) (m : Nat) (e : Env) (H : Hp) : Prop := ∃ i : Nat, e = [(1,.p p),(3,.p (.str (o ++ fromX t r i))),(7,.p (.int .i64 j)),(8,.ptr 0 0 0),(9,.p (.int .i64 i))] ∧ H = [rb] ∧ i ≤ (fromW t r).length ∧ m = (fromW t r).length - i
theorem w6_loop (t : Tb) (T : TbOK t) (s v a q : Pv) (P : TbP s v a q t) (j : Int) (r : Rl) (f g st : Pv) (hf1 : IsL 1 f) (hf2 : elemsP f = r.from_.map (.int .i64)) (hfr : ∀ s ∈ r.from_, 0 ≤ s ∧ s < t.states.length) (hfl : r.from_.length ≤ 100) (o : List UInt8) (hB : (o ++ [32, 102, 114, 111, 109] ++ moreF (fromW t r)).length ≤ 1000000000) (Q : Qt)
    (hQ : ∀ y e H, e = [(88,.p (.bool false)),(87,.p (.int .i64 r.from_.length)),(86,.p f),(85,y),(84,.p (.int .i64 r.from_.length)),(1,.p (.ep [s, v, a, q])),(3,.p (.str (o ++ fromX t r r.from_.length))),(7,.p (.int .i64 j)),(8,.ptr 0 0 0),(9,.p (.int .i64 r.from_.length))] → H = [rbx r f g st] → E Q (.exit 6) e H) :
    R cx fi19 0 cW6 [(1,.p (.ep [s, v, a, q])),(3,.p (.str o)),(7,.p (.int .i64 j)),(8,.ptr 0 0 0),(9,.p (.int .i64 0))] [rbx r f g st] Q := by
  have cxq := cxF19
  have hwl : (fromW t r).length = r.from_.length := by simp [fromW]
  rw [← hwl] at hQ
  refine R.loop (jW6 (.ep [s, v, a, q]) t r (rbx r f g st) j o) (fromW t r).length ⟨0, by simp [fromX], rfl, by omega, by omega⟩ ?_
  rintro m e H ⟨i, rfl, rfl, h1, rfl⟩
  obtain ⟨s1, s2, v1, v2, a1, a2, q1, q2⟩ := P
  have hsl : (elemsP f).length = (fromW t r).length := by rw [hf2, List.length_map, hwl]
  have htl : (elemsP s).length = t.states.length := by rw [s2, List.length_map]
  rw [← hwl] at hfl
  by_cases hi : i = (fromW t r).length
  · subst hi
    have hq := fun y => show E (seqQ (fun e H => ∃ k, k < (fromW t r).length - (fromW t r).length ∧ jW6 (.ep [s, v, a, q]) t r (rbx r f g st) j o k e H) Q) (.exit 6) _ _ from ⟨(hQ y _ _ rfl rfl).out⟩
    clear hQ T h1 s2 v2 a2 q2 hwl hfr hB hf2
    generalize (seqQ (fun e H => ∃ k, k < (fromW t r).length - (fromW t r).length ∧ jW6 (.ep [s, v, a, q]) t r (rbx r f g st) j o k e H) Q) = QQ at *
    generalize o ++ fromX t r _ = o1 at *
    generalize (fromW t r).length = n at *
    simp only [rbx] at hq ⊢
    repeat' first | (with_reducible first | apply M.free | apply M.done | apply E.seqX | apply R.exit) | ((with_reducible apply F.move); exact rfl; exact rfl) | ((with_reducible first | apply F.load | apply F.fieldAddr); (iterate 3 exact rfl)) | ((with_reducible apply F.cmp); (iterate 4 exact rfl)) | ((with_reducible apply R.regs); exact rfl) | ((first | (with_reducible apply R.cond) | ((with_reducible apply M.guard); exact rfl)); (focus (first | (refine Eq.trans (look_of rfl) ?_; first | (simp only [dtX, *, hsl, htl] <;> rfl) | exact rfl) | exact look_of rfl))) | with_reducible apply R.seq | (((with_reducible apply F.len); (iterate 3 exact rfl)); (focus (simp (disch := first | assumption | omega | (simp only [lnX]; omega)) only [LS, lenV_L, idx_L, below_at, Int.toNat_zero, Int.reduceToNat, *, hsl, htl] <;> rfl))) | (intro hc; (try rw [hc]); (try simp only [decide_eq_true_eq, decide_eq_false_iff_not, Bool.not_eq_eq_eq_not, Bool.not_true, Bool.not_false] at hc); (try (exfalso; omega)))
    all_goals exact hq _
  · obtain ⟨w, hw⟩ := at_some (show i < r.from_.length by omega)
    have hil : i < (fromW t r).length := by omega
    have hb := hfr w (List.mem_of_getElem? hw)
    obtain ⟨k, rfl⟩ := Int.eq_ofNat_of_zero_le hb.1
    obtain ⟨u, hu⟩ := at_some (show k < t.states.length by omega)
    have hms := more_step (fromW_at hw hu)
    have hml := more_len (fromW t r) (i + 1)
    have hend : ∀ e H, e = [(1,.p (.ep [s, v, a, q])),(3,.p (.str (o ++ ([32, 102, 114, 111, 109] ++ moreF ((fromW t r).take (i + 1)))))),(7,.p (.int .i64 j)),(8,.ptr 0 0 0),(9,.p (.int .i64 ((i : Int) + 1)))] → H = [rbx r f g st] → ∃ k, k < (fromW t r).length - i ∧ jW6 (.ep [s, v, a, q]) t r (rbx r f g st) j o k e H := by
      rintro e H rfl rfl
      exact ⟨(fromW t r).length - (i + 1), by omega, i + 1, by simp [fromX], rfl, by omega, rfl⟩
    rw [hms] at hend hml
    simp only [List.length_append, List.length_cons, List.length_nil] at hB hml
    have hx : fromX t r i = if i = 0 then [] else [32, 102, 114, 111, 109] ++ moreF ((fromW t r).take i) := rfl
    rw [hx]
    clear hQ T hms hx
    simp only [rbx] at hend ⊢
    by_cases h0 : i = 0
    · subst h0
      rw [if_pos rfl]
      have h00 : moreF ((fromW t r).take 0) = [] := by simp [moreF]
      rw [h00] at hend hml
      simp only [List.length_nil] at hml
      generalize (fromW t r).length = N at *
      repeat' first | (with_reducible first | apply M.free | apply M.done | apply E.seqN | apply E.blkN | apply R.skip) | ((with_reducible first | apply F.move | apply F.assign); exact rfl; exact rfl) | ((with_reducible first | apply F.load | apply F.fieldAddr); (iterate 3 exact rfl)) | ((with_reducible apply F.cmp); (iterate 4 exact rfl)) | ((first | ((with_reducible apply F.add); (iterate 3 exact rfl)) | ((with_reducible apply F.adds); (iterate 3 exact rfl))); (focus (first | omega | (simp only [lnX]; omega)))) | ((with_reducible apply R.regs); exact rfl) | ((with_reducible apply Lv.of); (focus (repeat' (first | exact Kp.nil | (apply Kp.cons; exact rfl))))) | ((first | (with_reducible apply R.cond) | ((with_reducible apply M.guard); exact rfl)); (focus (first | (refine Eq.trans (look_of rfl) ?_; first | (simp only [dtX, *, hsl, htl, s2, hf2, hw, hu, List.length_map, List.getElem?_map] <;> rfl) | exact rfl) | exact look_of rfl))) | refine imp_yes rfl ?_ | exact imp_no rfl | with_reducible apply R.seq | ((with_reducible apply R.region); exact rfl) | ((with_reducible apply R.regionL); exact rfl) | with_reducible apply R.block | ((first | ((with_reducible apply F.indexAddr); (iterate 4 exact rfl)) | ((with_reducible apply F.len); (iterate 3 exact rfl))); (focus (simp (disch := first | assumption | omega | (simp only [lnX]; omega)) only [LS, lenV_L, idx_L, below_at, Int.toNat_zero, Int.reduceToNat, *, hsl, htl, s2, hf2, hw, hu, List.length_map, List.getElem?_map] <;> rfl))) | (((with_reducible apply F.fieldAddrS); (iterate 3 exact rfl)); (focus (simp (disch := first | assumption | omega | (simp only [lnX]; omega)) only [LS, indexAddrV, indexV, below_at, fieldV, fieldAddrV, convP, bytesOf, sliceV, bounds, bMax, bHi, bLo, upTo_at, makeFuncV, partV, partP, cut, binI, binS, binV, binP, arith, strOp_add, strOp_eql, strOp_neq, eqn, wrap64, wrap8, mkAgg, allP, asP, Option.getD_none, Int.toNat_zero, Int.reduceToNat, *, hsl, htl, s2, hf2, hw, hu, List.length_map, List.getElem?_map] <;> rfl))) | (intro hc; (try rw [hc]); (try simp only [decide_eq_true_eq, decide_eq_false_iff_not, Bool.not_eq_eq_eq_not, Bool.not_true, Bool.not_false] at hc); (try (exfalso; omega)))
      all_goals (refine hend _ _ ?_ rfl; simp)
    · rw [if_neg h0]
      generalize moreF ((fromW t r).take i) = o1 at *
      generalize (fromW t r).length = N at *
      repeat' first | (with_reducible first | apply M.free | apply M.done | apply E.seqN | apply E.blkN | apply R.skip) | ((with_reducible first | apply F.move | apply F.assign); exact rfl; exact rfl) | ((with_reducible first | apply F.load | apply F.fieldAddr); (iterate 3 exact rfl)) | ((with_reducible apply F.cmp); (iterate 4 exact rfl)) | ((first | ((with_reducible apply F.add); (iterate 3 exact rfl)) | ((with_reducible apply F.adds); (iterate 3 exact rfl))); (focus (first | omega | (simp only [lnX]; omega)))) | ((with_reducible apply R.regs); exact rfl) | ((with_reducible apply Lv.of); (focus (repeat' (first | exact Kp.nil | (apply Kp.cons; exact rfl))))) | ((first | (with_reducible apply R.cond) | ((with_reducible apply M.guard); exact rfl)); (focus (first | (refine Eq.trans (look_of rfl) ?_; first | (simp only [dtX, *, hsl, htl, s2, hf2, hw, hu, List.length_map, List.getElem?_map] <;> rfl) | exact rfl) | exact look_of rfl))) | with_reducible apply R.seq | ((with_reducible apply R.region); exact rfl) | ((with_reducible apply R.regionL); exact rfl) | with_reducible apply R.block | ((first | ((with_reducible apply F.indexAddr); (iterate 4 exact rfl)) | ((with_reducible apply F.len); (iterate 3 exact rfl))); (focus (simp (disch := first | assumption | omega | (simp only [lnX]; omega)) only [LS, lenV_L, idx_L, below_at, Int.toNat_zero, Int.reduceToNat, *, hsl, htl, s2, hf2, hw, hu, List.length_map, List.getElem?_map] <;> rfl))) | (((with_reducible apply F.fieldAddrS); (iterate 3 exact rfl)); (focus (simp (disch := first | assumption | omega | (simp only [lnX]; omega)) only [LS, indexAddrV, indexV, below_at, fieldV, fieldAddrV, convP, bytesOf, sliceV, bounds, bMax, bHi, bLo, upTo_at, makeFuncV, partV, partP, cut, binI, binS, binV, binP, arith, strOp_add, strOp_eql, strOp_neq, eqn, wrap64, wrap8, mkAgg, allP, asP, Option.getD_none, Int.toNat_zero, Int.reduceToNat, *, hsl, htl, s2, hf2, hw, hu, List.length_map, List.getElem?_map] <;> rfl))) | (intro hc; (try rw [hc]); (try simp only [decide_eq_true_eq, decide_eq_false_iff_not, Bool.not_eq_eq_eq_not, Bool.not_true, Bool.not_false] at hc); (try (exfalso; omega)))
      all_goals (refine hend _ _ ?_ rfl; simp)
def jW8 (p : Pv) (t : Tb) (r : Rl) (rb : Ob) (j : Int) (o : List UInt8) (m : Nat) (e : Env) (H : Hp) : Prop := ∃ i : Nat, e = [(1,.p p),(3,.p (.str (o ++ catF (guardL t r) (r.guards.take i)))),(7,.p (.int .i64 j)),(8,.ptr 0 0 0),(10,.p (.int .i64 i))] ∧ H = [rb] ∧ i ≤ r.guards.length ∧ m = r.guards.length - i
theorem w8_loop (t : Tb) (T : TbOK t) (s v a q : Pv) (P : TbP s v a q t) (j : Int) (k : Nat) (r : Rl) (R0 : RlOK t k r) (f g st : Pv) (hg1 : IsL 2 g) (hg2 : L2 GdR (elemsP g) r.guards) (o : List UInt8) (hB : (o ++ catF (guardL t r) r.guards).length ≤ 1000000000) (Q : Qt)
    (hQ : ∀ y e H, e = [(113,.p (.bool false)),(112,.p (.int .i64 r.guards.length)),(111,.p g),(110,y),(109,.p (.int .i64 r.guards.length)),(1,.p (.ep [s, v, a, q])),(3,.p (.str (o ++ catF (guardL t r) r.guards))),(7,.p (.int .i64 j)),(8,.ptr 0 0 0),(10,.p (.int .i64 r.guards.length))] → H = [rbx r f g st] → E Q (.exit 8) e H) :
    R cx fi19 0 cW8 [(1,.p (.ep [s, v, a, q])),(3,.p (.str o)),(7,.p (.int .i64 j)),(8,.ptr 0 0 0),(10,.p (.int .i64 0))] [rbx r f g st] Q := by
  have cxq := cxF19
  refine R.loop (jW8 (.ep [s, v, a, q]) t r (rbx r f g st) j o) r.guards.length ⟨0, by simp [catF], rfl, by omega, by omega⟩ ?_
  rintro m e H ⟨i, rfl, rfl, h1, rfl⟩
  have hgl := hg2.1
  have hg4 := R0.g4
  by_cases hi : i = r.guards.length
  · subst hi
    rw [List.take_length]
    have hq := fun y => show E (seqQ (fun e H => ∃ k, k < r.guards.length - r.guards.length ∧ jW8 (.ep [s, v, a, q]) t r (rbx r f g st) j o k e H) Q) (.exit 8) _ _ from ⟨(hQ y _ _ rfl rfl).out⟩
    clear hQ T h1 P hB R0 hg2
    generalize (seqQ (fun e H => ∃ k, k < r.guards.length - r.guards.length ∧ jW8 (.ep [s, v, a, q]) t r (rbx r f g st) j o k e H) Q) = QQ at *
    generalize o ++ catF (guardL t r) _ = o1 at *
    generalize r.guards.length = n at *
    simp only [rbx] at hq ⊢
    repeat' first | (with_reducible first | apply M.free | apply M.done | apply E.seqX | apply R.exit) | ((with_reducible apply F.move); exact rfl; exact rfl) | ((with_reducible first | apply F.load | apply F.fieldAddr); (iterate 3 exact rfl)) | ((with_reducible apply F.cmp); (iterate 4 exact rfl)) | ((with_reducible apply R.regs); exact rfl) | ((first | (with_reducible apply R.cond) | ((with_reducible apply M.guard); exact rfl)); (focus (first | (refine Eq.trans (look_of rfl) ?_; first | (simp only [dtX, *, hgl] <;> rfl) | exact rfl) | exact look_of rfl))) | with_reducible apply R.seq | (((with_reducible apply F.len); (iterate 3 exact rfl)); (focus (simp (disch := first | assumption | omega | (simp only [lnX]; omega)) only [LS, lenV_L, idx_L, below_at, Int.toNat_zero, Int.reduceToNat, *, hgl] <;> rfl))) | (intro hc; (try rw [hc]); (try simp only [decide_eq_true_eq, decide_eq_false_iff_not, Bool.not_eq_eq_eq_not, Bool.not_true, Bool.not_false] at hc); (try (exfalso; omega)))
    all_goals exact hq _
  · have hil : i < r.guards.length := by omega
    obtain ⟨z, hz⟩ := at_some hil
    obtain ⟨y, hy, u, rfl, hu1, hu2⟩ := hg2.at hz
    have hzm := List.mem_of_getElem? hz
    have hcs := cat_step (guardL t r) hz
    have hct := cat_take (guardL t r) r.guards (i + 1)
    have hcode := R0.code z hzm
    have hr4 := R0.args
    have hxl := expr_len T.vn (by omega) (R0.test z hzm)
    have hnl := numT_len (n := z.code) (by omega) (by omega)
    have hd := (number_run z.code (by omega) (by omega)).fv
    have htx := (text_run t T s v a q u P.v1 P.v2 z.test hu1 hu2 r.args (by omega)).fv
    have hend : ∀ e H, e = [(1,.p (.ep [s, v, a, q])),(3,.p (.str (o ++ catF (guardL t r) (r.guards.take (i + 1))))),(7,.p (.int .i64 j)),(8,.ptr 0 0 0),(10,.p (.int .i64 ((i : Int) + 1)))] → H = [rbx r f g st] → ∃ k, k < r.guards.length - i ∧ jW8 (.ep [s, v, a, q]) t r (rbx r f g st) j o k e H := by
      rintro e H rfl rfl
      exact ⟨r.guards.length - (i + 1), by omega, i + 1, rfl, rfl, by omega, rfl⟩
    rw [hcs] at hend hct
    simp only [guardL, lineF, moreF, List.map_cons, List.map_nil, List.flatten_cons, List.flatten_nil, List.append_nil] at hend
    have hgL : (guardL t r z).length = 5 + (1 + (numT z.code).length) + (1 + (exprT t r.args z.test).length) + 1 := by simp [guardL, lineF, moreF]; omega
    simp only [List.length_append, hgL] at hB hct
    clear hQ hcs hgL R0 hz hg2 T P hu2
    simp only [rbx] at hend ⊢
    generalize catF (guardL t r) (r.guards.take i) = o1 at *
    generalize (catF (guardL t r) r.guards).length = o2 at *
    generalize exprT t r.args z.test = ex at *
    generalize numT z.code = nn at *
    obtain ⟨zc, zt⟩ := z
    simp only at hy hd
    repeat' first | (with_reducible first | apply M.free | apply M.done | apply E.seqN | apply E.blkN | apply R.skip) | ((with_reducible first | apply F.move | apply F.assign); exact rfl; exact rfl) | ((with_reducible first | apply F.load | apply F.fieldAddr); (iterate 3 exact rfl)) | ((with_reducible apply F.cmp); (iterate 4 exact rfl)) | ((first | ((with_reducible apply F.add); (iterate 3 exact rfl)) | ((with_reducible apply F.adds); (iterate 3 exact rfl))); (focus (first | omega | (simp only [lnX]; omega)))) | ((with_reducible apply R.regs); exact rfl) | ((with_reducible apply Lv.of); (focus (repeat' (first | exact Kp.nil | (apply Kp.cons; exact rfl))))) | ((with_reducible apply F.call0); exact rfl; exact rfl; (focus (repeat' (first | exact Evs.nil | (apply Evs.cons; exact rfl)))); exact rfl; (focus (first | exact hd | exact htx))) | ((first | (with_reducible apply R.cond) | ((with_reducible apply M.guard); exact rfl)); (focus (first | (refine Eq.trans (look_of rfl) ?_; first | (simp only [dtX, *, hgl, hy, List.length_map, List.getElem?_map] <;> rfl) | exact rfl) | exact look_of rfl))) | with_reducible apply R.seq | ((with_reducible apply R.region); exact rfl) | ((with_reducible apply R.regionL); exact rfl) | with_reducible apply R.block | (((with_reducible apply F.loadS); (iterate 3 exact rfl)); (focus (simp (disch := first | assumption | omega | (simp only [lnX]; omega)) only [LS, storeV, loadV, partV, partP, cut, over, mkAgg, allP, asP, V.cells, PC, elDiv, elMod, elDiv0, Nat.mul_mod_left, Int.toNat_zero, Int.reduceToNat, *, hgl, hy, List.length_map, List.getElem?_map] <;> rfl))) | ((first | ((with_reducible apply F.indexAddr); (iterate 4 exact rfl)) | ((with_reducible apply F.len); (iterate 3 exact rfl))); (focus (simp (disch := first | assumption | omega | (simp only [lnX]; omega)) only [LS, lenV_L, idx_L, below_at, Int.toNat_zero, Int.reduceToNat, *, hgl, hy, List.length_map, List.getElem?_map] <;> rfl))) | (((with_reducible apply F.fieldAddrS); (iterate 3 exact rfl)); (focus (simp (disch := first | assumption | omega | (simp only [lnX]; omega)) only [LS, indexAddrV, indexV, below_at, fieldV, fieldAddrV, convP, bytesOf, sliceV, bounds, bMax, bHi, bLo, upTo_at, makeFuncV, partV, partP, cut, binI, binS, binV, binP, arith, strOp_add, strOp_eql, strOp_neq, eqn, wrap64, wrap8, mkAgg, allP, asP, Option.getD_none, Int.toNat_zero, Int.reduceToNat, *, hgl, hy, List.length_map, List.getElem?_map] <;> rfl))) | (intro hc; (try rw [hc]); (try simp only [decide_eq_true_eq, decide_eq_false_iff_not, Bool.not_eq_eq_eq_not, Bool.not_true, Bool.not_false] at hc); (try (exfalso; omega)))
    all_goals (refine hend _ _ ?_ rfl; simp)
end Go.Proofs.YtojpocfnjigmfaaDoor
