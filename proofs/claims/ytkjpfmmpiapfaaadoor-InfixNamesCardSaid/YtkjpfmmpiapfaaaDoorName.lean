import Derived.Test.YtkjpfmmpiapfaaaDoorCx
import Derived.Test.YtkjpfmmpiapfaaaDoorAX14
set_option maxRecDepth 10000
set_option linter.unusedSimpArgs false
namespace Go.Proofs.YtkjpfmmpiapfaaaDoor
open Go Go.AX
noncomputable def fi24 : FnI := { body := (Tryd.f24.body).getD .skip, ntmps := 9, results := Tryd.f24.results.toList, hints := hints 24 }
theorem cxF24 : cx.F 24 = some fi24 := by kernel_rfl
noncomputable def fi26 : FnI := { body := (Tryd.f26.body).getD .skip, ntmps := 9, results := Tryd.f26.results.toList, hints := hints 26 }
theorem cxF26 : cx.F 26 = some fi26 := by kernel_rfl
noncomputable def fi27 : FnI := { body := (Tryd.f27.body).getD .skip, ntmps := 9, results := Tryd.f27.results.toList, hints := hints 27 }
theorem cxF27 : cx.F 27 = some fi27 := by kernel_rfl
noncomputable def fi28 : FnI := { body := (Tryd.f28.body).getD .skip, ntmps := 9, results := Tryd.f28.results.toList, hints := hints 28 }
theorem cxF28 : cx.F 28 = some fi28 := by kernel_rfl
noncomputable def fi25 : FnI := { body := (Tryd.f25.body).getD .skip, ntmps := 10, results := Tryd.f25.results.toList, hints := hints 25 }
theorem cxF25 : cx.F 25 = some fi25 := by kernel_rfl
noncomputable def fi11 : FnI := { body := (Tryd.f11.body).getD .skip, ntmps := 47, results := Tryd.f11.results.toList, hints := hints 11 }
theorem cxF11 : cx.F 11 = some fi11 := by kernel_rfl
noncomputable def fi12 : FnI := { body := (Tryd.f12.body).getD .skip, ntmps := 54, results := Tryd.f12.results.toList, hints := hints 12 }
theorem cxF12 : cx.F 12 = some fi12 := by kernel_rfl
def lt (c : Int) : Bool := decide (97 ≤ c) && decide (c ≤ 122)
def dg (c : Int) : Bool := decide (48 ≤ c) && decide (c ≤ 57)
theorem run24 (c : Int) (H : Hp) : CV cx 24 [.p (.int .u8 c)] H (.p (.bool (lt c))) H := by
  refine CV.of cxF24 rfl ?_
  unfold lt
  by_cases h1 : 97 ≤ c <;> by_cases h2 : c ≤ 122
  all_goals
    repeat' first
      | refine W.regs ⟨rfl, rfl⟩ ?_
      | refine W.reg ⟨rfl, rfl⟩ ?_
      | refine N.nil ?_
      | refine N.free rfl ?_
      | (refine N.guarded _ _ rfl (by simp only [look_eq, look_ne, putV_some, putV_none, ne_eq, Nat.reduceEqDiff, not_false_eq_true, *]; rfl) rfl ?_; simp only [↓reduceIte, decide_true, decide_false, Bool.false_eq_true, Bool.true_eq_false, *, ge_iff_le, args0])
      | (refine Op1.some ?_; simp (disch := omega) only [T1, T3, T4, T5, T9, T22, T23, T26, T38, T41, T43, T48, T50, T52, T54, T56, T61, T67, T68, opV, ev_tmp, ev_const, ev_func, ofValue, ofCell, binV, binP, arith, strOp, eqn, unP, Option.map_some, Option.bind_some, builtinV, lenV, indexV, below_at, upTo_at, wrap64, wrap8, Int.toNat_natCast, Int.toNat_zero, List.map_cons, List.map_nil, List.getElem?_toArray, List.getElem?_cons_zero, ↓reduceIte, decide_true, decide_false, Bool.not_true, Bool.not_false, Bool.false_eq_true, look_eq, look_ne, putV_some, putV_none, ne_eq, Nat.reduceEqDiff, not_false_eq_true, *, ge_iff_le, args0])
      | (refine W.ret ?_; try simp only [])
      | (refine W.exit ?_; simp only [↓reduceIte, Nat.reduceEqDiff])
      | refine W.skip ?_
      | refine W.seq ?_
      | refine W.block ?_
      | (refine W.cond _ (by simp only [ev_tmp, look_eq, look_ne, putV_some, putV_none, ne_eq, Nat.reduceEqDiff, not_false_eq_true, *]; rfl) ?_; simp only [decide_true, decide_false, *, ge_iff_le, args0])
  all_goals exact ⟨.inr rfl, rfl, rfl⟩
theorem run27 (c : Int) (H : Hp) : CV cx 27 [.p (.int .u8 c)] H (.p (.bool (lt c))) H := by
  refine CV.of cxF27 rfl ?_
  unfold lt
  by_cases h1 : 97 ≤ c <;> by_cases h2 : c ≤ 122
  all_goals
    repeat' first
      | refine W.regs ⟨rfl, rfl⟩ ?_
      | refine W.reg ⟨rfl, rfl⟩ ?_
      | refine N.nil ?_
      | refine N.free rfl ?_
      | (refine N.guarded _ _ rfl (by simp only [look_eq, look_ne, putV_some, putV_none, ne_eq, Nat.reduceEqDiff, not_false_eq_true, *]; rfl) rfl ?_; simp only [↓reduceIte, decide_true, decide_false, Bool.false_eq_true, Bool.true_eq_false, *, ge_iff_le, args0])
      | (refine Op1.some ?_; simp (disch := omega) only [T1, T3, T4, T5, T9, T22, T23, T26, T38, T41, T43, T48, T50, T52, T54, T56, T61, T67, T68, opV, ev_tmp, ev_const, ev_func, ofValue, ofCell, binV, binP, arith, strOp, eqn, unP, Option.map_some, Option.bind_some, builtinV, lenV, indexV, below_at, upTo_at, wrap64, wrap8, Int.toNat_natCast, Int.toNat_zero, List.map_cons, List.map_nil, List.getElem?_toArray, List.getElem?_cons_zero, ↓reduceIte, decide_true, decide_false, Bool.not_true, Bool.not_false, Bool.false_eq_true, look_eq, look_ne, putV_some, putV_none, ne_eq, Nat.reduceEqDiff, not_false_eq_true, *, ge_iff_le, args0])
      | (refine W.ret ?_; try simp only [])
      | (refine W.exit ?_; simp only [↓reduceIte, Nat.reduceEqDiff])
      | refine W.skip ?_
      | refine W.seq ?_
      | refine W.block ?_
      | (refine W.cond _ (by simp only [ev_tmp, look_eq, look_ne, putV_some, putV_none, ne_eq, Nat.reduceEqDiff, not_false_eq_true, *]; rfl) ?_; simp only [decide_true, decide_false, *, ge_iff_le, args0])
  all_goals exact ⟨.inr rfl, rfl, rfl⟩
theorem run26 (c : Int) (H : Hp) : CV cx 26 [.p (.int .u8 c)] H (.p (.bool (dg c))) H := by
  refine CV.of cxF26 rfl ?_
  unfold dg
  by_cases h1 : 48 ≤ c <;> by_cases h2 : c ≤ 57
  all_goals
    repeat' first
      | refine W.regs ⟨rfl, rfl⟩ ?_
      | refine W.reg ⟨rfl, rfl⟩ ?_
      | refine N.nil ?_
      | refine N.free rfl ?_
      | (refine N.guarded _ _ rfl (by simp only [look_eq, look_ne, putV_some, putV_none, ne_eq, Nat.reduceEqDiff, not_false_eq_true, *]; rfl) rfl ?_; simp only [↓reduceIte, decide_true, decide_false, Bool.false_eq_true, Bool.true_eq_false, *, ge_iff_le, args0])
      | (refine Op1.some ?_; simp (disch := omega) only [T1, T3, T4, T5, T9, T22, T23, T26, T38, T41, T43, T48, T50, T52, T54, T56, T61, T67, T68, opV, ev_tmp, ev_const, ev_func, ofValue, ofCell, binV, binP, arith, strOp, eqn, unP, Option.map_some, Option.bind_some, builtinV, lenV, indexV, below_at, upTo_at, wrap64, wrap8, Int.toNat_natCast, Int.toNat_zero, List.map_cons, List.map_nil, List.getElem?_toArray, List.getElem?_cons_zero, ↓reduceIte, decide_true, decide_false, Bool.not_true, Bool.not_false, Bool.false_eq_true, look_eq, look_ne, putV_some, putV_none, ne_eq, Nat.reduceEqDiff, not_false_eq_true, *, ge_iff_le, args0])
      | (refine W.ret ?_; try simp only [])
      | (refine W.exit ?_; simp only [↓reduceIte, Nat.reduceEqDiff])
      | refine W.skip ?_
      | refine W.seq ?_
      | refine W.block ?_
      | (refine W.cond _ (by simp only [ev_tmp, look_eq, look_ne, putV_some, putV_none, ne_eq, Nat.reduceEqDiff, not_false_eq_true, *]; rfl) ?_; simp only [decide_true, decide_false, *, ge_iff_le, args0])
  all_goals exact ⟨.inr rfl, rfl, rfl⟩
theorem run28 (c : Int) (H : Hp) : CV cx 28 [.p (.int .u8 c)] H (.p (.bool (dg c))) H := by
  refine CV.of cxF28 rfl ?_
  unfold dg
  by_cases h1 : 48 ≤ c <;> by_cases h2 : c ≤ 57
  all_goals
    repeat' first
      | refine W.regs ⟨rfl, rfl⟩ ?_
      | refine W.reg ⟨rfl, rfl⟩ ?_
      | refine N.nil ?_
      | refine N.free rfl ?_
      | (refine N.guarded _ _ rfl (by simp only [look_eq, look_ne, putV_some, putV_none, ne_eq, Nat.reduceEqDiff, not_false_eq_true, *]; rfl) rfl ?_; simp only [↓reduceIte, decide_true, decide_false, Bool.false_eq_true, Bool.true_eq_false, *, ge_iff_le, args0])
      | (refine Op1.some ?_; simp (disch := omega) only [T1, T3, T4, T5, T9, T22, T23, T26, T38, T41, T43, T48, T50, T52, T54, T56, T61, T67, T68, opV, ev_tmp, ev_const, ev_func, ofValue, ofCell, binV, binP, arith, strOp, eqn, unP, Option.map_some, Option.bind_some, builtinV, lenV, indexV, below_at, upTo_at, wrap64, wrap8, Int.toNat_natCast, Int.toNat_zero, List.map_cons, List.map_nil, List.getElem?_toArray, List.getElem?_cons_zero, ↓reduceIte, decide_true, decide_false, Bool.not_true, Bool.not_false, Bool.false_eq_true, look_eq, look_ne, putV_some, putV_none, ne_eq, Nat.reduceEqDiff, not_false_eq_true, *, ge_iff_le, args0])
      | (refine W.ret ?_; try simp only [])
      | (refine W.exit ?_; simp only [↓reduceIte, Nat.reduceEqDiff])
      | refine W.skip ?_
      | refine W.seq ?_
      | refine W.block ?_
      | (refine W.cond _ (by simp only [ev_tmp, look_eq, look_ne, putV_some, putV_none, ne_eq, Nat.reduceEqDiff, not_false_eq_true, *]; rfl) ?_; simp only [decide_true, decide_false, *, ge_iff_le, args0])
  all_goals exact ⟨.inr rfl, rfl, rfl⟩
def resv (s : List UInt8) : Int := if s = [109, 105, 110] then 9 else if s = [109, 97, 120] then 10 else if s = [105, 102] then 16 else 0
theorem run25 (s : List UInt8) (H : Hp) : CV cx 25 [.p (.str s)] H (.p (.int .i64 (resv s))) H := by
  refine CV.of cxF25 rfl ?_
  have e : resv s = if (s == [109, 105, 110]) = true then 9 else if (s == [109, 97, 120]) = true then 10 else if (s == [105, 102]) = true then 16 else 0 := by simp [resv]
  rw [e]
  clear e
  cases h1 : (s == [109, 105, 110])
  cases h2 : (s == [109, 97, 120])
  cases h3 : (s == [105, 102])
  all_goals
    repeat' first
      | refine W.regs ⟨rfl, rfl⟩ ?_
      | refine W.reg ⟨rfl, rfl⟩ ?_
      | refine N.nil ?_
      | refine N.free rfl ?_
      | (refine N.guarded _ _ rfl (by simp only [look_eq, look_ne, putV_some, putV_none, ne_eq, Nat.reduceEqDiff, not_false_eq_true, *]; rfl) rfl ?_; simp only [↓reduceIte, decide_true, decide_false, Bool.false_eq_true, Bool.true_eq_false, *, args0])
      | (refine Op1.some ?_; simp (disch := omega) only [T1, T3, T4, T5, T9, T22, T23, T26, T38, T41, T43, T48, T50, T52, T54, T56, T61, T67, T68, opV, ev_tmp, ev_const, ev_func, ofValue, ofCell, binV, binP, arith, strOp, eqn, unP, Option.map_some, Option.bind_some, builtinV, lenV, indexV, below_at, upTo_at, wrap64, wrap8, Int.toNat_natCast, Int.toNat_zero, List.map_cons, List.map_nil, List.getElem?_toArray, List.getElem?_cons_zero, ↓reduceIte, decide_true, decide_false, Bool.not_true, Bool.not_false, Bool.false_eq_true, look_eq, look_ne, putV_some, putV_none, ne_eq, Nat.reduceEqDiff, not_false_eq_true, *, args0])
      | (refine W.ret ?_; try simp only [])
      | (refine W.exit ?_; simp only [↓reduceIte, Nat.reduceEqDiff])
      | refine W.skip ?_
      | refine W.seq ?_
      | refine W.block ?_
      | (refine W.cond _ (by simp only [ev_tmp, look_eq, look_ne, putV_some, putV_none, ne_eq, Nat.reduceEqDiff, not_false_eq_true, *]; rfl) ?_; simp only [decide_true, decide_false, *, args0])
  all_goals exact ⟨.inr rfl, rfl, rfl⟩

/-- May a letter stand in a name? -/
def nm (c : UInt8) : Bool := lt c.toNat || (dg c.toNat || !((c.toNat : Int) != 95))
theorem all_take {s : List UInt8} {i : Nat} {b : UInt8} (hb : s[i]? = some b) (h : (s.take i).all nm = true) (hn : nm b = true) : (s.take (i + 1)).all nm = true := by
  rw [List.take_add_one, List.all_append, h, hb]
  simp [hn]
theorem all_fail {s : List UInt8} {i : Nat} {b : UInt8} (hb : s[i]? = some b) (hn : nm b = false) : s.all nm = false := by
  rw [List.all_eq_false]
  exact ⟨b, List.mem_of_getElem? hb, by simp [hn]⟩
def nameF (s : List UInt8) : Bool := match s with
  | [] => false
  | c :: _ => decide (s.length ≤ 24) && (lt c.toNat && (decide (resv s ≤ 0) && s.all nm))

theorem run11_loop (s : List UInt8) (hs : s.length ≤ 24) (e : Env) (H : Hp) (base : Nat) (Q : X → St → Prop) (g0 : AX.look e 0 = .p (.str s)) (g24 : AX.look e 24 = .p (.int .i64 s.length)) (g25 : AX.look e 25 = .p (.int .i64 0))
    (hok : s.all nm = true → ∀ e, Q (.exit 0) ⟨e, H⟩) (hno : s.all nm = false → ∀ e, AX.look e 2 = .p (.bool false) → Q .ret ⟨e, H⟩) : W cx fi11 base (loopK fi11.body 0) ⟨e, H⟩ Q := by
  refine W.loopK rfl (fun m st => ∃ (e : Env) (i : Nat), st = ⟨e, H⟩ ∧ AX.look e 0 = .p (.str s) ∧ AX.look e 24 = .p (.int .i64 s.length) ∧ AX.look e 25 = .p (.int .i64 i) ∧ i ≤ s.length ∧ m = s.length - i ∧ (s.take i).all nm = true)
    ?_ s.length _ ⟨_, 0, rfl, g0, g24, g25, Nat.zero_le _, rfl, rfl⟩
  clear g0 g24 g25 e
  rintro m st ⟨e, i, rfl, g0, g24, g25, hi, rfl, hall⟩
  by_cases hlt : (i : Int) < s.length
  · obtain ⟨b, hb⟩ : ∃ b, s[i]? = some b := ⟨s[i]'(by omega), by simp⟩
    have hnext : nm b = true → ∀ e', AX.look e' 0 = .p (.str s) → AX.look e' 24 = .p (.int .i64 s.length) → AX.look e' 25 = .p (.int .i64 (i + 1)) →
        ∃ k, k < s.length - i ∧ ∃ (e : Env) (i : Nat), (⟨e', H⟩ : St) = ⟨e, H⟩ ∧ AX.look e 0 = .p (.str s) ∧ AX.look e 24 = .p (.int .i64 s.length) ∧ AX.look e 25 = .p (.int .i64 i) ∧ i ≤ s.length ∧ k = s.length - i ∧ (s.take i).all nm = true :=
      fun hn e' q0 q24 q25 => ⟨s.length - (i + 1), by omega, e', i + 1, rfl, q0, q24, q25, by omega, rfl, all_take hb hall hn⟩
    clear hall
    cases k1 : lt b.toNat
    · cases k2 : dg b.toNat
      · cases k3 : ((b.toNat : Int) != 95)
        · have hn := hnext (by simp [nm, k1, k2, k3])
          clear hnext hok hno
          repeat' first
            | refine W.regs ⟨rfl, rfl⟩ ?_
            | refine W.reg ⟨rfl, rfl⟩ ?_
            | refine N.nil ?_
            | refine N.free rfl ?_
            | (refine N.guarded _ _ rfl (by simp only [look_eq, look_ne, putV_some, putV_none, ne_eq, Nat.reduceEqDiff, not_false_eq_true, *]; rfl) rfl ?_; simp only [↓reduceIte, decide_true, decide_false, Bool.false_eq_true, Bool.true_eq_false, *])
            | refine Op1.pure (by decide) rfl rfl rfl (run24 _ _) rfl ?_
            | refine Op1.pure (by decide) rfl rfl rfl (run26 _ _) rfl ?_
            | (refine Op1.some ?_; simp (disch := omega) only [T1, T3, T4, T5, T9, T22, T23, T26, T38, T41, T43, T48, T50, T52, T54, T56, T61, T67, T68, opV, ev_tmp, ev_const, ev_func, ofValue, ofCell, binV, binP, arith, strOp, eqn, unP, Option.map_some, Option.bind_some, builtinV, lenV, indexV, below_at, upTo_at, wrap64, wrap8, Int.toNat_natCast, Int.toNat_zero, List.map_cons, List.map_nil, List.getElem?_toArray, List.getElem?_cons_zero, ↓reduceIte, decide_true, decide_false, Bool.not_true, Bool.not_false, Bool.false_eq_true, look_eq, look_ne, putV_some, putV_none, ne_eq, Nat.reduceEqDiff, not_false_eq_true, *])
            | (refine W.ret ?_; try simp only [])
            | (refine W.exit ?_; simp only [↓reduceIte, Nat.reduceEqDiff])
            | refine W.skip ?_
            | refine W.seq ?_
            | refine W.block ?_
            | (refine W.cond _ (by simp only [ev_tmp, look_eq, look_ne, putV_some, putV_none, ne_eq, Nat.reduceEqDiff, not_false_eq_true, *]; rfl) ?_; simp only [decide_true, decide_false, *])
          refine hn _ ?_ ?_ ?_ <;> first | exact g0 | exact g24 | rfl
        · have hn := hno (all_fail hb (by simp [nm, k1, k2, k3]))
          clear hnext hok hno
          repeat' first
            | refine W.regs ⟨rfl, rfl⟩ ?_
            | refine W.reg ⟨rfl, rfl⟩ ?_
            | refine N.nil ?_
            | refine N.free rfl ?_
            | (refine N.guarded _ _ rfl (by simp only [look_eq, look_ne, putV_some, putV_none, ne_eq, Nat.reduceEqDiff, not_false_eq_true, *]; rfl) rfl ?_; simp only [↓reduceIte, decide_true, decide_false, Bool.false_eq_true, Bool.true_eq_false, *])
            | refine Op1.pure (by decide) rfl rfl rfl (run24 _ _) rfl ?_
            | refine Op1.pure (by decide) rfl rfl rfl (run26 _ _) rfl ?_
            | (refine Op1.some ?_; simp (disch := omega) only [T1, T3, T4, T5, T9, T22, T23, T26, T38, T41, T43, T48, T50, T52, T54, T56, T61, T67, T68, opV, ev_tmp, ev_const, ev_func, ofValue, ofCell, binV, binP, arith, strOp, eqn, unP, Option.map_some, Option.bind_some, builtinV, lenV, indexV, below_at, upTo_at, wrap64, wrap8, Int.toNat_natCast, Int.toNat_zero, List.map_cons, List.map_nil, List.getElem?_toArray, List.getElem?_cons_zero, ↓reduceIte, decide_true, decide_false, Bool.not_true, Bool.not_false, Bool.false_eq_true, look_eq, look_ne, putV_some, putV_none, ne_eq, Nat.reduceEqDiff, not_false_eq_true, *])
            | (refine W.ret ?_; try simp only [])
            | (refine W.exit ?_; simp only [↓reduceIte, Nat.reduceEqDiff])
            | refine W.skip ?_
            | refine W.seq ?_
            | refine W.block ?_
            | (refine W.cond _ (by simp only [ev_tmp, look_eq, look_ne, putV_some, putV_none, ne_eq, Nat.reduceEqDiff, not_false_eq_true, *]; rfl) ?_; simp only [decide_true, decide_false, *])
          exact hn _ rfl
      · have hn := hnext (by simp [nm, k1, k2])
        clear hnext hok hno
        repeat' first
          | refine W.regs ⟨rfl, rfl⟩ ?_
          | refine W.reg ⟨rfl, rfl⟩ ?_
          | refine N.nil ?_
          | refine N.free rfl ?_
          | (refine N.guarded _ _ rfl (by simp only [look_eq, look_ne, putV_some, putV_none, ne_eq, Nat.reduceEqDiff, not_false_eq_true, *]; rfl) rfl ?_; simp only [↓reduceIte, decide_true, decide_false, Bool.false_eq_true, Bool.true_eq_false, *])
          | refine Op1.pure (by decide) rfl rfl rfl (run24 _ _) rfl ?_
          | refine Op1.pure (by decide) rfl rfl rfl (run26 _ _) rfl ?_
          | (refine Op1.some ?_; simp (disch := omega) only [T1, T3, T4, T5, T9, T22, T23, T26, T38, T41, T43, T48, T50, T52, T54, T56, T61, T67, T68, opV, ev_tmp, ev_const, ev_func, ofValue, ofCell, binV, binP, arith, strOp, eqn, unP, Option.map_some, Option.bind_some, builtinV, lenV, indexV, below_at, upTo_at, wrap64, wrap8, Int.toNat_natCast, Int.toNat_zero, List.map_cons, List.map_nil, List.getElem?_toArray, List.getElem?_cons_zero, ↓reduceIte, decide_true, decide_false, Bool.not_true, Bool.not_false, Bool.false_eq_true, look_eq, look_ne, putV_some, putV_none, ne_eq, Nat.reduceEqDiff, not_false_eq_true, *])
          | (refine W.ret ?_; try simp only [])
          | (refine W.exit ?_; simp only [↓reduceIte, Nat.reduceEqDiff])
          | refine W.skip ?_
          | refine W.seq ?_
          | refine W.block ?_
          | (refine W.cond _ (by simp only [ev_tmp, look_eq, look_ne, putV_some, putV_none, ne_eq, Nat.reduceEqDiff, not_false_eq_true, *]; rfl) ?_; simp only [decide_true, decide_false, *])
        refine hn _ ?_ ?_ ?_ <;> first | exact g0 | exact g24 | rfl
    · have hn := hnext (by simp [nm, k1])
      clear hnext hok hno
      repeat' first
        | refine W.regs ⟨rfl, rfl⟩ ?_
        | refine W.reg ⟨rfl, rfl⟩ ?_
        | refine N.nil ?_
        | refine N.free rfl ?_
        | (refine N.guarded _ _ rfl (by simp only [look_eq, look_ne, putV_some, putV_none, ne_eq, Nat.reduceEqDiff, not_false_eq_true, *]; rfl) rfl ?_; simp only [↓reduceIte, decide_true, decide_false, Bool.false_eq_true, Bool.true_eq_false, *])
        | refine Op1.pure (by decide) rfl rfl rfl (run24 _ _) rfl ?_
        | refine Op1.pure (by decide) rfl rfl rfl (run26 _ _) rfl ?_
        | (refine Op1.some ?_; simp (disch := omega) only [T1, T3, T4, T5, T9, T22, T23, T26, T38, T41, T43, T48, T50, T52, T54, T56, T61, T67, T68, opV, ev_tmp, ev_const, ev_func, ofValue, ofCell, binV, binP, arith, strOp, eqn, unP, Option.map_some, Option.bind_some, builtinV, lenV, indexV, below_at, upTo_at, wrap64, wrap8, Int.toNat_natCast, Int.toNat_zero, List.map_cons, List.map_nil, List.getElem?_toArray, List.getElem?_cons_zero, ↓reduceIte, decide_true, decide_false, Bool.not_true, Bool.not_false, Bool.false_eq_true, look_eq, look_ne, putV_some, putV_none, ne_eq, Nat.reduceEqDiff, not_false_eq_true, *])
        | (refine W.ret ?_; try simp only [])
        | (refine W.exit ?_; simp only [↓reduceIte, Nat.reduceEqDiff])
        | refine W.skip ?_
        | refine W.seq ?_
        | refine W.block ?_
        | (refine W.cond _ (by simp only [ev_tmp, look_eq, look_ne, putV_some, putV_none, ne_eq, Nat.reduceEqDiff, not_false_eq_true, *]; rfl) ?_; simp only [decide_true, decide_false, *])
      refine hn _ ?_ ?_ ?_ <;> first | exact g0 | exact g24 | rfl
  · have e3 := hok (by rw [← hall, List.take_of_length_le (by omega)])
    clear hok hno
    repeat' first
      | refine W.regs ⟨rfl, rfl⟩ ?_
      | refine W.reg ⟨rfl, rfl⟩ ?_
      | refine N.nil ?_
      | refine N.free rfl ?_
      | (refine N.guarded _ _ rfl (by simp only [look_eq, look_ne, putV_some, putV_none, ne_eq, Nat.reduceEqDiff, not_false_eq_true, *]; rfl) rfl ?_; simp only [↓reduceIte, decide_true, decide_false, Bool.false_eq_true, Bool.true_eq_false, *])
      | (refine Op1.some ?_; simp (disch := omega) only [T1, T3, T4, T5, T9, T22, T23, T26, T38, T41, T43, T48, T50, T52, T54, T56, T61, T67, T68, opV, ev_tmp, ev_const, ev_func, ofValue, ofCell, binV, binP, arith, strOp, eqn, unP, Option.map_some, Option.bind_some, builtinV, lenV, indexV, below_at, upTo_at, wrap64, wrap8, Int.toNat_natCast, Int.toNat_zero, List.map_cons, List.map_nil, List.getElem?_toArray, List.getElem?_cons_zero, ↓reduceIte, decide_true, decide_false, Bool.not_true, Bool.not_false, Bool.false_eq_true, look_eq, look_ne, putV_some, putV_none, ne_eq, Nat.reduceEqDiff, not_false_eq_true, *])
      | (refine W.ret ?_; try simp only [])
      | (refine W.exit ?_; simp only [↓reduceIte, Nat.reduceEqDiff])
      | refine W.skip ?_
      | refine W.seq ?_
      | refine W.block ?_
      | (refine W.cond _ (by simp only [ev_tmp, look_eq, look_ne, putV_some, putV_none, ne_eq, Nat.reduceEqDiff, not_false_eq_true, *]; rfl) ?_; simp only [decide_true, decide_false, *])
    exact e3 _
theorem run11 (s : List UInt8) (H : Hp) : CV cx 11 [.p (.str s)] H (.p (.bool (nameF s))) H := by
  refine CV.of cxF11 rfl ?_
  by_cases h1 : (s.length : Int) < 1
  · have e : nameF s = false := by
      cases s with
      | nil => rfl
      | cons c t => simp at h1; omega
    rw [e]
    repeat' first
      | refine W.regs ⟨rfl, rfl⟩ ?_
      | refine W.reg ⟨rfl, rfl⟩ ?_
      | refine N.nil ?_
      | refine N.free rfl ?_
      | (refine N.guarded _ _ rfl (by simp only [look_eq, look_ne, putV_some, putV_none, ne_eq, Nat.reduceEqDiff, not_false_eq_true, *]; rfl) rfl ?_; simp only [↓reduceIte, decide_true, decide_false, Bool.false_eq_true, Bool.true_eq_false, *, args0])
      | (refine Op1.some ?_; simp (disch := omega) only [T1, T3, T4, T5, T9, T22, T23, T26, T38, T41, T43, T48, T50, T52, T54, T56, T61, T67, T68, opV, ev_tmp, ev_const, ev_func, ofValue, ofCell, binV, binP, arith, strOp, eqn, unP, Option.map_some, Option.bind_some, builtinV, lenV, indexV, below_at, upTo_at, wrap64, wrap8, Int.toNat_natCast, Int.toNat_zero, List.map_cons, List.map_nil, List.getElem?_toArray, List.getElem?_cons_zero, ↓reduceIte, decide_true, decide_false, Bool.not_true, Bool.not_false, Bool.false_eq_true, look_eq, look_ne, putV_some, putV_none, ne_eq, Nat.reduceEqDiff, not_false_eq_true, *, args0])
      | (refine W.ret ?_; try simp only [])
      | (refine W.exit ?_; simp only [↓reduceIte, Nat.reduceEqDiff])
      | refine W.skip ?_
      | refine W.seq ?_
      | refine W.block ?_
      | (refine W.cond _ (by simp only [ev_tmp, look_eq, look_ne, putV_some, putV_none, ne_eq, Nat.reduceEqDiff, not_false_eq_true, *]; rfl) ?_; simp only [decide_true, decide_false, *, args0])
    exact ⟨.inr rfl, rfl, rfl⟩
  obtain ⟨c, t, rfl⟩ : ∃ c t, s = c :: t := by
    cases s with
    | nil => simp at h1
    | cons c t => exact ⟨c, t, rfl⟩
  have hc : (c :: t)[0]? = some c := rfl
  generalize hs : c :: t = s at *
  by_cases h2 : (s.length : Int) > 24
  · have e : nameF s = false := by
      have : ¬ s.length ≤ 24 := by omega
      subst hs
      simp [nameF]; intro h; simp at this; omega
    rw [e]
    repeat' first
      | refine W.regs ⟨rfl, rfl⟩ ?_
      | refine W.reg ⟨rfl, rfl⟩ ?_
      | refine N.nil ?_
      | refine N.free rfl ?_
      | (refine N.guarded _ _ rfl (by simp only [look_eq, look_ne, putV_some, putV_none, ne_eq, Nat.reduceEqDiff, not_false_eq_true, *]; rfl) rfl ?_; simp only [↓reduceIte, decide_true, decide_false, Bool.false_eq_true, Bool.true_eq_false, *, args0])
      | (refine Op1.some ?_; simp (disch := omega) only [T1, T3, T4, T5, T9, T22, T23, T26, T38, T41, T43, T48, T50, T52, T54, T56, T61, T67, T68, opV, ev_tmp, ev_const, ev_func, ofValue, ofCell, binV, binP, arith, strOp, eqn, unP, Option.map_some, Option.bind_some, builtinV, lenV, indexV, below_at, upTo_at, wrap64, wrap8, Int.toNat_natCast, Int.toNat_zero, List.map_cons, List.map_nil, List.getElem?_toArray, List.getElem?_cons_zero, ↓reduceIte, decide_true, decide_false, Bool.not_true, Bool.not_false, Bool.false_eq_true, look_eq, look_ne, putV_some, putV_none, ne_eq, Nat.reduceEqDiff, not_false_eq_true, *, args0])
      | (refine W.ret ?_; try simp only [])
      | (refine W.exit ?_; simp only [↓reduceIte, Nat.reduceEqDiff])
      | refine W.skip ?_
      | refine W.seq ?_
      | refine W.block ?_
      | (refine W.cond _ (by simp only [ev_tmp, look_eq, look_ne, putV_some, putV_none, ne_eq, Nat.reduceEqDiff, not_false_eq_true, *]; rfl) ?_; simp only [decide_true, decide_false, *, args0])
    exact ⟨.inr rfl, rfl, rfl⟩
  have e1 : nameF s = (lt c.toNat && (decide (resv s ≤ 0) && s.all nm)) := by
    have : s.length ≤ 24 := by omega
    subst hs
    simp only [nameF, this, decide_true, Bool.true_and]
  cases h3 : lt c.toNat
  · rw [h3] at e1
    rw [e1]
    repeat' first
      | refine W.regs ⟨rfl, rfl⟩ ?_
      | refine W.reg ⟨rfl, rfl⟩ ?_
      | refine N.nil ?_
      | refine N.free rfl ?_
      | (refine N.guarded _ _ rfl (by simp only [look_eq, look_ne, putV_some, putV_none, ne_eq, Nat.reduceEqDiff, not_false_eq_true, *]; rfl) rfl ?_; simp only [↓reduceIte, decide_true, decide_false, Bool.false_eq_true, Bool.true_eq_false, *, args0])
      | refine Op1.pure (by decide) rfl rfl rfl (run24 _ _) rfl ?_
      | (refine Op1.some ?_; simp (disch := omega) only [T1, T3, T4, T5, T9, T22, T23, T26, T38, T41, T43, T48, T50, T52, T54, T56, T61, T67, T68, opV, ev_tmp, ev_const, ev_func, ofValue, ofCell, binV, binP, arith, strOp, eqn, unP, Option.map_some, Option.bind_some, builtinV, lenV, indexV, below_at, upTo_at, wrap64, wrap8, Int.toNat_natCast, Int.toNat_zero, List.map_cons, List.map_nil, List.getElem?_toArray, List.getElem?_cons_zero, ↓reduceIte, decide_true, decide_false, Bool.not_true, Bool.not_false, Bool.false_eq_true, look_eq, look_ne, putV_some, putV_none, ne_eq, Nat.reduceEqDiff, not_false_eq_true, *, args0])
      | (refine W.ret ?_; try simp only [])
      | (refine W.exit ?_; simp only [↓reduceIte, Nat.reduceEqDiff])
      | refine W.skip ?_
      | refine W.seq ?_
      | refine W.block ?_
      | (refine W.cond _ (by simp only [ev_tmp, look_eq, look_ne, putV_some, putV_none, ne_eq, Nat.reduceEqDiff, not_false_eq_true, *]; rfl) ?_; simp only [decide_true, decide_false, *, args0])
    exact ⟨.inr rfl, rfl, rfl⟩
  by_cases h4 : resv s > 0
  · have e2 : nameF s = false := by rw [e1, h3]; simp; intro h; omega
    rw [e2]
    repeat' first
      | refine W.regs ⟨rfl, rfl⟩ ?_
      | refine W.reg ⟨rfl, rfl⟩ ?_
      | refine N.nil ?_
      | refine N.free rfl ?_
      | (refine N.guarded _ _ rfl (by simp only [look_eq, look_ne, putV_some, putV_none, ne_eq, Nat.reduceEqDiff, not_false_eq_true, *]; rfl) rfl ?_; simp only [↓reduceIte, decide_true, decide_false, Bool.false_eq_true, Bool.true_eq_false, *, args0])
      | refine Op1.pure (by decide) rfl rfl rfl (run24 _ _) rfl ?_
      | refine Op1.pure (by decide) rfl rfl rfl (run25 _ _) rfl ?_
      | (refine Op1.some ?_; simp (disch := omega) only [T1, T3, T4, T5, T9, T22, T23, T26, T38, T41, T43, T48, T50, T52, T54, T56, T61, T67, T68, opV, ev_tmp, ev_const, ev_func, ofValue, ofCell, binV, binP, arith, strOp, eqn, unP, Option.map_some, Option.bind_some, builtinV, lenV, indexV, below_at, upTo_at, wrap64, wrap8, Int.toNat_natCast, Int.toNat_zero, List.map_cons, List.map_nil, List.getElem?_toArray, List.getElem?_cons_zero, ↓reduceIte, decide_true, decide_false, Bool.not_true, Bool.not_false, Bool.false_eq_true, look_eq, look_ne, putV_some, putV_none, ne_eq, Nat.reduceEqDiff, not_false_eq_true, *, args0])
      | (refine W.ret ?_; try simp only [])
      | (refine W.exit ?_; simp only [↓reduceIte, Nat.reduceEqDiff])
      | refine W.skip ?_
      | refine W.seq ?_
      | refine W.block ?_
      | (refine W.cond _ (by simp only [ev_tmp, look_eq, look_ne, putV_some, putV_none, ne_eq, Nat.reduceEqDiff, not_false_eq_true, *]; rfl) ?_; simp only [decide_true, decide_false, *, args0])
    exact ⟨.inr rfl, rfl, rfl⟩
  have e2 : nameF s = s.all nm := by
    have : resv s ≤ 0 := by omega
    rw [e1, h3]; simp [this]
  rw [e2]
  repeat' first
    | refine W.regs ⟨rfl, rfl⟩ ?_
    | refine W.reg ⟨rfl, rfl⟩ ?_
    | refine N.nil ?_
    | refine N.free rfl ?_
    | (refine N.guarded _ _ rfl (by simp only [look_eq, look_ne, putV_some, putV_none, ne_eq, Nat.reduceEqDiff, not_false_eq_true, *]; rfl) rfl ?_; simp only [↓reduceIte, decide_true, decide_false, Bool.false_eq_true, Bool.true_eq_false, *, args0])
    | refine Op1.pure (by decide) rfl rfl rfl (run24 _ _) rfl ?_
    | refine Op1.pure (by decide) rfl rfl rfl (run25 _ _) rfl ?_
    | (refine Op1.some ?_; simp (disch := omega) only [T1, T3, T4, T5, T9, T22, T23, T26, T38, T41, T43, T48, T50, T52, T54, T56, T61, T67, T68, opV, ev_tmp, ev_const, ev_func, ofValue, ofCell, binV, binP, arith, strOp, eqn, unP, Option.map_some, Option.bind_some, builtinV, lenV, indexV, below_at, upTo_at, wrap64, wrap8, Int.toNat_natCast, Int.toNat_zero, List.map_cons, List.map_nil, List.getElem?_toArray, List.getElem?_cons_zero, ↓reduceIte, decide_true, decide_false, Bool.not_true, Bool.not_false, Bool.false_eq_true, look_eq, look_ne, putV_some, putV_none, ne_eq, Nat.reduceEqDiff, not_false_eq_true, *, args0])
    | (refine W.ret ?_; try simp only [])
    | (refine W.exit ?_; simp only [↓reduceIte, Nat.reduceEqDiff])
    | refine W.skip ?_
    | refine W.seq ?_
    | refine W.block ?_
    | (refine W.cond _ (by simp only [ev_tmp, look_eq, look_ne, putV_some, putV_none, ne_eq, Nat.reduceEqDiff, not_false_eq_true, *]; rfl) ?_; simp only [decide_true, decide_false, *, args0])
  refine run11_loop s (by omega) _ _ _ _ rfl rfl rfl (fun h e => ?_) (fun h e he => ?_)
  · rw [h]
    simp only [↓reduceIte]
    repeat' first
      | refine W.regs ⟨rfl, rfl⟩ ?_
      | refine W.reg ⟨rfl, rfl⟩ ?_
      | refine N.nil ?_
      | refine N.free rfl ?_
      | (refine N.guarded _ _ rfl (by simp only [look_eq, look_ne, putV_some, putV_none, ne_eq, Nat.reduceEqDiff, not_false_eq_true, *]; rfl) rfl ?_; simp only [↓reduceIte, decide_true, decide_false, Bool.false_eq_true, Bool.true_eq_false, *])
      | (refine Op1.some ?_; simp (disch := omega) only [T1, T3, T4, T5, T9, T22, T23, T26, T38, T41, T43, T48, T50, T52, T54, T56, T61, T67, T68, opV, ev_tmp, ev_const, ev_func, ofValue, ofCell, binV, binP, arith, strOp, eqn, unP, Option.map_some, Option.bind_some, builtinV, lenV, indexV, below_at, upTo_at, wrap64, wrap8, Int.toNat_natCast, Int.toNat_zero, List.map_cons, List.map_nil, List.getElem?_toArray, List.getElem?_cons_zero, ↓reduceIte, decide_true, decide_false, Bool.not_true, Bool.not_false, Bool.false_eq_true, look_eq, look_ne, putV_some, putV_none, ne_eq, Nat.reduceEqDiff, not_false_eq_true, *])
      | (refine W.ret ?_; try simp only [])
      | (refine W.exit ?_; simp only [↓reduceIte, Nat.reduceEqDiff])
      | refine W.skip ?_
      | refine W.seq ?_
      | refine W.block ?_
      | (refine W.cond _ (by simp only [ev_tmp, look_eq, look_ne, putV_some, putV_none, ne_eq, Nat.reduceEqDiff, not_false_eq_true, *]; rfl) ?_; simp only [decide_true, decide_false, *])
    exact ⟨.inr rfl, rfl, rfl⟩
  · rw [h]
    simp only []
    exact ⟨.inr rfl, results_one rfl he, rfl⟩
end Go.Proofs.YtkjpfmmpiapfaaaDoor
