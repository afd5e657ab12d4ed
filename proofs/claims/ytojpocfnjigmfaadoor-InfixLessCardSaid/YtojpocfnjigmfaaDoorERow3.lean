/-
  InfixLess: for every expression, every list of names and every number of arguments the law returns true and its input reads as it read. No condition beside the row's own (the table of signs holds what the program's text lays).
-/
import Derived.Test.YtojpocfnjigmfaaDoorCards
import Derived.Test.YtojpocfnjigmfaaDoorTie
import Derived.Test.YtojpocfnjigmfaaDoorG6
import Derived.Test.YtojpocfnjigmfaaDoorAX22
import Derived.Test.YtojpocfnjigmfaaDoorERow
namespace Go.Proofs.YtojpocfnjigmfaaDoor
open Go Go.ChangeShapes Go.WideShapes Go.ChangeAt Go.RowKit Go.AX
namespace InfixLess
theorem reads (os : Os) {H : Type} (enc : TypeId × Value → H) : ∃ places, DataW.whole enc Tryd.prog ((World.doorLaid Tryd.prog 400 os).forCall (fun _ _ => 0) ⟨#[], #[.slice none 0 0, .slice none 0 0, .int .u8 0], []⟩).memory Tryd.f5.params.toList Rows.infixLessSpec.vars false #[Value.slice none 0 0, .slice none 0 0, .int .u8 0].toList 8 = some ([.nil, .nil, .lit (.int .u8 0)], [], places) :=
  ⟨[], by kernel_rfl⟩
theorem run (D : Type) (ds : List (DataW D)) (xs : List Pv) (h : FitAll [.slice 2 (.struct [.int .i64, .int .i64]), .slice 1 .str, .int .u8] ds xs) (hz : ∀ d1 d2 d3, ds = [d1, d2, d3] → ∀ n ∈ DataW.weights Tryd.prog 23 d2, n ≤ reachBytes) : ∃ n H', call cx n 5 (xs.map .p) [] = some (.p (.bool true), H') := by
  obtain ⟨d1, ds, x1, xs, rfl, rfl, hf1, hx1, h⟩ := fitAll_cons h
  obtain ⟨d2, ds, x2, xs, rfl, rfl, hf2, hx2, h⟩ := fitAll_cons h
  obtain ⟨d3, ds, x3, xs, rfl, rfl, hf3, hx3, h⟩ := fitAll_cons h
  obtain ⟨rfl, rfl⟩ := fitAll_nil h
  simp only [Sh.isS] at hx1 hx2 hx3
  rw [hx1] at hf1
  rw [hx2] at hf2
  rw [hx3] at hf3
  obtain ⟨i1, code, hl1⟩ := fit_code hf1
  obtain ⟨i2, vs, hl2, hvs⟩ := fit_strs_reach (P := Tryd.prog) hf2 (show Tryd.prog.underlying 23 = some (.slice 9) by kernel_rfl) (hz d1 d2 d3 rfl)
  obtain ⟨n, hn, n1⟩ := fit_u8 hf3
  obtain rfl := (List.cons.inj hn).1
  obtain ⟨H', k, hk⟩ := less_true code x1 i1 hl1 x2 i2 vs hl2 (fun v hv => Nat.le_trans (hvs v hv) (by decide)) n n1
  exact ⟨k, H', hk⟩

set_option maxRecDepth 100000 in
theorem lifted (os : Os) (started : os.Started) (H : Type) (enc : TypeId × Value → H) (F : Stop.Interp) :
    ReturnsInHanded {} Tryd.checked os 5 .any ((OpenSpec.ofChange Rows.infixLessSpec).preRow enc Tryd.prog Tryd.f5 Rows.infixLessRow.domain false Rows.infixLessRow.laid) (((OpenSpec.ofChange Rows.infixLessSpec).at F).post enc Tryd.prog Tryd.f5 false true false false) := by
  obtain ⟨places, hx⟩ := reads os enc
  refine returnsInHanded_of_row (C := Tryd.checked) (s := OpenSpec.ofChange Rows.infixLessSpec) own started (by kernel_rfl) Tryd.func5
    (witness_row_at (enc := enc) (C := Tryd.checked) false (World.doorLaid Tryd.prog 400 os) #[.slice none 0 0, .slice none 0 0, .int .u8 0] rfl (by kernel_rfl) (by kernel_rfl) (by kernel_rfl)
      (OpenSpec.preRow_of_cond 8 hx (by kernel_rfl) (fun k hk => by cases hk) (by kernel_rfl) (laid_met os _))) ?_
  intro W base args ds gs before hval hW _ _ hsz hL _ _
  have hz : ∀ d1 d2 d3, ds = [d1, d2, d3] → ∀ n ∈ DataW.weights Tryd.prog 23 d2, n ≤ reachBytes := by
    rintro d1 d2 d3 rfl n hn
    have h := List.all_eq_true.1 hsz n (by
      show n ∈ DataW.weights Tryd.prog 22 d1 ++ (DataW.weights Tryd.prog 23 d2 ++ _)
      simp only [List.mem_append]
      exact .inr (.inl hn))
    simpa using h
  exact contract_true (N := 5) (shs := [.slice 2 (.struct [.int .i64, .int .i64]), .slice 1 .str, .int .u8]) (tb := 4) cxOk laidOut rfl (by kernel_rfl) (by kernel_rfl) rfl (by kernel_rfl)
    (fun {ds xs} h => by
      obtain ⟨d, ds, x, xs, rfl, rfl, -, -, h⟩ := fitAll_cons h
      obtain ⟨d, ds, x, xs, rfl, rfl, -, -, h⟩ := fitAll_cons h
      obtain ⟨d, ds, x, xs, rfl, rfl, -, -, h⟩ := fitAll_cons h
      obtain ⟨rfl, rfl⟩ := fitAll_nil h
      rfl) hval hW (glOk hL) (fun xs h => run H ds xs h hz)

theorem said : Rows.InfixLessSaid :=
  OpenClaim.holds_of_cond 5 Tryd.f5 rfl rfl rfl rfl rfl rfl rfl ⟨rfl, rfl, rfl, rfl, rfl⟩ rfl rfl rfl rfl rfl (by kernel_rfl) Tryd.func5 (by kernel_rfl)
    (of_decide_eq_true (by kernel_rfl)) (by unfold Func.isWrapper; first | (rw [if_pos (by decide +kernel)]; kernel_rfl) | (rw [if_neg (by decide +kernel)]; exact ⟨rfl, rfl⟩))
    (fun os started H enc _ F => by rw [OpenClaim.pre_eq_preRow]; exact lifted os started H enc F)

theorem plain (f : FuncId) (fn : Func) (hf : Tryd.pinned.checked.prog.funcNamed "surmise/surmiselaw04.InfixLess" = some f) (hfn : Tryd.pinned.checked.prog.funcs[f]? = some fn) :
    false = Tryd.pinned.checked.prog.looks [] ∧ ∀ (j : Nat) t, fn.params[j]? = some t → Tryd.pinned.checked.prog.wantsStandIn t = false := by
  obtain rfl : f = 5 := Option.some.inj ((show Tryd.prog.funcNamed "surmise/surmiselaw04.InfixLess" = some 5 by kernel_rfl).symm.trans hf) |>.symm
  obtain rfl : fn = Tryd.f5 := (Option.some.inj (Tryd.func5.symm.trans hfn)).symm
  refine ⟨by kernel_rfl, fun j t ht => ?_⟩
  rw [Tryd.params5] at ht
  have hm : t ∈ [22, 23, 5] := by simpa using Array.mem_of_getElem? ht
  have hall : ([22, 23, 5].all fun u => !Tryd.prog.wantsStandIn u) = true := by kernel_rfl
  exact (show Tryd.prog.wantsStandIn t = false by simpa using List.all_eq_true.1 hall t hm)
end InfixLess

theorem infixLess_holds : Rows.InfixLessCardSaid :=
  Claim7.holds_tied_plain_at .later [] _ _ _ _ InfixLess.said (fun _ h => by cases h) (by kernel_rfl) (fun _ h => by cases h) infixLess_row_tie rfl ⟨rfl, rfl⟩ (by kernel_rfl) rfl InfixLess.plain (by kernel_rfl)
#print axioms infixLess_holds
end Go.Proofs.YtojpocfnjigmfaaDoor
