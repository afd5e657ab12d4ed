/-
  InfixShows: for every expression, every list of names and every number of arguments the law returns true and its input reads as it read. No condition beside the row's own (the table of signs holds what the program's text lays).
-/
import Derived.Test.YtojpocfnjigmfaaDoorCards
import Derived.Test.YtojpocfnjigmfaaDoorTie
import Derived.Test.YtojpocfnjigmfaaDoorE11
import Derived.Test.YtojpocfnjigmfaaDoorERow
namespace Go.Proofs.YtojpocfnjigmfaaDoor
open Go Go.ChangeShapes Go.WideShapes Go.ChangeAt Go.RowKit Go.AX
namespace InfixShows
theorem reads (os : Os) {H : Type} (enc : TypeId × Value → H) : ∃ places, DataW.whole enc Tryd.prog ((World.doorLaid Tryd.prog 400 os).forCall (fun _ _ => 0) ⟨#[], #[.slice none 0 0, .slice none 0 0, .int .i64 0], []⟩).memory Tryd.f3.params.toList Rows.infixShowsSpec.vars false #[Value.slice none 0 0, .slice none 0 0, .int .i64 0].toList 8 = some ([.nil, .nil, .lit (.int .i64 0)], [], places) :=
  ⟨[], by kernel_rfl⟩
theorem run (D : Type) (ds : List (DataW D)) (xs : List Pv) (h : FitAll [.slice 2 (.struct [.int .i64, .int .i64]), .slice 1 .str, .int .i64] ds xs) : ∃ n H', call cx n 3 (xs.map .p) [] = some (.p (.bool true), H') := by
  obtain ⟨d1, ds, x1, xs, rfl, rfl, hf1, hx1, h⟩ := fitAll_cons h
  obtain ⟨d2, ds, x2, xs, rfl, rfl, hf2, hx2, h⟩ := fitAll_cons h
  obtain ⟨d3, ds, x3, xs, rfl, rfl, hf3, hx3, h⟩ := fitAll_cons h
  obtain ⟨rfl, rfl⟩ := fitAll_nil h
  simp only [Sh.isS] at hx1 hx2 hx3
  rw [hx1] at hf1
  rw [hx2] at hf2
  rw [hx3] at hf3
  obtain ⟨i1, code, hl1⟩ := fit_code hf1
  obtain ⟨i2, vs, hl2⟩ := fit_strs' hf2
  obtain ⟨n, hn, n1, n2⟩ := fit_i64 hf3
  obtain rfl := (List.cons.inj hn).1
  obtain ⟨H', k, hk⟩ := shows_run code x1 i1 hl1 x2 i2 vs hl2 n (by omega)
  exact ⟨k, H', hk⟩

set_option maxRecDepth 100000 in
theorem lifted (os : Os) (started : os.Started) (H : Type) (enc : TypeId × Value → H) (F : Stop.Interp) :
    ReturnsInHanded {} Tryd.checked os 3 .any ((OpenSpec.ofChange Rows.infixShowsSpec).preRow enc Tryd.prog Tryd.f3 Rows.infixShowsRow.domain false Rows.infixShowsRow.laid) (((OpenSpec.ofChange Rows.infixShowsSpec).at F).post enc Tryd.prog Tryd.f3 false true false false) := by
  obtain ⟨places, hx⟩ := reads os enc
  refine returnsInHanded_of_row (C := Tryd.checked) (s := OpenSpec.ofChange Rows.infixShowsSpec) own started (by kernel_rfl) Tryd.func3
    (witness_row_at (enc := enc) (C := Tryd.checked) false (World.doorLaid Tryd.prog 400 os) #[.slice none 0 0, .slice none 0 0, .int .i64 0] rfl (by kernel_rfl) (by kernel_rfl) (by kernel_rfl)
      (OpenSpec.preRow_of_cond 8 hx (by kernel_rfl) (fun k hk => by cases hk) (by kernel_rfl) (laid_met os _))) ?_
  intro W base args ds gs before hval hW _ _ _ hL _ _
  exact contract_true (N := 5) (shs := [.slice 2 (.struct [.int .i64, .int .i64]), .slice 1 .str, .int .i64]) (tb := 4) cxOk laidOut rfl (by kernel_rfl) (by kernel_rfl) rfl (by kernel_rfl)
    (fun {ds xs} h => by
      obtain ⟨d, ds, x, xs, rfl, rfl, -, -, h⟩ := fitAll_cons h
      obtain ⟨d, ds, x, xs, rfl, rfl, -, -, h⟩ := fitAll_cons h
      obtain ⟨d, ds, x, xs, rfl, rfl, -, -, h⟩ := fitAll_cons h
      obtain ⟨rfl, rfl⟩ := fitAll_nil h
      rfl) hval hW (glOk hL) (fun xs h => run H ds xs h)

theorem said : Rows.InfixShowsSaid :=
  OpenClaim.holds_of_cond 3 Tryd.f3 rfl rfl rfl rfl rfl rfl rfl ⟨rfl, rfl, rfl, rfl, rfl⟩ rfl rfl rfl rfl rfl (by kernel_rfl) Tryd.func3 (by kernel_rfl)
    (of_decide_eq_true (by kernel_rfl)) (by unfold Func.isWrapper; first | (rw [if_pos (by decide +kernel)]; kernel_rfl) | (rw [if_neg (by decide +kernel)]; exact ⟨rfl, rfl⟩))
    (fun os started H enc _ F => by rw [OpenClaim.pre_eq_preRow]; exact lifted os started H enc F)

theorem plain (f : FuncId) (fn : Func) (hf : Tryd.pinned.checked.prog.funcNamed "surmise/surmiselaw04.InfixShows" = some f) (hfn : Tryd.pinned.checked.prog.funcs[f]? = some fn) :
    false = Tryd.pinned.checked.prog.looks [] ∧ ∀ (j : Nat) t, fn.params[j]? = some t → Tryd.pinned.checked.prog.wantsStandIn t = false := by
  obtain rfl : f = 3 := Option.some.inj ((show Tryd.prog.funcNamed "surmise/surmiselaw04.InfixShows" = some 3 by kernel_rfl).symm.trans hf) |>.symm
  obtain rfl : fn = Tryd.f3 := (Option.some.inj (Tryd.func3.symm.trans hfn)).symm
  refine ⟨by kernel_rfl, fun j t ht => ?_⟩
  rw [Tryd.params3] at ht
  have hm : t ∈ [22, 23, 3] := by simpa using Array.mem_of_getElem? ht
  have hall : ([22, 23, 3].all fun u => !Tryd.prog.wantsStandIn u) = true := by kernel_rfl
  exact (show Tryd.prog.wantsStandIn t = false by simpa using List.all_eq_true.1 hall t hm)
end InfixShows

theorem infixShows_holds : Rows.InfixShowsCardSaid :=
  Claim7.holds_tied_plain_at .later [] _ _ _ _ InfixShows.said (fun _ h => by cases h) (by kernel_rfl) (fun _ h => by cases h) infixShows_row_tie rfl ⟨rfl, rfl⟩ (by kernel_rfl) rfl InfixShows.plain (by kernel_rfl)
#print axioms infixShows_holds
end Go.Proofs.YtojpocfnjigmfaaDoor
