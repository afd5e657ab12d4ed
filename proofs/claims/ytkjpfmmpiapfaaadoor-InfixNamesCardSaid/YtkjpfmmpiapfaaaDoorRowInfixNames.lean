/-
  InfixNames: for every text the law returns true and the text reads as it read. No condition beside the row's own (the table of signs holds what the program's text lays).
-/
import Derived.Test.YtkjpfmmpiapfaaaDoorCards
import Derived.Test.YtkjpfmmpiapfaaaDoorTie
import Derived.Test.YtkjpfmmpiapfaaaDoorNames
import Derived.Test.YtkjpfmmpiapfaaaDoorAX15
import Derived.WalkKit
import Derived.ProofKit
import Derived.OpenShut
import Derived.Deep.DeepHandedRow
import Derived.Lib.LaidTab
import Derived.LaidMore
import Derived.Stop.Joined
import Derived.SevenTiedAt
namespace Go.Proofs.YtkjpfmmpiapfaaaDoor
open Go Go.ChangeShapes Go.WideShapes Go.ChangeAt Go.RowKit Go.AX

theorem own : ownKnob Tryd.prog.godebug = none := by kernel_rfl
theorem gSigns : Tryd.prog.globalNamed "surmise/infix.signs" = some 0 := by kernel_rfl
theorem tSigns : (Tryd.prog.globals[0]?).map (·.type) = some 61 := by kernel_rfl
theorem shSigns : shOf Tryd.prog 5 61 = some (.struct (List.replicate 16 .str)) := by kernel_rfl
theorem laidOut : laidOutB Tryd.prog = true := by kernel_rfl

theorem glOk {w : World} (h : laidMetH Tryd.prog [("surmise/infix.signs", Rows.laid_surmise_infix_signs)] w) : GlOK cx (G0 w) := by
  rw [MakeChecks.laidMetH_plain _ _ _ (by kernel_rfl)] at h
  obtain ⟨ps, hv, -⟩ := h
  obtain ⟨g, t, hg, ht, hx⟩ := laid_plain (N := 5) hv "surmise/infix.signs" Rows.laid_surmise_infix_signs (List.mem_singleton.2 rfl)
  obtain rfl := Option.some.inj (gSigns.symm.trans hg)
  obtain rfl := Option.some.inj (tSigns.symm.trans ht)
  obtain ⟨xs, hf, hp⟩ := hx _ shSigns
  have e : xs = sgn.map .str := fit_strs (ss := sgn) hf
  subst e
  intro g cs hg
  match g, hg with
  | 0, hg => cases hg; exact hp

/-- A world for the witness: the door's own heap. -/
theorem laid_met (os : Os) (args : Array Value) : laidMet Tryd.prog [("surmise/infix.signs", Rows.laid_surmise_infix_signs)] ((World.doorLaid Tryd.prog 400 os).forCall (fun _ _ => 0) ⟨#[], args, []⟩).memory :=
  laidMet_of_run' 8 (by kernel_rfl) (by kernel_rfl)

namespace InfixNames
theorem reads (os : Os) {H : Type} (enc : TypeId × Value → H) : ∃ places, DataW.whole enc Tryd.prog ((World.doorLaid Tryd.prog 400 os).forCall (fun _ _ => 0) ⟨#[], #[.string ByteArray.empty], []⟩).memory Tryd.f4.params.toList Rows.infixNamesSpec.vars false #[Value.string ByteArray.empty].toList 8 = some ([.lit (.string [])], [], places) :=
  ⟨[], by kernel_rfl⟩

theorem run (D : Type) (ds : List (DataW D)) (xs : List Pv) (h : FitAll [Sh.str] ds xs) : ∃ n H', call cx n 4 (xs.map .p) [] = some (.p (.bool true), H') := by
  obtain ⟨d, ds, x, xs, rfl, rfl, hf, hx, h⟩ := fitAll_cons h
  obtain ⟨rfl, rfl⟩ := fitAll_nil h
  simp only [Sh.isS] at hx
  rw [hx] at hf
  cases hf with
  | str s hs =>
    obtain ⟨H', n, hn⟩ := run4 s
    exact ⟨n, H', hn⟩

set_option maxRecDepth 100000 in
theorem lifted (os : Os) (started : os.Started) (H : Type) (enc : TypeId × Value → H) (F : Stop.Interp) :
    ReturnsInHanded {} Tryd.checked os 4 .any ((OpenSpec.ofChange Rows.infixNamesSpec).preRow enc Tryd.prog Tryd.f4 Rows.infixNamesRow.domain false Rows.infixNamesRow.laid) (((OpenSpec.ofChange Rows.infixNamesSpec).at F).post enc Tryd.prog Tryd.f4 false true false false) := by
  obtain ⟨places, hx⟩ := reads os enc
  refine returnsInHanded_of_row (C := Tryd.checked) (s := OpenSpec.ofChange Rows.infixNamesSpec) own started (by kernel_rfl) Tryd.func4
    (witness_row_at (enc := enc) (C := Tryd.checked) false (World.doorLaid Tryd.prog 400 os) #[.string ByteArray.empty] rfl (by kernel_rfl) (by kernel_rfl) (by kernel_rfl)
      (OpenSpec.preRow_of_cond 8 hx (by kernel_rfl) (fun k hk => by cases hk) (by kernel_rfl) (laid_met os _))) ?_
  intro W base args ds gs before hval hW _ _ _ hL _ _
  exact contract_true (N := 5) (shs := [.str]) (tb := 4) cxOk laidOut rfl (by kernel_rfl) (by kernel_rfl) rfl (by kernel_rfl)
    (fun {ds xs} h => by
      obtain ⟨d, ds, x, xs, rfl, rfl, -, -, h⟩ := fitAll_cons h
      obtain ⟨rfl, rfl⟩ := fitAll_nil h
      rfl) hval hW (glOk hL) (fun xs h => run H ds xs h)

theorem said : Rows.InfixNamesSaid :=
  OpenClaim.holds_of_cond 4 Tryd.f4 rfl rfl rfl rfl rfl rfl rfl ⟨rfl, rfl, rfl, rfl, rfl⟩ rfl rfl rfl rfl rfl (by kernel_rfl) Tryd.func4 (by kernel_rfl)
    (of_decide_eq_true (by kernel_rfl)) (by unfold Func.isWrapper; first | (rw [if_pos (by decide +kernel)]; kernel_rfl) | (rw [if_neg (by decide +kernel)]; exact ⟨rfl, rfl⟩))
    (fun os started H enc _ F => by rw [OpenClaim.pre_eq_preRow]; exact lifted os started H enc F)

theorem plain (f : FuncId) (fn : Func) (hf : Tryd.pinned.checked.prog.funcNamed "surmise/surmiselaw04.InfixNames" = some f) (hfn : Tryd.pinned.checked.prog.funcs[f]? = some fn) :
    false = Tryd.pinned.checked.prog.looks [] ∧ ∀ (j : Nat) t, fn.params[j]? = some t → Tryd.pinned.checked.prog.wantsStandIn t = false := by
  obtain rfl : f = 4 := Option.some.inj ((show Tryd.prog.funcNamed "surmise/surmiselaw04.InfixNames" = some 4 by kernel_rfl).symm.trans hf) |>.symm
  obtain rfl : fn = Tryd.f4 := (Option.some.inj (Tryd.func4.symm.trans hfn)).symm
  refine ⟨by kernel_rfl, fun j t ht => ?_⟩
  rw [Tryd.params4] at ht
  have hm : t ∈ [9] := by simpa using Array.mem_of_getElem? ht
  have hall : ([9].all fun u => !Tryd.prog.wantsStandIn u) = true := by kernel_rfl
  exact (show Tryd.prog.wantsStandIn t = false by simpa using List.all_eq_true.1 hall t hm)
end InfixNames

theorem infixNames_holds : Rows.InfixNamesCardSaid :=
  Claim7.holds_tied_plain_at .later [] _ _ _ _ InfixNames.said (fun _ h => by cases h) (by kernel_rfl) (fun _ h => by cases h) infixNames_row_tie rfl ⟨rfl, rfl⟩ (by kernel_rfl) rfl InfixNames.plain (by kernel_rfl)
#print axioms infixNames_holds
end Go.Proofs.YtkjpfmmpiapfaaaDoor
