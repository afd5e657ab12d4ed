/-
  TabularShows: for every table the law returns true and its input reads as it read. No condition beside the row's own (the table of signs holds what the program's text lays).
-/
import Derived.Test.YtojpocfnjigmfaaDoorCards
import Derived.Test.YtojpocfnjigmfaaDoorTie
import Derived.Test.YtojpocfnjigmfaaDoorZ4
import Derived.Test.YtojpocfnjigmfaaDoorT25
import Derived.Test.YtojpocfnjigmfaaDoorERow
namespace Go.Proofs.YtojpocfnjigmfaaDoor
open Go Go.ChangeShapes Go.WideShapes Go.ChangeAt Go.RowKit Go.AX
def fldT (P : Program) (t : TypeId) : Option (List TypeId) := match P.underlying t with
  | some (.struct fs) => some (fs.toList.map (·.type))
  | _ => none
theorem agg_w {P : Program} {t : TypeId} {ts : List TypeId} (h : fldT P t = some ts) {D : Type} (l : List (DataW D)) : (DataW.agg l).weights P t = DataW.weightsEach P ts l := by
  unfold fldT at h
  split at h
  · rename_i fs hf
    simp only [DataW.weights, hf]
    rw [Option.some.inj h]
  · cases h
theorem tyT : TyT Tryd.prog := ⟨by kernel_rfl, by kernel_rfl, by kernel_rfl, by kernel_rfl, by kernel_rfl, by kernel_rfl, by decide +kernel, by decide +kernel, by decide +kernel, by decide +kernel, by decide +kernel, agg_w (by kernel_rfl), agg_w (by kernel_rfl), agg_w (by kernel_rfl)⟩
namespace TabularShows
theorem reads (os : Os) {H : Type} (enc : TypeId × Value → H) : ∃ places, DataW.whole enc Tryd.prog ((World.doorLaid Tryd.prog 400 os).forCall (fun _ _ => 0) ⟨#[], #[.agg #[.slice none 0 0, .slice none 0 0, .slice none 0 0, .slice none 0 0]], []⟩).memory Tryd.f6.params.toList Rows.tabularShowsSpec.vars false #[(.agg #[.slice none 0 0, .slice none 0 0, .slice none 0 0, .slice none 0 0] : Value)].toList 8 = some ([.agg [.nil, .nil, .nil, .nil]], [], places) :=
  ⟨[], by kernel_rfl⟩
theorem run (D : Type) (ds : List (DataW D)) (xs : List Pv) (h : FitAll [shT] ds xs) (hz : ∀ d, ds = [d] → Rch Tryd.prog 38 d) : ∃ n H', call cx n 6 (xs.map .p) [] = some (.p (.bool true), H') := by
  obtain ⟨d1, ds, x1, xs, rfl, rfl, hf1, hx1, h⟩ := fitAll_cons h
  obtain ⟨rfl, rfl⟩ := fitAll_nil h
  simp only [Sh.isS] at hx1
  obtain ⟨cs, rfl⟩ := hx1
  obtain ⟨t, s, v, a, q, e, P, B⟩ := fit_table tyT (show Fit shT d1 cs from hf1) (hz d1 rfl)
  subst e
  obtain ⟨H', k, hk⟩ := tshows_true t B s v a q P
  exact ⟨k, H', hk⟩

set_option maxRecDepth 100000 in
theorem lifted (os : Os) (started : os.Started) (H : Type) (enc : TypeId × Value → H) (F : Stop.Interp) :
    ReturnsInHanded {} Tryd.checked os 6 .any ((OpenSpec.ofChange Rows.tabularShowsSpec).preRow enc Tryd.prog Tryd.f6 Rows.tabularShowsRow.domain false Rows.tabularShowsRow.laid) (((OpenSpec.ofChange Rows.tabularShowsSpec).at F).post enc Tryd.prog Tryd.f6 false true false false) := by
  obtain ⟨places, hx⟩ := reads os enc
  refine returnsInHanded_of_row (C := Tryd.checked) (s := OpenSpec.ofChange Rows.tabularShowsSpec) own started (by kernel_rfl) Tryd.func6
    (witness_row_at (enc := enc) (C := Tryd.checked) false (World.doorLaid Tryd.prog 400 os) #[.agg #[.slice none 0 0, .slice none 0 0, .slice none 0 0, .slice none 0 0]] rfl (by kernel_rfl) (by kernel_rfl) (by kernel_rfl)
      (OpenSpec.preRow_of_cond 8 hx (by kernel_rfl) (fun k hk => by cases hk) (by kernel_rfl) (laid_met os _))) ?_
  intro W base args ds gs before hval hW _ _ hsz hL _ _
  have hz : ∀ d, ds = [d] → Rch Tryd.prog 38 d := by
    rintro d rfl n hn
    have h := List.all_eq_true.1 hsz n (by
      show n ∈ DataW.weights Tryd.prog 38 d ++ _
      simp only [List.mem_append]
      exact .inl hn)
    simpa using h
  exact contract_true (N := 12) (shs := [shT]) (tb := 4) cxOk laidOut rfl (by kernel_rfl) (by kernel_rfl) rfl (by kernel_rfl)
    (fun {ds xs} h => by
      obtain ⟨d, ds, x, xs, rfl, rfl, -, -, h⟩ := fitAll_cons h
      obtain ⟨rfl, rfl⟩ := fitAll_nil h
      rfl) hval hW (glOk hL) (fun xs h => run H ds xs h hz)

theorem said : Rows.TabularShowsSaid :=
  OpenClaim.holds_of_cond 6 Tryd.f6 rfl rfl rfl rfl rfl rfl rfl ⟨rfl, rfl, rfl, rfl, rfl⟩ rfl rfl rfl rfl rfl (by kernel_rfl) Tryd.func6 (by kernel_rfl)
    (of_decide_eq_true (by kernel_rfl)) (by unfold Func.isWrapper; first | (rw [if_pos (by decide +kernel)]; kernel_rfl) | (rw [if_neg (by decide +kernel)]; exact ⟨rfl, rfl⟩))
    (fun os started H enc _ F => by rw [OpenClaim.pre_eq_preRow]; exact lifted os started H enc F)

theorem plain (f : FuncId) (fn : Func) (hf : Tryd.pinned.checked.prog.funcNamed "surmise/surmiselaw06.TabularShows" = some f) (hfn : Tryd.pinned.checked.prog.funcs[f]? = some fn) :
    false = Tryd.pinned.checked.prog.looks [] ∧ ∀ (j : Nat) t, fn.params[j]? = some t → Tryd.pinned.checked.prog.wantsStandIn t = false := by
  obtain rfl : f = 6 := Option.some.inj ((show Tryd.prog.funcNamed "surmise/surmiselaw06.TabularShows" = some 6 by kernel_rfl).symm.trans hf) |>.symm
  obtain rfl : fn = Tryd.f6 := (Option.some.inj (Tryd.func6.symm.trans hfn)).symm
  refine ⟨by kernel_rfl, fun j t ht => ?_⟩
  rw [Tryd.params6] at ht
  have hm : t ∈ [38] := by simpa using Array.mem_of_getElem? ht
  have hall : ([38].all fun u => !Tryd.prog.wantsStandIn u) = true := by kernel_rfl
  exact (show Tryd.prog.wantsStandIn t = false by simpa using List.all_eq_true.1 hall t hm)
end TabularShows

theorem tabularShows_holds : Rows.TabularShowsCardSaid :=
  Claim7.holds_tied_plain_at .later [] _ _ _ _ TabularShows.said (fun _ h => by cases h) (by kernel_rfl) (fun _ h => by cases h) tabularShows_row_tie rfl ⟨rfl, rfl⟩ (by kernel_rfl) rfl TabularShows.plain (by kernel_rfl)
#print axioms tabularShows_holds
end Go.Proofs.YtojpocfnjigmfaaDoor
