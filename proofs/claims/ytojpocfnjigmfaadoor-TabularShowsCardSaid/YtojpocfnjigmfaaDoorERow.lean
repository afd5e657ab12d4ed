/-
  WHAT ALL ROWS OF THIS SEAT SHARE: the table of signs as the program lays it; the arguments as lists.
-/
import Derived.Test.YtojpocfnjigmfaaDoorRows
import Derived.Test.YtojpocfnjigmfaaDoorChecked
import Derived.Test.YtojpocfnjigmfaaDoorAX15
import Derived.Test.YtojpocfnjigmfaaDoorAX20
import Derived.Test.YtojpocfnjigmfaaDoorZ1
import Derived.WalkKit
import Derived.ProofKit
import Derived.OpenShut
import Derived.Deep.DeepHandedRow
import Derived.Lib.LaidTab
import Derived.LaidMore
import Derived.Stop.Joined
import Derived.SevenTiedAt
namespace Go.Proofs.YtojpocfnjigmfaaDoor
open Go Go.ChangeShapes Go.WideShapes Go.ChangeAt Go.RowKit Go.AX
theorem own : ownKnob Tryd.prog.godebug = none := by kernel_rfl
theorem gSigns : Tryd.prog.globalNamed "surmise/infix.signs" = some 0 := by kernel_rfl
theorem tSigns : (Tryd.prog.globals[0]?).map (·.type) = some 109 := by kernel_rfl
theorem shSigns : shOf Tryd.prog 5 109 = some (.struct (List.replicate 16 .str)) := by kernel_rfl
theorem laidOut : laidOutB Tryd.prog = true := by kernel_rfl
theorem glOk {w : World} (h : laidMetH Tryd.prog [("surmise/infix.signs", Rows.laid_surmise_infix_signs)] w) : GlOK cx (G0 w) := by
  rw [MakeChecks.laidMetH_plain _ _ _ (by kernel_rfl)] at h
  obtain ⟨ps, hv, -⟩ := h
  obtain ⟨g, t, hg, ht, hx⟩ := laid_plain (N := 5) hv "surmise/infix.signs" Rows.laid_surmise_infix_signs (List.mem_singleton.2 rfl)
  obtain rfl := Option.some.inj (gSigns.symm.trans hg)
  obtain rfl := Option.some.inj (tSigns.symm.trans ht)
  obtain ⟨xs, hf, hp⟩ := hx _ shSigns
  have e : xs = sgn.map .str := fit_strs (ss := sgn) hf
  subst e
  intro g cs hg
  match g, hg with
  | 0, hg => cases hg; exact hp

theorem laid_met (os : Os) (args : Array Value) : laidMet Tryd.prog [("surmise/infix.signs", Rows.laid_surmise_infix_signs)] ((World.doorLaid Tryd.prog 400 os).forCall (fun _ _ => 0) ⟨#[], args, []⟩).memory :=
  laidMet_of_run' 8 (by kernel_rfl) (by kernel_rfl)
theorem fit_code {D : Type} {d : DataW D} {x : Pv} (h : Fit (.slice 2 (.struct [.int .i64, .int .i64])) d [x]) : IsL 2 x ∧ ∃ l : List Ins, elemsP x = l.map Ins.pv := by
  obtain ⟨h1, h2⟩ := fit_sl h
  refine ⟨h1, list_of fun y hy => ?_⟩
  obtain ⟨⟨d', hd⟩, hc, -⟩ := h2 y hy
  obtain ⟨cs, rfl⟩ := hc rfl
  obtain ⟨_, _, p, q, e, hp, hq⟩ := fit_struct_cons hd
  obtain ⟨_, _, p', q', e', hp', hq'⟩ := fit_struct_cons hq
  obtain rfl := fit_struct_nil hq'
  obtain ⟨n, rfl, -, -⟩ := fit_i64 hp
  obtain ⟨m, rfl, -, -⟩ := fit_i64 hp'
  subst e'
  refine ⟨⟨n, m⟩, ?_⟩
  simp only [Pv.cells] at e
  rw [e]
  rfl
end Go.Proofs.YtojpocfnjigmfaaDoor
