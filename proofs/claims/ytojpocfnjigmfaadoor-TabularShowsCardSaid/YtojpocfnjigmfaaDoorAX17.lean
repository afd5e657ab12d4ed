/-
  A CONTEXT WITH FUNCTIONS LEFT OUT: those whose regions cannot be told in any order are no part of it.
-/
import Derived.Test.YtojpocfnjigmfaaDoorAX12
import Derived.Test.YtojpocfnjigmfaaDoorAX16
namespace Go.AX
open Go
def memN : List Nat → Nat → Bool
  | [], _ => false
  | k :: l, f => match Nat.beq k f with
    | true => true
    | false => memN l f
def mkCxE (P : Program) (T : TypeId → Option TI) (h : FuncId → List (Nat × RH)) (ex : List Nat) (gl : Nat → Option (List Pv)) : Cx where
  T := T
  F f := match memN ex f with
    | true => none
    | false => match P.funcs[f]? with
      | some fn => match fn.body with
        | some b => some { body := b, ntmps := fn.ntmps, results := fn.results.toList, hints := h f }
        | none => none
      | none => none
  gl := gl
theorem mkCxE_ok {P : Program} {T : TypeId → Option TI} {h : FuncId → List (Nat × RH)} {ex : List Nat} {gl : Nat → Option (List Pv)} {n : Nat} (hT : TOK P T) (hn : Nat.ble P.funcs.size n = true) (hc : ((List.range n).all fun f => memN ex f || chkF P h f) = true) : CxOK P (mkCxE P T h ex gl) where
  T := hT
  F f fi hf := by
    simp only [mkCxE] at hf
    split at hf
    · cases hf
    · rename_i hx
      split at hf
      · rename_i fn hfn
        split at hf
        · rename_i b hb
          cases hf
          have hlt : f < n := by
            have h1 : f < P.funcs.size := (Array.getElem?_eq_some_iff.1 hfn).1
            exact Nat.lt_of_lt_of_le h1 (Nat.le_of_ble_eq_true hn)
          have := List.all_eq_true.1 hc f (List.mem_range.2 hlt)
          simp only [hx, Bool.false_or, chkF, hfn, hb, Bool.and_eq_true] at this
          refine ⟨fn, hfn, fun e => ?_, hb, rfl, rfl, this.2⟩
          have h1 := this.1
          rw [e] at h1
          simp at h1
        · cases hf
      · cases hf
end Go.AX
namespace Go.AX
def IsL (sz : Nat) (x : Pv) : Prop := x = .nils ∨ ∃ ex l, x = .sl sz ex l
def elemsP : Pv → List Pv
  | .sl _ _ l => l
  | _ => []
theorem isL_sl {sz : Nat} {ex : Bool} {l : List Pv} : IsL sz (.sl sz ex l) := .inr ⟨ex, l, rfl⟩
theorem isL_nil {sz : Nat} : IsL sz .nils := .inl rfl
theorem lenV_L {sz e eb size : Nat} {ag u agg : Bool} {zero : List Pv} {zv : Option Pv} {eq : Option (List Nat)} {x : Pv} (h : IsL sz x) : lenV ⟨.slice e sz eb ag u, size, agg, zero, zv, eq⟩ (.p x) = some (elemsP x).length := by
  rcases h with rfl | ⟨ex, l, rfl⟩ <;> rfl
theorem idx_L {sz e eb size : Nat} {ag u agg : Bool} {zero : List Pv} {zv : Option Pv} {eq : Option (List Nat)} {x : Pv} {i : V} (h : IsL sz x) : indexAddrV ⟨.slice e sz eb ag u, size, agg, zero, zv, eq⟩ (.p x) i = match below i (elemsP x).length with | some k => ((elemsP x)[k]?).map fun e => .p (.ep e.cells) | none => none := by
  rcases h with rfl | ⟨ex, l, rfl⟩
  · simp only [indexAddrV, elemsP, List.length_nil]
    have : below i 0 = none := by
      unfold below
      split
      · rfl
      · rfl
    rw [this]
  · simp only [indexAddrV, elemsP, Nat.beq_refl]
    cases below i l.length <;> rfl
end Go.AX
