/-
  MORE ON ROWS: a listed table of texts; a law's row, put together.
-/
import Derived.Test.YtojpocfnjigmfaaDoorAX12
import Derived.Test.YtojpocfnjigmfaaDoorAX13
namespace Go.AX
open Go

theorem fit_strs {D : Type} {n : Nat} {ss : List (List UInt8)} {xs : List Pv} (h : Fit (D := D) (.struct (List.replicate n .str)) (.agg (ss.map fun s => .lit (.string s))) xs) : xs = ss.map .str := by
  cases h with
  | struct _ _ parts h1 h2 h =>
    have : parts = ss.map fun s => [Pv.str s] := by
      apply List.ext_getElem?
      intro i
      simp at h1 h2
      by_cases hi : i < ss.length
      · have hp : i < parts.length := by omega
        have := h i .str (.lit (.string ss[i])) parts[i] (by rw [List.getElem?_replicate, if_pos (by omega)]) (by rw [List.getElem?_map, List.getElem?_eq_getElem hi]; rfl) (List.getElem?_eq_getElem hp)
        rw [List.getElem?_eq_getElem hp]
        simp only [List.getElem?_map, List.getElem?_eq_getElem hi, Option.map_some]
        congr 1
        generalize parts[i] = p at this
        cases this with
        | str s hs => rfl
      · rw [List.getElem?_eq_none (by omega), List.getElem?_eq_none (by simp; omega)]
    rw [this]
    induction ss with
    | nil => rfl
    | cons s ss ih => 
      simp only [List.map_cons, List.flatten_cons]
      have : ∀ (l : List (List UInt8)), (l.map fun s => [Pv.str s]).flatten = l.map .str := by
        intro l
        induction l with
        | nil => rfl
        | cons s l ih => simp only [List.map_cons, List.flatten_cons, ih, List.singleton_append]
      rw [this]
      rfl

theorem fitAll_nil {D : Type} {ds : List (DataW D)} {xs : List Pv} (h : FitAll [] ds xs) : ds = [] ∧ xs = [] := by
  cases ds with
  | nil => cases xs with
    | nil => exact ⟨rfl, rfl⟩
    | cons x xs => exact h.elim
  | cons d ds => exact h.elim
theorem fitAll_cons {D : Type} {s : Sh} {ss : List Sh} {ds : List (DataW D)} {xs : List Pv} (h : FitAll (s :: ss) ds xs) :
    ∃ d ds' x xs', ds = d :: ds' ∧ xs = x :: xs' ∧ Fit s d x.cells ∧ (match s.isS with | true => ∃ cs, x = .agg cs | false => x.cells = [x]) ∧ FitAll ss ds' xs' := by
  cases ds with
  | nil => exact h.elim
  | cons d ds => cases xs with
    | nil => exact h.elim
    | cons x xs => exact ⟨d, ds, x, xs, rfl, rfl, h.1, h.2.1, h.2.2⟩
end Go.AX
