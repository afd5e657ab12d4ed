/-
  WHAT AN ARGUMENT READS: slices of numbers, texts and structs, as lists.
-/
import Derived.Test.YtojpocfnjigmfaaDoorAX15
import Derived.Test.YtojpocfnjigmfaaDoorAX17
namespace Go.AX
open Go
theorem fit_sl {D : Type} {sz : Nat} {e : Sh} {d : DataW D} {x : Pv} (h : Fit (.slice sz e) d [x]) : IsL sz x ∧ ∀ y ∈ elemsP x, (∃ d', Fit (D := D) e d' y.cells) ∧ (e.isS = true → ∃ cs, y = .agg cs) ∧ (e.isS = false → y.cells = [y]) := by
  cases h with
  | nils => exact ⟨isL_nil, fun y hy => by cases hy⟩
  | sl sz e ds rest l hl hm h hs =>
    refine ⟨isL_sl, fun y hy => ?_⟩
    obtain ⟨i, hi, rfl⟩ := List.mem_iff_getElem.1 hy
    simp only [elemsP] at hi ⊢
    exact ⟨⟨ds[i]'(by omega), h i _ _ (List.getElem?_eq_getElem (by omega)) (List.getElem?_eq_getElem hi)⟩, (hs _ (List.getElem_mem hi)).2⟩
theorem list_of {α β : Type} {f : α → β} : ∀ {l : List β}, (∀ y ∈ l, ∃ a, y = f a) → ∃ as : List α, l = as.map f
  | [], _ => ⟨[], rfl⟩
  | y :: l, h => by
    obtain ⟨a, rfl⟩ := h y (by simp)
    obtain ⟨as, has⟩ := list_of (f := f) (l := l) (fun z hz => h z (List.mem_cons_of_mem _ hz))
    exact ⟨a :: as, by rw [has]; rfl⟩
theorem fit_struct_nil {D : Type} {d : DataW D} {cs : List Pv} (h : Fit (.struct []) d cs) : cs = [] := by
  cases h with
  | struct _ ds parts h1 h2 h =>
    have : parts = [] := List.length_eq_zero_iff.1 h2
    subst this
    rfl
theorem fit_struct_cons {D : Type} {d : DataW D} {f : Sh} {fs : List Sh} {cs : List Pv} (h : Fit (.struct (f :: fs)) d cs) : ∃ d' d'' p q, cs = p ++ q ∧ Fit (D := D) f d' p ∧ Fit (D := D) (.struct fs) d'' q := by
  cases h with
  | struct _ ds parts h1 h2 h =>
    cases ds with
    | nil => simp at h1
    | cons d0 ds =>
      cases parts with
      | nil => simp at h2
      | cons p parts =>
        refine ⟨d0, .agg ds, p, parts.flatten, by simp, h 0 f d0 p rfl rfl rfl, ?_⟩
        exact .struct fs ds parts (by simpa using h1) (by simpa using h2) (fun i f d p hf hd hp => h (i + 1) f d p (by simpa using hf) (by simpa using hd) (by simpa using hp))
theorem fit_i64 {D : Type} {d : DataW D} {cs : List Pv} (h : Fit (.int .i64) d cs) : ∃ n : Int, cs = [.int .i64 n] ∧ -9223372036854775808 ≤ n ∧ n ≤ 9223372036854775807 := by
  cases h with
  | int k n hn =>
    refine ⟨n, rfl, ?_⟩
    simp only [Lit.wf, IntKind.min, IntKind.max, IntKind.signed, IntKind.bits, Bool.and_eq_true, decide_eq_true_eq] at hn
    simpa using hn
theorem fit_u8 {D : Type} {d : DataW D} {cs : List Pv} (h : Fit (.int .u8) d cs) : ∃ n : Nat, cs = [.int .u8 n] ∧ n < 256 := by
  cases h with
  | int k n hn =>
    simp [Lit.wf, IntKind.min, IntKind.max, IntKind.signed, IntKind.bits] at hn
    exact ⟨n.toNat, by congr 2; omega, by omega⟩
theorem fit_str {D : Type} {d : DataW D} {cs : List Pv} (h : Fit .str d cs) : ∃ s, cs = [.str s] ∧ s.length ≤ 9223372036854775807 := by
  cases h with
  | str s hs => exact ⟨s, rfl, hs⟩
theorem fit_strs' {D : Type} {d : DataW D} {x : Pv} (h : Fit (.slice 1 .str) d [x]) : IsL 1 x ∧ ∃ l : List (List UInt8), elemsP x = l.map .str := by
  obtain ⟨h1, h2⟩ := fit_sl h
  refine ⟨h1, list_of fun y hy => ?_⟩
  obtain ⟨d', hd⟩ := (h2 y hy).1
  obtain ⟨s, hs, _⟩ := fit_str hd
  have hc := (h2 y hy).2.2 rfl
  rw [hc] at hs
  exact ⟨s, (List.cons.inj hs).1⟩
end Go.AX
