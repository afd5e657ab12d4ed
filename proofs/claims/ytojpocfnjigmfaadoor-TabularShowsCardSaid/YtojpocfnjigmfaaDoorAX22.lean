/-
  THE ROW's REACH: each text of a list of texts that comes in takes at most reachBytes.
-/
import Derived.Test.YtojpocfnjigmfaaDoorAX20
import Derived.SizedLaws
namespace Go.AX
open Go
theorem weights_all {H : Type} {P : Program} {e : TypeId} {n : Nat} : ∀ {l : List (DataW H)} {d : DataW H}, d ∈ l → n ∈ d.weights P e → n ∈ DataW.weightsAll P e l
  | d0 :: l, d, h, hn => by
    simp only [DataW.weightsAll, List.mem_append]
    rcases List.mem_cons.1 h with rfl | h
    · exact .inl hn
    · exact .inr (weights_all h hn)
theorem fit_strs_reach {D : Type} {P : Program} {d : DataW D} {x : Pv} {t e : TypeId} (h : Fit (.slice 1 .str) d [x]) (hu : P.underlying t = some (.slice e)) (hw : ∀ n ∈ d.weights P t, n ≤ reachBytes) :
    IsL 1 x ∧ ∃ l : List (List UInt8), elemsP x = l.map .str ∧ ∀ s ∈ l, s.length ≤ 140737488351232 := by
  cases h with
  | nils => exact ⟨isL_nil, [], rfl, fun s hs => by cases hs⟩
  | sl sz e' ds rest l hl hm h hs =>
    refine ⟨isL_sl, ?_⟩
    have hy : ∀ y ∈ l, ∃ s : {s : List UInt8 // s.length ≤ 140737488351232}, y = .str s.1 := by
      intro y hy
      obtain ⟨i, hi, rfl⟩ := List.mem_iff_getElem.1 hy
      have hf := h i _ _ (List.getElem?_eq_getElem (by omega)) (List.getElem?_eq_getElem hi)
      have hc := (hs _ (List.getElem_mem hi)).2.2 rfl
      rw [hc] at hf
      generalize hd : ds[i]'(by omega) = d0 at hf
      generalize l[i] = y at hf
      cases hf with
      | str s hs' =>
        refine ⟨⟨s, ?_⟩, rfl⟩
        have hm : (DataW.lit (.string s) : DataW D) ∈ ds := by rw [← hd]; exact List.getElem_mem _
        exact hw s.length (by
          simp only [DataW.weights, hu, List.mem_cons, List.mem_append]
          exact .inr (.inl (weights_all hm (by simp [DataW.weights]))))
    obtain ⟨as, has⟩ := list_of hy
    refine ⟨as.map (·.1), by simp only [elemsP]; rw [has, List.map_map]; rfl, fun s hs => ?_⟩
    obtain ⟨a, _, rfl⟩ := List.mem_map.1 hs
    exact a.2
end Go.AX
