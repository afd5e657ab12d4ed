import Derived.Test.YtojpocfnjigmfaaDoorAX22
import Derived.Test.YtojpocfnjigmfaaDoorERow
import Derived.Test.YtojpocfnjigmfaaDoorZ1
set_option maxRecDepth 10000
set_option linter.unusedSimpArgs false
set_option linter.unusedVariables false
namespace Go.Proofs.YtojpocfnjigmfaaDoor
open Go Go.AX
def Rch {D : Type} (P : Program) (t : TypeId) (d : DataW D) : Prop := ∀ n ∈ d.weights P t, n ≤ reachBytes
theorem fit_slR {D : Type} {P : Program} {sz : Nat} {e : Sh} {d : DataW D} {x : Pv} {t te : TypeId} (h : Fit (.slice sz e) d [x]) (hu : P.underlying t = some (.slice te)) (hb : 1 ≤ P.bytesOf te) (hw : Rch P t d) :
    IsL sz x ∧ (elemsP x).length ≤ reachBytes ∧ ∀ y ∈ elemsP x, (∃ d', Fit (D := D) e d' y.cells ∧ Rch P te d') ∧ (e.isS = true → ∃ cs, y = .agg cs) ∧ (e.isS = false → y.cells = [y]) := by
  cases h with
  | nils => exact ⟨isL_nil, by decide, fun y hy => by cases hy⟩
  | sl sz e ds rest l hl hm h hs =>
    refine ⟨isL_sl, ?_, fun y hy => ?_⟩
    · have h1 := hw ((ds.length + rest.length) * P.bytesOf te) (by simp [DataW.weights, hu])
      have h2 : (ds.length + rest.length) * 1 ≤ (ds.length + rest.length) * P.bytesOf te := Nat.mul_le_mul_left _ hb
      simp only [elemsP]
      omega
    · obtain ⟨i, hi, rfl⟩ := List.mem_iff_getElem.1 hy
      simp only [elemsP] at hi ⊢
      refine ⟨⟨ds[i]'(by omega), h i _ _ (List.getElem?_eq_getElem (by omega)) (List.getElem?_eq_getElem hi), fun n hn => hw n ?_⟩, (hs _ (List.getElem_mem hi)).2⟩
      simp only [DataW.weights, hu, List.mem_cons, List.mem_append]
      exact .inr (.inl (weights_all (List.getElem_mem _) hn))
theorem fit_aggR {D : Type} {P : Program} {fs : List Sh} {d : DataW D} {cs : List Pv} {t : TypeId} {ts : List TypeId} (h : Fit (.struct fs) d cs) (hu : ∀ l : List (DataW D), (DataW.agg l).weights P t = DataW.weightsEach P ts l) (hw : Rch P t d) : ∃ ds, d = .agg ds ∧ ∀ n ∈ DataW.weightsEach P ts ds, n ≤ reachBytes := by
  cases h with
  | struct _ ds parts h1 h2 h => exact ⟨ds, rfl, fun n hn => hw n (by rw [hu]; exact hn)⟩
theorem fit_consR {D : Type} {P : Program} {ds : List (DataW D)} {f : Sh} {fs : List Sh} {cs : List Pv} {t : TypeId} {ts : List TypeId} (h : Fit (.struct (f :: fs)) (.agg ds) cs) (hw : ∀ n ∈ DataW.weightsEach P (t :: ts) ds, n ≤ reachBytes) : ∃ d' ds' p q, cs = p ++ q ∧ Fit (D := D) f d' p ∧ Rch P t d' ∧ Fit (D := D) (.struct fs) (.agg ds') q ∧ ∀ n ∈ DataW.weightsEach P ts ds', n ≤ reachBytes := by
  cases h with
  | struct _ ds parts h1 h2 h =>
    cases ds with
    | nil => simp at h1
    | cons d0 ds =>
      cases parts with
      | nil => simp at h2
      | cons p parts =>
        refine ⟨d0, ds, p, parts.flatten, by simp, h 0 f d0 p rfl rfl rfl, fun n hn => hw n (by simp only [DataW.weightsEach, List.mem_append]; exact .inl hn), ?_, fun n hn => hw n (by simp only [DataW.weightsEach, List.mem_append]; exact .inr hn)⟩
        exact .struct fs ds parts (by simpa using h1) (by simpa using h2) (fun i f d p hf hd hp => h (i + 1) f d p (by simpa using hf) (by simpa using hd) (by simpa using hp))
theorem fit_strR {D : Type} {P : Program} {t : TypeId} {d : DataW D} {cs : List Pv} (h : Fit .str d cs) (hw : Rch P t d) : ∃ s, cs = [.str s] ∧ s.length ≤ reachBytes := by
  cases h with
  | str s hs => exact ⟨s, rfl, hw s.length (by simp [DataW.weights])⟩
theorem l2_of {α : Type} {R : Pv → α → Prop} {p : α → Prop} : ∀ {ys : List Pv}, (∀ y ∈ ys, ∃ g, R y g ∧ p g) → ∃ l, L2 R ys l ∧ ∀ g ∈ l, p g
  | [], _ => ⟨[], ⟨rfl, fun i x y h => by simp at h⟩, fun g hg => by cases hg⟩
  | y :: ys, h => by
    obtain ⟨g, hg, hp⟩ := h y (by simp)
    obtain ⟨l, ⟨hl, hL⟩, hP⟩ := l2_of (R := R) (p := p) (ys := ys) (fun z hz => h z (by simp [hz]))
    refine ⟨g :: l, ⟨by simp [hl], fun i x z hx hz => ?_⟩, fun a ha => ?_⟩
    · cases i with
      | zero => simp at hx hz; subst hx; subst hz; exact hg
      | succ i => exact hL i x z (by simpa using hx) (by simpa using hz)
    · rcases List.mem_cons.1 ha with rfl | ha
      · exact hp
      · exact hP a ha
theorem str_sl {D : Type} {P : Program} {d : DataW D} {cs : List Pv} {t : TypeId} (h : Fit (.slice 1 .str) d cs) (hu : P.underlying t = some (.slice 9)) (hw : Rch P t d) : ∃ x, cs = [x] ∧ IsL 1 x ∧ ∃ l : List (List UInt8), elemsP x = l.map .str ∧ ∀ s ∈ l, s.length ≤ 140737488351232 := by
  obtain ⟨x, rfl⟩ : ∃ x, cs = [x] := by cases h <;> exact ⟨_, rfl⟩
  exact ⟨x, rfl, fit_strs_reach h hu hw⟩
theorem int_sl {D : Type} {P : Program} {d : DataW D} {cs : List Pv} {t : TypeId} (h : Fit (.slice 1 (.int .i64)) d cs) (hu : P.underlying t = some (.slice 3)) (hb : 1 ≤ P.bytesOf 3) (hw : Rch P t d) : ∃ x, cs = [x] ∧ IsL 1 x ∧ ∃ l : List Int, elemsP x = l.map (.int .i64) ∧ l.length ≤ reachBytes := by
  obtain ⟨x, rfl⟩ : ∃ x, cs = [x] := by cases h <;> exact ⟨_, rfl⟩
  obtain ⟨h1, h2, h3⟩ := fit_slR h hu hb hw
  obtain ⟨l, hl⟩ : ∃ l : List Int, elemsP x = l.map (.int .i64) := list_of fun y hy => by
    obtain ⟨⟨d', hd, -⟩, -, hc⟩ := h3 y hy
    rw [hc rfl] at hd
    obtain ⟨n, hn, -, -⟩ := fit_i64 hd
    exact ⟨n, (List.cons.inj hn).1⟩
  rw [hl, List.length_map] at h2
  exact ⟨x, rfl, h1, l, hl, h2⟩
end Go.Proofs.YtojpocfnjigmfaaDoor
