/-
  'AX' AND THE MODEL: literals, conversions, append, make.
-/
import Derived.Test.YtojpocfnjigmfaaDoorAX5c
set_option linter.unusedVariables false
set_option linter.unusedSimpArgs false
namespace Go.AX
open Go
variable {P : Program}

theorem fill_sound {G : Gh} (place : Nat → Option (Nat × Nat)) : ∀ (parts : List (Nat × V)) (parts' : List (Nat × Value)) (cs : List V) (c : Array Value) (r : List V),
    parts.length = parts'.length → (∀ (j : Nat) x y, parts[j]? = some x → parts'[j]? = some y → x.1 = y.1 ∧ VR G x.2 y.2) →
    VRs G cs c → (∀ (j : Nat) v, c[j]? = some v → v.oneCell' = true) → fillV place cs parts = some r →
    ∃ r', Instr.fill place c parts' = some r' ∧ VRs G r r' ∧ (∀ (j : Nat) v, r'[j]? = some v → v.oneCell' = true)
  | [], parts', cs, c, r, hl, hp, hc, h1, h => by
    have : parts' = [] := List.eq_nil_of_length_eq_zero hl.symm
    subst this
    simp [fillV] at h
    subst h
    exact ⟨c, rfl, hc, h1⟩
  | (i, v) :: parts, [], cs, c, r, hl, hp, hc, h1, h => by simp at hl
  | (i, v) :: parts, (i', v') :: parts', cs, c, r, hl, hp, hc, h1, h => by
    obtain ⟨rfl, hv⟩ := hp 0 _ _ rfl rfl
    simp only [fillV] at h
    simp only [Instr.fill]
    split at h
    · cases h
    · rename_i off size hpl
      split at h
      · rename_i hsz hle
        simp only [Bool.and_eq_true] at hsz
        have hs1 := beq_eq hsz.1
        have hs0 : 0 < size := Nat.le_of_ble_eq_true hsz.2
        have hle' := Nat.le_of_ble_eq_true hle
        obtain ⟨q1, q2⟩ := hv.cellsOf hs1 hs0
        simp only [hpl]
        have hcs : cs.length = c.size := hc.1
        rw [if_neg (by simp [q1]; omega)]
        have hf := Great.foldl_set off v'.cells.toList 0 c
        have hconv : (v'.cells.zipIdx.foldl (fun cs (x : Value × Nat) => cs.setIfInBounds (off + x.2) x.1) c) = ((v'.cells.toList.zipIdx 0).foldl (fun cs (x : Value × Nat) => cs.setIfInBounds (off + x.2) x.1) c) := by
          rw [← Array.foldl_toList, Array.toList_zipIdx]
        have hin : off + v.cells.length ≤ cs.length := by omega
        refine fill_sound place parts parts' _ _ r (by simpa using hl) (fun j x y hx hy => hp (j + 1) x y (by simpa using hx) (by simpa using hy)) ⟨?_, ?_⟩ ?_ h
        · rw [over_length hin]
          show cs.length = (v'.cells.zipIdx.foldl (fun cs (x : Value × Nat) => cs.setIfInBounds (off + x.2) x.1) c).size
          rw [hconv, hf.1]; exact hcs
        · intro j x u hx hu
          have hu' : ((v'.cells.toList.zipIdx 0).foldl (fun cs (x : Value × Nat) => cs.setIfInBounds (off + x.2) x.1) c)[j]? = some u := by rw [← hconv]; exact hu
          rw [hf.2 j] at hu'
          rw [over_at hin] at hx
          split at hx
          · rename_i hj
            rw [if_pos (by simp [q1]; omega)] at hu'
            simp only [Nat.add_zero] at hu'
            exact (q2 _ x u hx (by simpa using hu')).2
          · rename_i hj
            rw [if_neg (by simp [q1]; omega)] at hu'
            exact hc.2 j x u hx hu'
        · intro j u hu
          have hu' : ((v'.cells.toList.zipIdx 0).foldl (fun cs (x : Value × Nat) => cs.setIfInBounds (off + x.2) x.1) c)[j]? = some u := by rw [← hconv]; exact hu
          rw [hf.2 j] at hu'
          split at hu'
          · rename_i hj
            simp only [Nat.add_zero] at hu'
            have hq : v'.cells.toList.length = size := by simpa using q1
            have hlt : j - off < v.cells.length := by omega
            exact (q2 _ _ u (List.getElem?_eq_getElem hlt) (by simpa using hu')).1
          · exact h1 j u hu'
      · cases h

theorem allCells_sound (C : Nat → Nat → Option Value) : ∀ (l : List Value) (r : List Pv), allCells l = some r → r.length = l.length ∧ ∀ (j : Nat) x v, r[j]? = some x → l[j]? = some v → PR C x v ∧ v.oneCell' = true
  | [], r, h => by simp [allCells] at h; subst h; exact ⟨rfl, by simp⟩
  | v :: l, r, h => by
    simp only [allCells] at h
    split at h
    · rename_i x s hx hs
      cases h
      obtain ⟨h1, h2⟩ := allCells_sound C l s hs
      refine ⟨by simp [h1], fun j y u hy hu => ?_⟩
      cases j with
      | zero =>
        simp at hy hu
        subst hy; subst hu
        unfold ofCell at hx
        split at hx <;> cases hx
        · exact ⟨.bool _, rfl⟩
        · exact ⟨.int _ _, rfl⟩
        · exact ⟨.str rfl, rfl⟩
        · exact ⟨.nils, rfl⟩
        · exact ⟨.nilp, rfl⟩
        · exact ⟨.nilf, rfl⟩
        · exact ⟨.nilm, rfl⟩
        · exact ⟨.niface, rfl⟩
      | succ j => simp at hy hu; exact h2 j y u hy hu
    · cases h

theorem zero_sound {i : TypeInfo} {r : List Pv} (h : zeroOf i = some r) (G : Gh) : ∃ z, i.zero = some z ∧ VRs G (r.map .p) z.cells ∧ (∀ (j : Nat) v, z.cells[j]? = some v → v.oneCell' = true) := by
  unfold zeroOf at h
  split at h
  · rename_i z hz
    obtain ⟨h1, h2⟩ := allCells_sound G.C _ _ h
    have hl : r.length = z.cells.size := by simpa using h1
    refine ⟨z, hz, ⟨by simpa using hl, fun j x v hx hv => ?_⟩, fun j v hv => ?_⟩
    · simp only [List.getElem?_map, Option.map_eq_some_iff] at hx
      obtain ⟨y, hy, rfl⟩ := hx
      exact .p (h2 j y v hy (by simpa using hv)).1
    · have hj : j < r.length := by rw [hl]; exact (Array.getElem?_eq_some_iff.1 hv).1
      exact (h2 j _ v (List.getElem?_eq_getElem hj) (by simpa using hv)).2
  · cases h

theorem places_of : ∀ {l : List Field} {fs : List FI}, fisOf P l = some fs → l.mapM (fun f => (P.info? f.type).map fun i => (f.offset, i.size)) = some (fs.map fun f => (f.off, f.size))
  | [], fs, h => by simp [fisOf] at h; subst h; rfl
  | f :: l, fs, h => by
    simp only [fisOf] at h
    split at h
    · rename_i x r hx hr
      cases h
      obtain ⟨i, d, h1, h2, h3, -, -⟩ := fi_parts hx
      simp [List.mapM_cons, h1, places_of hr, h2, h3]
    · cases h

theorem buildV_sound {t : TypeId} {ti : TI} (hti : tiOf P t = some ti) {parts : List (Nat × V)} {r : V} (h : buildV ti parts = some r) {G : Gh} {parts' : Array (Nat × Value)}
    (hl : parts.length = parts'.size) (hp : ∀ (j : Nat) x y, parts[j]? = some x → parts'[j]? = some y → x.1 = y.1 ∧ VR G x.2 y.2) (w : World) :
    ∃ v, (Instr.build t parts').run P w = .ok v w ∧ VR G r v := by
  obtain ⟨i, hi, hsz, hk, hag, -, hz⟩ := ti_parts hti
  obtain ⟨z, hz1, hz2, hz3⟩ := zero_sound hz G
  have hkd := kd_says hk
  unfold buildV at h
  split at h
  · rename_i fs hkd'
    rw [hkd'] at hkd
    obtain ⟨fs', hu, hfs⟩ := hkd
    simp only [Option.map_eq_some_iff] at h
    obtain ⟨q, hq, rfl⟩ := h
    have hpl : (fun x : Nat => ((fs.map fun f : FI => (f.off, f.size)).toArray)[x]?) = (fun i : Nat => (fs[i]?).map fun f : FI => (f.off, f.size)) := by funext x; simp
    rw [← hpl] at hq
    obtain ⟨r', h1, h2, h3⟩ := fill_sound _ parts parts'.toList _ z.cells q (by simpa using hl) (fun j x y hx hy => hp j x y hx (by simpa using hy)) hz2 hz3 hq
    refine ⟨_, run_build w t parts' r' ?_, h2.agg h3⟩
    simp only [Program.built, hi, hu, hz1, places_of hfs, h1]
  · rename_i n esz ea hkd'
    rw [hkd'] at hkd
    obtain ⟨e, hu, ⟨ie, hie, hes⟩, -⟩ := hkd
    simp only [Option.map_eq_some_iff] at h
    obtain ⟨q, hq, rfl⟩ := h
    obtain ⟨r', h1, h2, h3⟩ := fill_sound _ parts parts'.toList _ z.cells q (by simpa using hl) (fun j x y hx hy => hp j x y hx (by simpa using hy)) hz2 hz3 hq
    refine ⟨_, run_build w t parts' r' ?_, h2.agg h3⟩
    simp only [Program.built, hi, hu, hz1, hie, hes, h1]
  · cases h

structure Holds (G : Gh) (sz : Nat) (us : List Value) (es : List V) : Prop where
  len : us.length = es.length * sz
  size : ∀ (i : Nat) e, es[i]? = some e → e.cells.length = sz
  cell : ∀ (i : Nat) e (j : Nat) y, es[i]? = some e → e.cells[j]? = some y → ∃ u, us[i * sz + j]? = some u ∧ u.oneCell' = true ∧ VR G y u

theorem Holds.one {G : Gh} {sz : Nat} {us : List Value} {es : List V} (h : Holds G sz us es) (h0 : 0 < sz) {m : Nat} {u : Value} (hu : us[m]? = some u) : u.oneCell' = true := by
  have hm : m < es.length * sz := by rw [← h.len]; exact (List.getElem?_eq_some_iff.1 hu).1
  have hi : m / sz < es.length := (Nat.div_lt_iff_lt_mul h0).2 hm
  have he : es[m / sz]? = some es[m / sz] := List.getElem?_eq_getElem hi
  have hj : m % sz < (es[m / sz]).cells.length := by rw [h.size _ _ he]; exact Nat.mod_lt _ h0
  obtain ⟨u', h1, h2, -⟩ := h.cell _ _ (m % sz) _ he (List.getElem?_eq_getElem hj)
  rw [mod_lt_of h0, hu] at h1
  cases h1
  exact h2
theorem Holds.append {G : Gh} {sz : Nat} {us vs : List Value} {es fs : List V} (h : Holds G sz us es) (k : Holds G sz vs fs) : Holds G sz (us ++ vs) (es ++ fs) where
  len := by simp [h.len, k.len, Nat.add_mul]
  size i e he := by
    rw [List.getElem?_append] at he
    split at he
    · exact h.size i e he
    · exact k.size _ e he
  cell i e j y he hy := by
    rw [List.getElem?_append] at he
    split at he
    · rename_i hi
      obtain ⟨u, h1, h2, h3⟩ := h.cell i e j y he hy
      exact ⟨u, by rw [List.getElem?_append, if_pos (List.getElem?_eq_some_iff.1 h1).1]; exact h1, h2, h3⟩
    · rename_i hi
      obtain ⟨u, h1, h2, h3⟩ := k.cell _ e j y he hy
      have hge : us.length ≤ i * sz + j := by
        rw [h.len]
        have : es.length * sz ≤ i * sz := Nat.mul_le_mul_right _ (by omega)
        omega
      refine ⟨u, ?_, h2, h3⟩
      rw [List.getElem?_append, if_neg (by omega), ← h1, h.len]
      congr 1
      rw [Nat.sub_mul]
      have : es.length * sz ≤ i * sz := Nat.mul_le_mul_right _ (by omega)
      omega

theorem holds_of_cells {G : Gh} {w : World} {b o sz : Nat} {es : List V} (h0 : 0 < sz) (hsz : ∀ (i : Nat) e, es[i]? = some e → e.cells.length = sz)
    (hc : ∀ (i : Nat) e (j : Nat) y, es[i]? = some e → e.cells[j]? = some y → ∃ u, w.cell? ⟨b, o + i * sz + j, none⟩ = some u ∧ u.oneCell' = true ∧ VR G y u) :
    ∃ us, Holds G sz us es ∧ ∀ (j : Nat) v, us[j]? = some v → w.cell? ⟨b, o + j, none⟩ = some v := by
  have hat : ∀ m, m < es.length * sz → ∃ u, w.cell? ⟨b, o + m, none⟩ = some u := by
    intro m hm
    have hi : m / sz < es.length := (Nat.div_lt_iff_lt_mul h0).2 hm
    have he : es[m / sz]? = some es[m / sz] := List.getElem?_eq_getElem hi
    have hj : m % sz < (es[m / sz]).cells.length := by rw [hsz _ _ he]; exact Nat.mod_lt _ h0
    obtain ⟨u, h1, -⟩ := hc _ _ (m % sz) _ he (List.getElem?_eq_getElem hj)
    rw [Nat.add_assoc, mod_lt_of h0] at h1
    exact ⟨u, h1⟩
  refine ⟨(List.range (es.length * sz)).map fun m => (w.cell? ⟨b, o + m, none⟩).getD undef, ⟨by simp, hsz, fun i e j y he hy => ?_⟩, fun j v hv => ?_⟩
  · obtain ⟨u, h1, h2, h3⟩ := hc i e j y he hy
    have hlt : i * sz + j < es.length * sz := by
      have hj : j < sz := by rw [← hsz i e he]; exact (List.getElem?_eq_some_iff.1 hy).1
      have hi := (List.getElem?_eq_some_iff.1 he).1
      have : (i + 1) * sz ≤ es.length * sz := Nat.mul_le_mul_right _ hi
      rw [Nat.add_mul] at this; omega
    refine ⟨u, ?_, h2, h3⟩
    simp [hlt, ← Nat.add_assoc, h1]
  · simp only [List.getElem?_map, Option.map_eq_some_iff] at hv
    obtain ⟨m, hm, rfl⟩ := hv
    have hm' := List.getElem?_eq_some_iff.1 hm
    obtain ⟨hlt, hmj⟩ := hm'
    simp at hlt hmj
    subst hmj
    obtain ⟨u, hu⟩ := hat j hlt
    simp [hu]

theorem elems_sound {G : Gh} {w : World} {H : Hp} (ok : GOK G w H) {x : V} {es : List V} (h : elems H x = some es) {sz : Nat} (h0 : 0 < sz) (hsz : ∀ (i : Nat) e, es[i]? = some e → e.cells.length = sz) {c : Value} (hx : VR G x c) :
    ∃ a cap us, c = .slice a es.length cap ∧ Holds G sz us es ∧ ∀ w', w'.heap = w.heap → (Builtin.firstCells sz es.length c).run P w' = .ok us.toArray w' := by
  have close : ∀ (b o cap : Nat), (∀ (i : Nat) e (j : Nat) y, es[i]? = some e → e.cells[j]? = some y → ∃ u, w.cell? ⟨b, o + i * sz + j, none⟩ = some u ∧ u.oneCell' = true ∧ VR G y u) →
      c = .slice (some ⟨b, o, none⟩) es.length cap → ∃ a cap us, c = .slice a es.length cap ∧ Holds G sz us es ∧ ∀ w', w'.heap = w.heap → (Builtin.firstCells sz es.length c).run P w' = .ok us.toArray w' := by
    intro b o cap hc he
    obtain ⟨us, h1, h2⟩ := holds_of_cells h0 hsz hc
    refine ⟨_, cap, us, he, h1, fun w' hw' => ?_⟩
    rw [he]
    exact run_firstCells_some w' sz es.length ⟨b, o, none⟩ _ _ us h1.len (fun j v hv => by
      rw [Addr.add_lit]
      have := h2 j v hv
      simp only [World.cell?, hw'] at this ⊢
      exact this)
  have none' : c = .slice none 0 0 → es = [] → ∃ a cap us, c = .slice a es.length cap ∧ Holds G sz us es ∧ ∀ w', w'.heap = w.heap → (Builtin.firstCells sz es.length c).run P w' = .ok us.toArray w' := by
    rintro rfl rfl
    exact ⟨none, 0, [], rfl, ⟨by simp, by simp, by simp⟩, fun w' _ => by simp [Builtin.firstCells]⟩
  unfold elems at h
  split at h
  · rename_i sz' ex l
    cases h
    cases hx.p_inv with
    | @sl _ _ _ b o cap f hc hex hsz' hC hR =>
      by_cases hl : l = []
      · subst hl
        exact close b o cap (by simp) (by simp)
      · have he : sz' = sz := by
          obtain ⟨x, l', rfl⟩ := List.exists_cons_of_ne_nil hl
          have h1 := hsz' 0 x rfl
          have h2 := hsz 0 (.p x) rfl
          simp [V.cells] at h2
          omega
        subst he
        refine close b o cap (fun i e j y he hy => ?_) (by simp)
        simp only [List.getElem?_map, Option.map_eq_some_iff] at he
        obtain ⟨q, hq, rfl⟩ := he
        simp only [V.cells, List.getElem?_map, Option.map_eq_some_iff] at hy
        obtain ⟨z, hz, rfl⟩ := hy
        exact ⟨_, ok.stable _ _ _ (hC i q j z hq hz), ok.one _ _ _ (hC i q j z hq hz), .p (hR i q j z hq hz)⟩
    | @slNil _ _ a =>
      cases a with
      | none => exact none' rfl rfl
      | some a =>
        refine ⟨some a, 0, [], rfl, ⟨by simp, by simp, by simp⟩, fun w' _ => ?_⟩
        exact run_firstCells_some w' sz 0 a 0 0 [] (by simp) (fun j v hv => by simp at hv)
  · cases h
    cases hx.p_inv
    exact none' rfl rfl
  · rename_i id ver sz' off len
    split at h
    · rename_i f sz'' as hat
      split at h
      · rename_i hss
        have hss' := beq_eq hss
        subst hss'
        unfold arrAt at hat
        split at hat
        · rename_i v f' sz3 as' hid
          split at hat
          · rename_i hv
            cases hat
            have hv' := beq_eq hv
            subst hv'
            obtain ⟨b, o, k, T, h1, h2, h3, h4, h5, h6, h7, h8⟩ := ok.obs id _ hid
            cases hx with
            | @arr _ _ _ _ _ b' o' bs cap hpl hlc hbb =>
              rw [hpl] at h1
              cases h1
              have hel := cut_length h
              by_cases hl : es = []
              · subst hl
                simp at hel
                subst hel
                exact close b (o + off * sz') cap (by simp) rfl
              · have he : sz' = sz := by
                  obtain ⟨x, l', rfl⟩ := List.exists_cons_of_ne_nil hl
                  have := hsz 0 x rfl
                  have := h5 _ x (cut_at h (j := 0) rfl).1
                  omega
                subst he
                refine close b (o + off * sz') cap (fun i e j y he hy => ?_) (by rw [hel])
                obtain ⟨u, hu1, hu2, hu3⟩ := h6 _ e j y (cut_at h he).1 hy
                refine ⟨u, ?_, hu2, hu3⟩
                rw [Nat.add_mul] at hu1
                simp only [World.cell?, h2, Option.isSome_none, Bool.false_eq_true, if_false]
                rw [← hu1]
                congr 1
                omega
          · cases hat
        · cases hat
      · cases h
    · cases h
  · cases h
end Go.AX
