/-
  'AX' AND THE MODEL: stores, new variables, literals, conversions.
-/
import Derived.Test.YtojpocfnjigmfaaDoorAX5b
set_option linter.unusedVariables false
set_option linter.unusedSimpArgs false
namespace Go.AX
open Go
variable {P : Program}

theorem over_length {α : Type} {l : List α} {off : Nat} {new : List α} (h : off + new.length ≤ l.length) : (over l off new).length = l.length := by
  simp [over]; omega
theorem over_at {α : Type} {l : List α} {off : Nat} {new : List α} (h : off + new.length ≤ l.length) (j : Nat) :
    (over l off new)[j]? = if off ≤ j ∧ j < off + new.length then new[j - off]? else l[j]? := by
  unfold over
  rw [List.getElem?_append, List.getElem?_append]
  simp only [List.length_append, List.length_take, Nat.min_eq_left (show off ≤ l.length by omega)]
  by_cases h1 : j < off
  · rw [if_pos (by omega), if_pos h1, if_neg (by omega), List.getElem?_take, if_pos h1]
  · by_cases h2 : j < off + new.length
    · rw [if_pos h2, if_neg h1, if_pos ⟨by omega, h2⟩]
    · rw [if_neg h2, if_neg (by omega), List.getElem?_drop]
      congr 1
      omega
theorem mkAgg_cells (cs : List V) : (mkAgg cs).cells = cs := by
  unfold mkAgg
  split
  · rename_i r hr
    rw [allP_eq hr]
    rfl
  · rfl

theorem run_storeAt {t : TypeId} {i : TypeInfo} (hi : P.info? t = some i) {w : World} {b p : Nat} {k : Array Value} {T : TypeId} (hk : w.heap[b]? = some (.cells k T (0, 0))) {c : Value}
    (hc : c.cells.size = i.size) (hle : p + c.cells.size ≤ k.size) (h1 : ∀ (j : Nat) u, c.cells[j]? = some u → u.oneCell' = true) :
    (Instr.storeAt t (.pointer (some ⟨b, p, none⟩)) c).run P w = .ok () (w.setRow b (over k.toList p c.cells.toList).toArray) := by
  unfold Instr.storeAt storeVar
  simp only [Instr.sureAddr, Sem.run_bind, Sem.run_pure, Result.andThen_ok, run_sizeOf' w hi, Sem.run_ite]
  rw [if_neg (by simp [hc])]
  have := run_storeCells_at P b p T c.cells.toList 0 k w hk (by simpa using hle) (fun v hv => by
    obtain ⟨j, hj⟩ := List.getElem?_of_mem hv
    exact h1 j v (by simpa using hj))
  simp only [Nat.add_zero] at this
  simp only [this]
  rfl

theorem turnRow {G : Gh} {w : World} {H : Hp} (ok : GOK G w H) {id : Nat} {ob ob' : Ob} (hid : H[id]? = some ob) {ver b o : Nat} {k k' : Array Value} {T : TypeId} (hpl : G.pl id ver = some (b, o, k.size))
    (hk : w.heap[b]? = some (.cells k T (0, 0))) (hb : blk G id ob = some b) (hb' : blk G id ob' = some b) (hst : ∀ (j : Nat) v, G.C b j = some v → k'[j]? = k[j]?)
    (hR : ∀ w', w'.heap[b]? = some (.cells k' T (0, 0)) → ObR G w' id ob') :
    GOK G (w.setRow b k') (H.set id ob') ∧ Ext H.length G H w G (H.set id ob') (w.setRow b k') := by
  have hat := at_same hpl
  have := turnOb (w' := w.setRow b k') ok hid (ver := ver) (b := b) (o := o) (n := k.size) (.inr hpl) rfl rfl rfl (by simp) (fun c hc hne => setRow_other w b c k' (fun e => hne (by rw [e]; exact hb))) (.inl hb)
    (fun c j v hc hv => by
      rw [hb] at hc; cases hc
      have h1 := ok.stable b j v hv
      have h2 := setRow_heap w b k k' T (0, 0) hk
      simp only [World.cell?, hk, h2, Option.isSome_none, Bool.false_eq_true, if_false] at h1 ⊢
      rw [hst j v hv]; exact h1)
    (by rw [hat]; exact hb') (fun _ => by rw [hat]; exact hR _ (setRow_heap w b k k' T (0, 0) hk))
  rw [hat] at this
  exact this

theorem storeV_sound {t : TypeId} {ti : TI} (hti : tiOf P t = some ti) {G : Gh} {w : World} {H H' : Hp} (ok : GOK G w H) {x y : V} (h : storeV ti H x y = some H') {c d : Value} (hx : VR G x c) (hy : VR G y d) :
    ∃ w', (Instr.storeAt t c d).run P w = .ok () w' ∧ GOK G w' H' ∧ Ext H.length G H w G H' w' := by
  obtain ⟨i, hi, hsz, -⟩ := ti_parts hti
  unfold storeV at h
  split at h
  · cases h
  · rename_i hlen
    simp only [Bool.and_eq_true] at hlen
    have hl := beq_eq hlen.1
    have h0 : 0 < ti.size := Nat.le_of_ble_eq_true hlen.2
    obtain ⟨hcs, hcell⟩ := hy.cellsOf hl h0
    have hone : ∀ (j : Nat) u, d.cells[j]? = some u → u.oneCell' = true := fun j u hu => by
      have hj : j < y.cells.length := by rw [hl, ← hcs]; exact (Array.getElem?_eq_some_iff.1 hu).1
      exact (hcell j _ u (List.getElem?_eq_getElem hj) hu).1
    have hcell' : ∀ (j : Nat) z, y.cells[j]? = some z → ∃ u, d.cells.toList[j]? = some u ∧ u.oneCell' = true ∧ VR G z u := fun j z hz => by
      have hj : j < d.cells.size := by rw [hcs, ← hl]; exact (List.getElem?_eq_some_iff.1 hz).1
      have hu : d.cells[j]? = some d.cells[j] := Array.getElem?_eq_getElem hj
      exact ⟨d.cells[j], by simp, hcell j z _ hz hu⟩
    have hdl : d.cells.toList.length = y.cells.length := by simp [hcs, hl]
    split at h
    · rename_i id ver off
      cases hx with
      | @ptr _ _ _ b o bs hpl =>
        split at h
        · rename_i u cs hid
          split at h
          · rename_i hv hle
            have hv' := beq_eq hv
            subst hv'
            cases h
            have hle' := Nat.le_of_ble_eq_true hle
            obtain ⟨b', o', k, T, h1, h2, h3, h4, h5, h6⟩ := ok.obs id _ hid
            rw [hpl] at h1
            cases h1
            have hin : o + off + d.cells.toList.length ≤ k.toList.length := by rw [hdl]; simp; omega
            refine ⟨_, run_storeAt hi h2 (by rw [hcs, hsz]) (by simpa using hin) hone, ?_⟩
            refine turnRow ok hid hpl h2 (by simp [blk, hpl]) (by simp [blk, hpl]) (fun j v hv => ?_) (fun w' hw' => ?_)
            · have hj : j < o := by
                rcases Nat.lt_or_ge j o with h | h
                · exact h
                · rw [h5 j h] at hv; cases hv
              simp only [List.getElem?_toArray]
              rw [over_at hin, if_neg (by omega)]
              simp
            · refine ⟨b, o, (over k.toList (o + off) d.cells.toList).toArray, T, by simp only [List.size_toArray]; rw [over_length hin]; simpa using hpl, hw', ?_, ?_, h5, h6⟩
              · rw [over_length hle']; simp only [List.size_toArray]; rw [over_length hin]; simpa using h3
              · intro j z hz
                rw [over_at hle'] at hz
                simp only [List.getElem?_toArray]
                rw [over_at hin, hdl]
                split at hz
                · rename_i hj
                  rw [if_pos (by omega)]
                  rw [show o + j - (o + off) = j - off by omega]
                  exact hcell' _ z hz
                · rename_i hj
                  rw [if_neg (by omega)]
                  simpa using h4 j z hz
          · cases h
        · rename_i u f sz es hid
          split at h
          · rename_i e hv hf he
            have hv' := beq_eq hv
            subst hv'
            have hf' := Nat.le_of_ble_eq_true hf
            obtain ⟨b', o', k, T, h1, h2, h3, h4, h5, h6, h7, h8⟩ := ok.obs id _ hid
            rw [hpl] at h1
            cases h1
            have hdm := mod_lt_of (off := off) h3
            have hel := h5 _ e he
            have hil : off / sz < es.length := (List.getElem?_eq_some_iff.1 he).1
            -- the store of one element's cells
            have key : ∀ (e' : V), e'.cells.length = sz → (∀ (j : Nat), e'.cells[j]? = if off % sz ≤ j ∧ j < off % sz + y.cells.length then y.cells[j - off % sz]? else e.cells[j]?) →
                off % sz + y.cells.length ≤ sz →
                ∃ w', (Instr.storeAt t (.pointer (some ⟨b, o + off, none⟩)) d).run P w = .ok () w' ∧ GOK G w' (H.set id (.arr u f sz (es.set (off / sz) e'))) ∧
                  Ext H.length G H w G (H.set id (.arr u f sz (es.set (off / sz) e'))) w' := by
              intro e' he'l he' hfit
              have hrow : off / sz * sz + sz ≤ es.length * sz := by
                have : (off / sz + 1) * sz ≤ es.length * sz := Nat.mul_le_mul_right _ hil
                rw [Nat.add_mul] at this; omega
              have hin : o + off + d.cells.toList.length ≤ k.toList.length := by rw [hdl]; simp; omega
              refine ⟨_, run_storeAt hi h2 (by rw [hcs, hsz]) (by simpa using hin) hone, ?_⟩
              refine turnRow ok hid hpl h2 (by simp [blk, hpl]) (by simp [blk, hpl]) (fun j v hv => ?_) (fun w' hw' => ?_)
              · have hj : j < o + f * sz := by
                  rcases Nat.lt_or_ge j (o + f * sz) with h | h
                  · exact h
                  · rw [h7 j h] at hv; cases hv
                have hfo : f * sz ≤ off / sz * sz := Nat.mul_le_mul_right _ hf'
                simp only [List.getElem?_toArray]
                rw [over_at hin, if_neg (by omega)]
                simp
              · refine ⟨b, o, (over k.toList (o + off) d.cells.toList).toArray, T, by simp only [List.size_toArray]; rw [over_length hin]; simpa using hpl, hw', h3, ?_, ?_, ?_, h7, h8⟩
                · simp only [List.size_toArray]; rw [over_length hin]; simpa using h4
                · intro m z hz
                  rw [List.getElem?_set] at hz
                  split at hz
                  · cases hz; exact he'l
                  · exact h5 m z hz
                · intro m z j q hz hq
                  rw [List.getElem?_set] at hz
                  simp only [List.getElem?_toArray]
                  rw [over_at hin, hdl]
                  split at hz
                  · rename_i hm
                    subst hm
                    cases hz
                    rw [he'] at hq
                    split at hq
                    · rename_i hj
                      rw [if_pos (by omega)]
                      rw [show o + off / sz * sz + j - (o + off) = j - off % sz by omega]
                      exact hcell' _ q hq
                    · rename_i hj
                      rw [if_neg (by omega)]
                      simpa using h6 _ e j q he hq
                  · rename_i hm
                    have hzl := h5 m z hz
                    have hjl : j < sz := by rw [← hzl]; exact (List.getElem?_eq_some_iff.1 hq).1
                    have hdis : ¬ (o + off ≤ o + m * sz + j ∧ o + m * sz + j < o + off + y.cells.length) := by
                      intro hh
                      rcases Nat.lt_trichotomy m (off / sz) with h' | h' | h'
                      · have : (m + 1) * sz ≤ off / sz * sz := Nat.mul_le_mul_right _ h'
                        rw [Nat.add_mul] at this; omega
                      · exact hm h'.symm
                      · have : (off / sz + 1) * sz ≤ m * sz := Nat.mul_le_mul_right _ h'
                        rw [Nat.add_mul] at this; omega
                    rw [if_neg hdis]
                    simpa using h6 m z j q hz hq
            split at h
            · rename_i hz
              simp only [Bool.and_eq_true] at hz
              have hz1 := beq_eq hz.1
              have hz2 := beq_eq hz.2
              cases h
              refine key y hz2 (fun j => ?_) (by omega)
              rw [hz1, hz2]
              by_cases hj : j < sz
              · rw [if_pos (by omega)]; simp
              · rw [if_neg (by omega), List.getElem?_eq_none (by omega), List.getElem?_eq_none (by omega)]
            · split at h
              · rename_i hle
                have hle' := Nat.le_of_ble_eq_true hle
                cases h
                refine key _ ?_ (fun j => ?_) (by omega)
                · rw [mkAgg_cells, over_length hle', hel]
                · rw [mkAgg_cells, over_at hle']
              · cases h
          · cases h
        · cases h
    · cases h

theorem box_sound {G : Gh} {w : World} {H : Hp} (ok : GOK G w H) (cs : List V) (k : Array Value) (T : TypeId) (hs : cs.length = k.size) (hc : ∀ (j : Nat) y u, cs[j]? = some y → k[j]? = some u → u.oneCell' = true ∧ VR G y u) :
    ∃ G', GOK G' (w.alloc (.cells k T)) (newBox H cs).2 ∧ Ext H.length G H w G' (newBox H cs).2 (w.alloc (.cells k T)) ∧ VR G' (newBox H cs).1 (.pointer (some ⟨w.heap.size, 0, none⟩)) := by
  obtain ⟨G', h1, h2, h3, h4⟩ := newOb ok k T (.box 0 cs) 0 (.inl ⟨cs, rfl⟩) (fun G' hC hvr hpl hno => by
    refine ⟨w.heap.size, 0, k, T, hpl, heap_alloc_at w _, by omega, fun j y hj => ?_, fun j _ => ?_, hno⟩
    · have hlt : j < k.size := by rw [← hs]; exact (List.getElem?_eq_some_iff.1 hj).1
      have hu : k[j]? = some k[j] := Array.getElem?_eq_getElem hlt
      exact ⟨k[j], by simp, (hc j y _ hj hu).1, hvr _ _ (hc j y _ hj hu).2⟩
    · rw [hC]
      cases hh : G.C w.heap.size j with
      | none => rfl
      | some v => exact absurd (stable_lt ok hh) (by omega))
  exact ⟨G', h1, h2, by have := VR.ptr (G := G') (off := 0) h3; simpa [newBox] using this⟩
end Go.AX
