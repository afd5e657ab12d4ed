/-
  'AX' AND THE MODEL: an object's turn.
-/
import Derived.Test.YtojpocfnjigmfaaDoorAX5a
set_option linter.unusedVariables false
set_option linter.unusedSimpArgs false
namespace Go.AX
open Go
variable {P : Program}

def Gh.at (G : Gh) (id ver : Nat) (x : Nat × Nat × Nat) : Gh := { G with pl := fun i v => if i = id ∧ v = ver then some x else G.pl i v }

theorem turnOb {G : Gh} {w w' : World} {H : Hp} (ok : GOK G w H) {id : Nat} {ob ob' : Ob} (hid : H[id]? = some ob) {ver b o n : Nat}
    (hnew : G.pl id ver = none ∨ G.pl id ver = some (b, o, n))
    (hos : w'.os = w.os) (htape : w'.tape = w.tape) (hout : w'.output = w.output) (hs : w.heap.size ≤ w'.heap.size)
    (hold : ∀ c, c < w.heap.size → blk G id ob ≠ some c → w'.heap[c]? = w.heap[c]?)
    (hb : blk G id ob = some b ∨ w.heap.size ≤ b)
    (hst : ∀ c j v, blk G id ob = some c → G.C c j = some v → w'.cell? ⟨c, j, none⟩ = some v)
    (hob' : blk (G.at id ver (b, o, n)) id ob' = some b)
    (hR : (∀ v c, VR G v c → VR (G.at id ver (b, o, n)) v c) → ObR (G.at id ver (b, o, n)) w' id ob') :
    GOK (G.at id ver (b, o, n)) w' (H.set id ob') ∧ Ext H.length G H w (G.at id ver (b, o, n)) (H.set id ob') w' := by
  have hlt : id < H.length := (List.getElem?_eq_some_iff.1 hid).1
  have hpl : ∀ i v x, G.pl i v = some x → (G.at id ver (b, o, n)).pl i v = some x := by
    intro i v x hx
    simp only [Gh.at]
    split
    · rename_i h
      obtain ⟨rfl, rfl⟩ := h
      rcases hnew with h | h
      · rw [h] at hx; cases hx
      · rw [h] at hx; exact hx
    · exact hx
  have hvr : ∀ v c, VR G v c → VR (G.at id ver (b, o, n)) v c := fun v c h => VR.mono (G := G) (G' := G.at id ver (b, o, n)) (fun _ _ _ h => h) hpl (fun _ _ h => h) h
  have hoth : ∀ i x, i ≠ id → blk (G.at id ver (b, o, n)) i x = blk G i x := by
    intro i x hne
    cases x <;> simp [blk, Gh.at, hne]
  have hcase : ∀ i x, (H.set id ob')[i]? = some x → (i ≠ id ∧ H[i]? = some x) ∨ (i = id ∧ x = ob') := by
    intro i x hi
    rw [List.getElem?_set] at hi
    split at hi
    · rename_i h
      subst h
      simp [hlt] at hi
      exact .inr ⟨rfl, hi.symm⟩
    · rename_i h
      exact .inl ⟨fun e => h e.symm, hi⟩
  have hnot : ∀ i x c, i ≠ id → H[i]? = some x → blk G i x = some c → blk G id ob ≠ some c := fun i x c hne hi hx he =>
    hne (ok.apart i id x ob c hi hid hx he)
  refine ⟨⟨?_, ok.one, ?_, ?_, ?_, ?_⟩, ⟨hos, htape, hout, hs, ?_, fun _ _ _ h => h, fun _ _ _ h => .inl h, fun i v x _ h => hpl i v x h, fun _ _ _ h => h, ?_⟩⟩
  · intro c j v h
    have h' : G.C c j = some v := h
    by_cases hc : blk G id ob = some c
    · exact hst c j v hc h'
    · rw [World.cell?_of_block (w := w) (hold c (stable_lt ok h') hc)]
      exact ok.stable c j v h'
  · intro i x hi
    rcases hcase i x hi with ⟨hne, h⟩ | ⟨rfl, rfl⟩
    · refine (ok.obs i x h).mono (fun _ _ _ h => h) hpl (fun _ _ h => h) (fun v => by simp [Gh.at, hne]) (fun c hc => ⟨hold c (blk_lt ok h hc) (hnot i x c hne h hc), fun _ => rfl⟩)
    · exact hR hvr
  · intro i j x y c hi hj hx hy
    rcases hcase i x hi with ⟨hne, h⟩ | ⟨rfl, rfl⟩ <;> rcases hcase j y hj with ⟨hne', h'⟩ | ⟨rfl, rfl⟩
    · rw [hoth i x hne] at hx; rw [hoth j y hne'] at hy
      exact ok.apart i j x y c h h' hx hy
    · rw [hoth i x hne] at hx; rw [hob'] at hy; cases hy
      rcases hb with hb | hb
      · exact absurd hb (hnot i x _ hne h hx)
      · exact absurd (blk_lt ok h hx) (by omega)
    · rw [hoth j y hne'] at hy; rw [hob'] at hx; cases hx
      rcases hb with hb | hb
      · exact absurd hb (hnot j y _ hne' h' hy)
      · exact absurd (blk_lt ok h' hy) (by omega)
    · rfl
  · intro i v hi
    simp at hi
    simp only [Gh.at]
    rw [if_neg (by omega)]
    exact ok.fresh i v hi
  · intro i hi
    simp at hi
    exact ok.freshM i hi
  · intro c hc hn
    refine hold c hc (fun he => hn ⟨id, ob, hid, he⟩)
  · rintro c ⟨i, x, hi, hx⟩
    rcases hcase i x hi with ⟨hne, h⟩ | ⟨rfl, rfl⟩
    · rw [hoth i x hne] at hx; exact .inl ⟨i, x, h, hx⟩
    · rw [hob'] at hx; cases hx
      rcases hb with hb | hb
      · exact .inl ⟨_, ob, hid, hb⟩
      · exact .inr hb

theorem at_same {G : Gh} {id ver : Nat} {x : Nat × Nat × Nat} (h : G.pl id ver = some x) : G.at id ver x = G := by
  unfold Gh.at
  cases G with
  | mk C pl mp =>
    congr 1
    funext i v
    split
    · rename_i h'
      obtain ⟨rfl, rfl⟩ := h'
      exact h.symm
    · rfl

theorem run_loadAgg {t : TypeId} {i : TypeInfo} {d : TypeDesc} (hi : P.info? t = some i) (hd : P.underlying t = some d) (ha : aggOf P t = true) (b o : Nat) (cs : List Value) (hl : cs.length = i.size) (w : World)
    (hc : ∀ (j : Nat) v, cs[j]? = some v → w.cell? ⟨b, o + j, none⟩ = some v) : (Instr.loadAt t (.pointer (some ⟨b, o, none⟩))).run P w = .ok (.agg cs.toArray) w := by
  unfold Instr.loadAt loadVar
  simp only [Instr.sureAddr, Sem.run_bind, Sem.run_pure, Result.andThen_ok, run_isAgg' w hd, ha, if_true, run_sizeOf' w hi]
  rw [← hl, run_loadCells_list w ⟨b, o, none⟩ cs (fun j v hj => by rw [Addr.add_lit]; exact hc j v hj)]
  simp
theorem run_loadOne {t : TypeId} {d : TypeDesc} (hd : P.underlying t = some d) (ha : aggOf P t = false) (b o : Nat) (v : Value) (w : World)
    (hc : w.cell? ⟨b, o, none⟩ = some v) : (Instr.loadAt t (.pointer (some ⟨b, o, none⟩))).run P w = .ok v w := by
  unfold Instr.loadAt loadVar
  simp only [Instr.sureAddr, Sem.run_bind, Sem.run_pure, Result.andThen_ok, run_isAgg' w hd, ha, Bool.false_eq_true, if_false, run_load, hc]

theorem load_cells {t : TypeId} {ti : TI} (hti : tiOf P t = some ti) {G : Gh} {w : World} {b o : Nat} {cs : List V} {r : V} {off : Nat} (hr : partV ti.agg ti.size off cs = some r)
    (hc : ∀ (j : Nat) y, cs[j]? = some y → ∃ u, w.cell? ⟨b, o + j, none⟩ = some u ∧ u.oneCell' = true ∧ VR G y u) :
    ∃ v, (Instr.loadAt t (.pointer (some ⟨b, o + off, none⟩))).run P w = .ok v w ∧ VR G r v := by
  obtain ⟨i, hi, hsz, hk, hag, -, -⟩ := ti_parts hti
  obtain ⟨d, hd⟩ := underlying_some (by rw [hk]; rfl)
  rw [hag] at hr
  unfold partV at hr
  split at hr
  · rename_i ha
    simp only [Option.map_eq_some_iff] at hr
    obtain ⟨q, hq, rfl⟩ := hr
    have hql := cut_length hq
    have hex : ∃ us : List Value, us.length = q.length ∧ ∀ (j : Nat) y u, q[j]? = some y → us[j]? = some u → w.cell? ⟨b, o + off + j, none⟩ = some u ∧ u.oneCell' = true ∧ VR G y u := by
      have hq' : ∀ (j : Nat) y, q[j]? = some y → ∃ u, w.cell? ⟨b, o + off + j, none⟩ = some u ∧ u.oneCell' = true ∧ VR G y u := fun j y hj => by
        have := hc _ y (cut_at hq hj).1
        rw [← Nat.add_assoc] at this
        exact this
      clear hq hql
      generalize o + off = p at hq' ⊢
      induction q generalizing p with
      | nil => exact ⟨[], rfl, by simp⟩
      | cons y q ih =>
        obtain ⟨u, hu⟩ := hq' 0 y rfl
        obtain ⟨us, h1, h2⟩ := ih (p + 1) (fun j y hj => by rw [show p + 1 + j = p + (j + 1) by omega]; exact hq' (j + 1) y (by simpa using hj))
        refine ⟨u :: us, by simp [h1], fun j y' u' hy hu' => ?_⟩
        cases j with
        | zero => simp at hy hu'; subst hy; subst hu'; exact hu
        | succ j => simp at hy hu'; rw [show p + (j + 1) = p + 1 + j by omega]; exact h2 j y' u' hy hu'
    obtain ⟨us, h1, h2⟩ := hex
    have hat : ∀ (j : Nat) u, us[j]? = some u → ∃ y, q[j]? = some y := fun j u hj => by
      have : j < q.length := by rw [← h1]; exact (List.getElem?_eq_some_iff.1 hj).1
      exact ⟨q[j], by simp [this]⟩
    refine ⟨.agg us.toArray, run_loadAgg hi hd ha b (o + off) us (by rw [h1, hql, hsz]) w (fun j v hj => ?_), VRs.agg ⟨by simp [h1], fun j x v hx hv => ?_⟩ (fun j v hv => ?_)⟩
    · obtain ⟨y, hy⟩ := hat j v hj
      exact (h2 j y v hy hj).1
    · exact (h2 j x v hx (by simpa using hv)).2.2
    · obtain ⟨y, hy⟩ := hat j v (by simpa using hv)
      exact (h2 j y v hy (by simpa using hv)).2.1
  · rename_i ha
    obtain ⟨u, h1, h2, h3⟩ := hc off r hr
    exact ⟨u, run_loadOne hd ha b (o + off) u w h1, h3⟩

theorem mod_lt_of {off sz : Nat} (h : 0 < sz) : off / sz * sz + off % sz = off := Nat.div_add_mod' off sz

theorem loadV_sound {t : TypeId} {ti : TI} (hti : tiOf P t = some ti) {G : Gh} {w : World} {H : Hp} (ok : GOK G w H) {x r : V} (h : loadV ti H x = some r) {c : Value} (hx : VR G x c) :
    ∃ v, (Instr.loadAt t c).run P w = .ok v w ∧ VR G r v := by
  unfold loadV at h
  split at h
  · simp only [Option.map_eq_some_iff] at h
    obtain ⟨q, hq, rfl⟩ := h
    rename_i cs
    cases hx.p_inv with
    | @ep _ b o f hC hR =>
      have hq' : partV ti.agg ti.size 0 (cs.map .p) = some (.p q) := by
        unfold partP at hq
        unfold partV
        split at hq
        · rename_i ha
          simp only [Option.map_eq_some_iff] at hq
          obtain ⟨z, hz, rfl⟩ := hq
          have : cut (cs.map V.p) 0 ti.size = some (z.map .p) := by
            obtain ⟨h1, h2⟩ := cut_eq hz
            unfold cut
            rw [List.length_map, Nat.ble_eq_true_of_le h1]
            subst h2
            simp [List.map_take]
          simp [this, mkAgg, allP_map]
        · simp [hq]
      have := load_cells (w := w) (b := b) (o := o) hti hq' (fun j y hj => by
        simp only [List.getElem?_map, Option.map_eq_some_iff] at hj
        obtain ⟨z, hz, rfl⟩ := hj
        exact ⟨f j, ok.stable _ _ _ (hC j z hz), ok.one _ _ _ (hC j z hz), VR.p (hR j z hz)⟩)
      simpa using this
  · cases hx with
    | @ev cs b o f hC hR =>
      have := load_cells (w := w) (b := b) (o := o) hti h (fun j y hj => ⟨f j, ok.stable _ _ _ (hC j y hj), ok.one _ _ _ (hC j y hj), hR j y hj⟩)
      simpa using this
  · rename_i id ver off
    cases hx with
    | @ptr _ _ _ b o bs hpl =>
      split at h
      · rename_i v cs hid
        split at h
        · rename_i hv
          have hv' := beq_eq hv
          subst hv'
          obtain ⟨b', o', k, T, h1, h2, h3, h4, h5, h6⟩ := ok.obs id _ hid
          rw [hpl] at h1
          cases h1
          refine load_cells hti h (fun j y hj => ?_)
          obtain ⟨u, hu1, hu2, hu3⟩ := h4 j y hj
          exact ⟨u, by simp [World.cell?, h2, hu1], hu2, hu3⟩
        · cases h
      · rename_i v f sz es hid
        split at h
        · rename_i hv
          have hv' := beq_eq hv
          subst hv'
          obtain ⟨b', o', k, T, h1, h2, h3, h4, h5, h6, h7, h8⟩ := ok.obs id _ hid
          rw [hpl] at h1
          cases h1
          split at h
          · rename_i e he
            have hcells : ∀ (j : Nat) y, e.cells[j]? = some y → ∃ u, w.cell? ⟨b, o + off / sz * sz + j, none⟩ = some u ∧ u.oneCell' = true ∧ VR G y u := by
              intro j y hj
              obtain ⟨u, hu1, hu2, hu3⟩ := h6 _ e j y he hj
              exact ⟨u, by simp [World.cell?, h2, hu1], hu2, hu3⟩
            have hdm := mod_lt_of (off := off) h3
            have haddr : o + off / sz * sz + off % sz = o + off := by rw [Nat.add_assoc, hdm]
            split at h
            · rename_i cs hz
              simp only [Bool.and_eq_true] at hz
              obtain ⟨⟨hz1, hz2⟩, hag⟩ := hz
              have hz1 := beq_eq hz1
              have hz2 := beq_eq hz2
              cases h
              have hl := h5 _ _ he
              simp only [V.cells, Pv.cells, List.length_map] at hl
              have hq : partV ti.agg ti.size (off % sz) (V.p (.agg cs)).cells = some (.p (.agg cs)) := by
                have hb : Nat.ble (0 + sz) cs.length = true := Nat.ble_eq_true_of_le (by omega)
                have ht : List.take sz (List.map V.p cs) = List.map V.p cs := List.take_of_length_le (by simp; omega)
                rw [hz1, hz2, hag]
                simp only [partV, V.cells, Pv.cells, cut, List.length_map, hb, Option.map_some, List.drop_zero, ht, mkAgg, allP_map]
              have := load_cells hti hq hcells
              rw [haddr] at this
              exact this
            · have := load_cells hti h hcells
              rw [haddr] at this
              exact this
          · cases h
        · cases h
      · cases h
  · cases h
end Go.AX
