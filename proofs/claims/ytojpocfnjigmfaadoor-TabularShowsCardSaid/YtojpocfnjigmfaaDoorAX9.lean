/-
  'AX' AND THE MODEL: a region's operations, in the text's order and in any order that its edges leave.
-/
import Derived.Test.YtojpocfnjigmfaaDoorAX8
set_option linter.unusedVariables false
set_option linter.unusedSimpArgs false
namespace Go.AX
open Go
variable {P : Program}

structure Post (cx : Cx) (base : Nat) (G : Gh) (H : Hp) (w : World) (a : Act) (e' : Env) (H' : Hp) (G' : Gh) (w' : World) (a' : Act) : Prop where
  er : ER G' e' a'
  ok : GOK G' w' H'
  gl : GlOK cx G'
  ext : Ext base G H w G' H' w'
  low : base ≤ H'.length
  size : a'.tmps.size = a.tmps.size
  defers : a'.defers = a.defers

theorem Post.trans {cx : Cx} {base : Nat} {G G' G'' : Gh} {H H' H'' : Hp} {w w' w'' : World} {a a' a'' : Act} {e' e'' : Env} (h : Post cx base G H w a e' H' G' w' a') (k : Post cx base G' H' w' a' e'' H'' G'' w'' a'') : Post cx base G H w a e'' H'' G'' w'' a'' :=
  ⟨k.er, k.ok, k.gl, h.ext.trans k.ext, k.low, k.size.trans h.size, k.defers.trans h.defers⟩

theorem dst_lt {n : Nat} {hs : List (Nat × Nat)} {ops : List Oper} {draw : Bool} (h : regionOk n hs ops draw = true) {i : Nat} {o : Oper} (ho : ops[i]? = some o) {d : Nat} (hd : o.dst = some d) : d < n := by
  unfold regionOk at h
  simp only [Bool.and_eq_true] at h
  have := List.all_eq_true.1 h.1 o (List.mem_of_getElem? ho)
  rw [hd] at this
  simpa using this

theorem ops_text {cx : Cx} (hT : TOK P cx.T) {call : CallF} (hcall : CallOK P cx call) {hs : List (Nat × Nat)} {ops : Array Oper} {n base : Nat} (hdst : ∀ (i : Nat) o d, ops[i]? = some o → o.dst = some d → d < n) {Q : Exit → Act → World → Prop} :
    ∀ (rest : List Oper) (i : Nat) (st st' : St), ops.toList.drop i = rest → runOps cx call hs ops.toList i rest st = some st' → ∀ (G : Gh) (w : World) (a : Act), ER G st.env a → GOK G w st.H → GlOK cx G → base ≤ st.H.length → a.tmps.size = n →
    (∀ G' w' a', Post cx base G st.H w a st'.env st'.H G' w' a' → Q .normal a' w') → wpOps P ops Q (List.range' i rest.length) a w
  | [], i, st, st', hdrop, h, G, w, a, er, ok, gl, hb, hn, hQ => by
    simp [runOps] at h
    subst h
    exact hQ G w a ⟨er, ok, gl, Ext.refl _ _ _ _, hb, rfl, rfl⟩
  | o :: rest, i, st, st', hdrop, h, G, w, a, er, ok, gl, hb, hn, hQ => by
    have hoi : ops[i]? = some o := by
      have : (ops.toList.drop i)[0]? = some o := by rw [hdrop]; rfl
      rw [List.getElem?_drop] at this
      simpa using this
    have hdrop' : ops.toList.drop (i + 1) = rest := by
      rw [← List.drop_drop]
      rw [show ops.toList.drop i = o :: rest from hdrop]
      rfl
    have hput : ∀ t, o.dst = some t → t < a.tmps.size := fun t ht => by rw [hn]; exact hdst i o t hoi ht
    simp only [List.length_cons, List.range'_succ, wpOps, hoi]
    have hwant : ∀ b, wantedV ops.toList st.env o = some b → Region.wanted o (yielded ops a.tmps) = b := fun b hb' => wanted_sound hb' (G := G) (fun j want d hg hd => by
      refine ⟨er d, ?_⟩
      rw [hn]
      simp only [Option.bind_eq_some_iff] at hd
      obtain ⟨o', ho', hd'⟩ := hd
      exact hdst j o' d ho' hd')
    simp only [runOps] at h
    split at h
    · rename_i hw
      rw [hwant true hw, if_pos rfl]
      split at h
      · rename_i v H' hop
        refine .inl (opRun_sound hT hcall hop ok gl (fun x hx => ev_sound gl (fun t _ => er t)) (fun c G' w' h1 h2 h3 h4 => ?_))
        have hvr : ∀ v c, VR G v c → VR G' v c := fun v c hv => h3.vr ok hv
        refine ops_text hT hcall hdst rest (i + 1) _ st' hdrop' h G' w' (a.put o.dst c) ((er.mono hvr).put hput h1) h2 (gl.mono h3.mono) (by show base ≤ H'.length; omega) (by rw [put_size]; exact hn) (fun G'' w'' a'' hp => ?_)
        refine hQ G'' w'' a'' ⟨hp.er, hp.ok, hp.gl, (h3.weaken hb).trans hp.ext, hp.low, by rw [hp.size, put_size], by rw [hp.defers, put_defers]⟩
      · cases h
    · rename_i hw
      rw [hwant false hw, if_neg (by simp)]
      refine ops_text hT hcall hdst rest (i + 1) _ st' hdrop' h G w (a.put o.dst undef) (er.put hput (.undef _)) ok gl hb (by rw [put_size]; exact hn) (fun G'' w'' a'' hp => ?_)
      exact hQ G'' w'' a'' ⟨hp.er, hp.ok, hp.gl, hp.ext, hp.low, by rw [hp.size, put_size], by rw [hp.defers, put_defers]⟩
    · cases h

structure Trace (cx : Cx) (call : CallF) (hs : List (Nat × Nat)) (ops : List Oper) (st st' : St) (E : Nat → Env) (Hs : Nat → Hp) : Prop where
  e0 : E 0 = st.env
  h0 : Hs 0 = st.H
  en : E ops.length = st'.env
  hn : Hs ops.length = st'.H
  step : ∀ (i : Nat) o, ops[i]? = some o →
    (wantedV ops (E i) o = some true ∧ ∃ v, opRun cx call (hintOf hs i) (Hs i) (ev cx (E i)) o = some (v, Hs (i + 1)) ∧ E (i + 1) = putV (E i) o.dst v) ∨
    (wantedV ops (E i) o = some false ∧ E (i + 1) = putV (E i) o.dst .undef ∧ Hs (i + 1) = Hs i)

theorem trace_from {cx : Cx} {call : CallF} {hs : List (Nat × Nat)} {ops : List Oper} : ∀ (rest : List Oper) (i : Nat) (st st' : St), ops.drop i = rest → runOps cx call hs ops i rest st = some st' →
    ∃ (E : Nat → Env) (Hs : Nat → Hp), E i = st.env ∧ Hs i = st.H ∧ E (i + rest.length) = st'.env ∧ Hs (i + rest.length) = st'.H ∧ ∀ (j : Nat) o, i ≤ j → ops[j]? = some o →
      (wantedV ops (E j) o = some true ∧ ∃ v, opRun cx call (hintOf hs j) (Hs j) (ev cx (E j)) o = some (v, Hs (j + 1)) ∧ E (j + 1) = putV (E j) o.dst v) ∨
      (wantedV ops (E j) o = some false ∧ E (j + 1) = putV (E j) o.dst .undef ∧ Hs (j + 1) = Hs j)
  | [], i, st, st', hd, h => by
    simp [runOps] at h
    subst h
    refine ⟨fun _ => st.env, fun _ => st.H, rfl, rfl, rfl, rfl, fun j o hj ho => ?_⟩
    have := List.drop_eq_nil_iff.1 hd
    have h2 := (List.getElem?_eq_some_iff.1 ho).1
    omega
  | o :: rest, i, st, st', hd, h => by
    have hd' : ops.drop (i + 1) = rest := by
      rw [← List.drop_drop, hd]
      rfl
    have hoi : ops[i]? = some o := by
      have : (ops.drop i)[0]? = some o := by rw [hd]; rfl
      rw [List.getElem?_drop] at this
      simpa using this
    have ext : ∀ (s1 : St), runOps cx call hs ops (i + 1) rest s1 = some st' →
        ((wantedV ops st.env o = some true ∧ ∃ v, opRun cx call (hintOf hs i) st.H (ev cx st.env) o = some (v, s1.H) ∧ s1.env = putV st.env o.dst v) ∨
         (wantedV ops st.env o = some false ∧ s1.env = putV st.env o.dst .undef ∧ s1.H = st.H)) →
        ∃ (E : Nat → Env) (Hs : Nat → Hp), E i = st.env ∧ Hs i = st.H ∧ E (i + (o :: rest).length) = st'.env ∧ Hs (i + (o :: rest).length) = st'.H ∧ ∀ (j : Nat) o, i ≤ j → ops[j]? = some o →
          (wantedV ops (E j) o = some true ∧ ∃ v, opRun cx call (hintOf hs j) (Hs j) (ev cx (E j)) o = some (v, Hs (j + 1)) ∧ E (j + 1) = putV (E j) o.dst v) ∨
          (wantedV ops (E j) o = some false ∧ E (j + 1) = putV (E j) o.dst .undef ∧ Hs (j + 1) = Hs j) := by
      intro s1 hr hstep
      obtain ⟨E, Hs, a1, a2, a3, a4, a5⟩ := trace_from rest (i + 1) s1 st' hd' hr
      refine ⟨fun j => if j ≤ i then st.env else E j, fun j => if j ≤ i then st.H else Hs j, by simp, by simp, ?_, ?_, ?_⟩
      · show (if i + (o :: rest).length ≤ i then st.env else E (i + (o :: rest).length)) = _
        rw [if_neg (by simp), ← a3]; congr 1; simp; omega
      · show (if i + (o :: rest).length ≤ i then st.H else Hs (i + (o :: rest).length)) = _
        rw [if_neg (by simp), ← a4]; congr 1; simp; omega
      · intro j o' hj ho'
        by_cases hji : j = i
        · subst hji
          rw [hoi] at ho'
          cases ho'
          simp only [Nat.le_refl, if_true, show ¬ (j + 1 ≤ j) by omega, if_false, a1, a2]
          exact hstep
        · simp only [show ¬ (j ≤ i) by omega, show ¬ (j + 1 ≤ i) by omega, if_false]
          exact a5 j o' (by omega) ho'
    simp only [runOps] at h
    split at h
    · rename_i hw
      split at h
      · rename_i v H' hop
        exact ext _ h (.inl ⟨hw, v, hop, rfl⟩)
      · cases h
    · rename_i hw
      exact ext _ h (.inr ⟨hw, rfl, rfl⟩)
    · cases h

theorem trace_of {cx : Cx} {call : CallF} {hs : List (Nat × Nat)} {ops : List Oper} {st st' : St} (h : runOps cx call hs ops 0 ops st = some st') : ∃ E Hs, Trace cx call hs ops st st' E Hs := by
  obtain ⟨E, Hs, a1, a2, a3, a4, a5⟩ := trace_from ops 0 st st' rfl h
  rw [Nat.zero_add] at a3 a4
  exact ⟨E, Hs, a1, a2, a3, a4, fun i o ho => a5 i o (Nat.zero_le _) ho⟩

theorem zipN_mem {α : Type} : ∀ (l : List α) (k i : Nat) (x : α), l[i]? = some x → (k + i, x) ∈ zipN k l
  | [], k, i, x, h => by simp at h
  | y :: l, k, 0, x, h => by simp at h; subst h; simp [zipN]
  | y :: l, k, i + 1, x, h => by
    have := zipN_mem l (k + 1) i x (by simpa using h)
    rw [show k + 1 + i = k + (i + 1) by omega] at this
    exact List.mem_cons_of_mem _ this

theorem load_none {cx : Cx} {call : CallF} {h : Nat} {H H' : Hp} {ρ : Operand → V} {o : Oper} {v : V} {t : TypeId} {x : Operand} (hc : cls h o.op = 1) (ho : o.op = .load t x) (heq : opRun cx call h H ρ o = some (v, H')) {id ver off : Nat} (hx : ρ x = .ptr id ver off) (hl : H.length ≤ id) : False := by
  have h4 : h < 4 ∧ h ≠ 2 := by
    rw [ho] at hc
    simp only [cls] at hc
    split at hc
    · split at hc
      · cases hc
      · exact ⟨by assumption, by assumption⟩
    · cases hc
  have hb : Nat.ble 4 h = false := by
    cases hh : Nat.ble 4 h with
    | false => rfl
    | true => have := Nat.le_of_ble_eq_true hh; omega
  unfold opRun at heq
  simp only [hb, ho, opV, ldH_ne h4.2, hx] at heq
  split at heq
  · simp only [Option.map_eq_some_iff] at heq
    obtain ⟨r, hr, -⟩ := heq
    have hn : (ldH h H)[id]? = none := by
      unfold ldH
      split
      · rfl
      · unfold boxes; rw [List.getElem?_map, List.getElem?_eq_none hl]; rfl
      · exact List.getElem?_eq_none hl
    simp only [loadV, hn] at hr
    cases hr
  · cases heq

theorem appendV_boxes {ti : TI} {H H' : Hp} {s x r : V} (h : appendV ti H s x = some (r, H')) : H.length ≤ H'.length ∧ ∀ id v cs, (H[id]? = some (.box v cs) → H'[id]? = some (.box v cs)) ∧ (id < H.length → H'[id]? = some (.box v cs) → H[id]? = some (.box v cs)) := by
  have same : ∀ {r : V} {H' : Hp}, some (s, H) = some (r, H') → H.length ≤ H'.length ∧ ∀ id v cs, (H[id]? = some (.box v cs) → H'[id]? = some (.box v cs)) ∧ (id < H.length → H'[id]? = some (.box v cs) → H[id]? = some (.box v cs)) := by
    rintro r H' h
    cases h
    exact ⟨Nat.le_refl _, fun id v cs => ⟨fun h => h, fun _ h => h⟩⟩
  have new : ∀ ob : Ob, H.length ≤ (H ++ [ob]).length ∧ ∀ id v cs, (H[id]? = some (.box v cs) → (H ++ [ob])[id]? = some (.box v cs)) ∧ (id < H.length → (H ++ [ob])[id]? = some (.box v cs) → H[id]? = some (.box v cs)) := by
    intro ob
    refine ⟨by simp, fun id v cs => ⟨fun h => ?_, fun hl h => ?_⟩⟩
    · rw [List.getElem?_append_left (List.getElem?_eq_some_iff.1 h).1]; exact h
    · rw [List.getElem?_append_left hl] at h; exact h
  unfold appendV at h
  split at h
  · split at h
    · cases h
    · split at h
      · split at h
        · exact same h
        · exact same h
        · exact same h
        · cases h
      · split at h
        · cases h
        · split at h
          · split at h
            · cases h; exact new _
            · cases h
          · split at h
            · cases h; exact new _
            · cases h
          · rename_i id ver sz off len
            split at h
            · rename_i fz sz' es harr
              split at h
              · split at h
                · cases h
                  have hid : ∃ v, H[id]? = some (.arr v fz sz' es) := by
                    unfold arrAt at harr
                    split at harr
                    · rename_i hh
                      split at harr
                      · cases harr; exact ⟨_, hh⟩
                      · cases harr
                    · cases harr
                  obtain ⟨v0, hid⟩ := hid
                  refine ⟨by simp, fun id' v cs => ⟨fun h => ?_, fun hl h => ?_⟩⟩
                  · rw [List.getElem?_set]
                    split
                    · rename_i e; subst e; rw [hid] at h; cases h
                    · exact h
                  · rw [List.getElem?_set] at h
                    split at h
                    · split at h
                      · cases h
                      · cases h
                    · exact h
                · cases h
              · cases h
            · cases h
          · cases h
  · cases h
def isFrz (h : Nat) (op : Op) : Prop := Nat.ble 4 h = true ∧ cls (h - 4) op = 0
def isApp (h : Nat) (op : Op) : Prop := (∃ c, op = .call c ∧ c.callee = .builtin .append ∧ h < 4) ∨ isFrz h op
theorem mark_boxes (H : Hp) (v : V) (id ver : Nat) (cs : List V) : (mark H v)[id]? = some (.box ver cs) ↔ H[id]? = some (.box ver cs) := by
  unfold mark
  split
  · split
    · rename_i id2 ver2 sz off len x v' fz sz' es hid
      split
      · rw [List.getElem?_set]
        split
        · rename_i e
          subst e
          rw [hid]
          split <;> simp
        · rfl
      · rfl
    · rfl
  · rfl
theorem marks_boxes : ∀ (l : List V) (H : Hp) (id ver : Nat) (cs : List V), (l.foldl mark H)[id]? = some (.box ver cs) ↔ H[id]? = some (.box ver cs)
  | [], H, id, ver, cs => Iff.rfl
  | v :: l, H, id, ver, cs => by rw [List.foldl_cons, marks_boxes l, mark_boxes]
theorem markAt_boxes (H : Hp) (v : V) (id ver : Nat) (cs : List V) : (markAt H v)[id]? = some (.box ver cs) ↔ H[id]? = some (.box ver cs) := by
  unfold markAt
  split
  · exact marks_boxes _ _ _ _ _
  · exact mark_boxes _ _ _ _ _
theorem markAts_boxes : ∀ (l : List V) (H : Hp) (id ver : Nat) (cs : List V), (l.foldl markAt H)[id]? = some (.box ver cs) ↔ H[id]? = some (.box ver cs)
  | [], H, id, ver, cs => Iff.rfl
  | v :: l, H, id, ver, cs => by rw [List.foldl_cons, markAts_boxes l, markAt_boxes]
theorem markCells_boxes (H : Hp) (v : V) (id ver : Nat) (cs : List V) : (markCells H v)[id]? = some (.box ver cs) ↔ H[id]? = some (.box ver cs) := by
  unfold markCells
  split
  · exact markAts_boxes _ _ _ _ _
  · exact markAt_boxes _ _ _ _ _
theorem frz_boxes (ρ : Operand → V) : ∀ (l : List Operand) (H : Hp) (id ver : Nat) (cs : List V), (l.foldl (fun H x => markCells H (ρ x)) H)[id]? = some (.box ver cs) ↔ H[id]? = some (.box ver cs)
  | [], H, id, ver, cs => Iff.rfl
  | v :: l, H, id, ver, cs => by rw [List.foldl_cons, frz_boxes ρ l, markCells_boxes]
theorem frz_len (ρ : Operand → V) : ∀ (l : List Operand) (H : Hp), (l.foldl (fun H x => markCells H (ρ x)) H).length = H.length
  | [], H => rfl
  | v :: l, H => by rw [List.foldl_cons, frz_len ρ l, markCells_len]
theorem frz_heap {cx : Cx} {call : CallF} {h : Nat} {H H' : Hp} {ρ : Operand → V} {o : Oper} {v : V} (ha : isFrz h o.op) (heq : opRun cx call h H ρ o = some (v, H')) : H' = o.op.operands.toList.foldl (fun H x => markCells H (ρ x)) H := by
  obtain ⟨h4, hc0⟩ := ha
  have hlt : Nat.ble 4 (h - 4) = false := by
    cases hh : Nat.ble 4 (h - 4) with
    | false => rfl
    | true =>
      exfalso
      have := Nat.le_of_ble_eq_true hh
      unfold cls at hc0
      (repeat' split at hc0) <;> first | omega | cases hc0
  have h1 : opRun cx call (h - 4) (o.op.operands.toList.foldl (fun H x => markCells H (ρ x)) H) (fun x => frzCells H (ρ x)) o = some (v, H') := by
    unfold opRun at heq ⊢
    rw [h4] at heq
    rw [hlt]
    exact heq
  exact (cls_zero hc0 h1).1
theorem mark_lk (H : Hp) (v : V) (id : Nat) : ((mark H v)[id]?).map lk = (H[id]?).map lk := by
  unfold mark
  split
  · split
    · rename_i id2 ver2 sz off len x v' fz sz' es hid
      split
      · rw [List.getElem?_set]
        split
        · rename_i e
          subst e
          have := (List.getElem?_eq_some_iff.1 hid).1
          rw [hid]
          simp [this, lk]
        · rfl
      · rfl
    · rfl
  · rfl
theorem marks_lk : ∀ (l : List V) (H : Hp) (id : Nat), ((l.foldl mark H)[id]?).map lk = (H[id]?).map lk
  | [], H, id => rfl
  | v :: l, H, id => by rw [List.foldl_cons, marks_lk l, mark_lk]
theorem markAt_lk (H : Hp) (v : V) (id : Nat) : ((markAt H v)[id]?).map lk = (H[id]?).map lk := by
  unfold markAt
  split
  · exact marks_lk _ _ _
  · exact mark_lk _ _ _
theorem markAts_lk : ∀ (l : List V) (H : Hp) (id : Nat), ((l.foldl markAt H)[id]?).map lk = (H[id]?).map lk
  | [], H, id => rfl
  | v :: l, H, id => by rw [List.foldl_cons, markAts_lk l, markAt_lk]
theorem markCells_lk (H : Hp) (v : V) (id : Nat) : ((markCells H v)[id]?).map lk = (H[id]?).map lk := by
  unfold markCells
  split
  · exact markAts_lk _ _ _
  · exact markAt_lk _ _ _
theorem frz_lk (ρ : Operand → V) : ∀ (l : List Operand) (H : Hp) (id : Nat), ((l.foldl (fun H x => markCells H (ρ x)) H)[id]?).map lk = (H[id]?).map lk
  | [], H, id => rfl
  | v :: l, H, id => by rw [List.foldl_cons, frz_lk ρ l, markCells_lk]
theorem app_boxes {cx : Cx} {call : CallF} {h : Nat} {H H' : Hp} {ρ : Operand → V} {o : Oper} {v : V} (ha : isApp h o.op) (heq : opRun cx call h H ρ o = some (v, H')) :
    H.length ≤ H'.length ∧ ∀ id v cs, (H[id]? = some (.box v cs) → H'[id]? = some (.box v cs)) ∧ (id < H.length → H'[id]? = some (.box v cs) → H[id]? = some (.box v cs)) := by
  have same : H.length ≤ H.length ∧ ∀ id v cs, (H[id]? = some (.box v cs) → H[id]? = some (.box v cs)) ∧ (id < H.length → H[id]? = some (.box v cs) → H[id]? = some (.box v cs)) := ⟨Nat.le_refl _, fun id v cs => ⟨fun h => h, fun _ h => h⟩⟩
  rcases ha with ha | ha
  rotate_left 1
  · rw [frz_heap ha heq]
    exact ⟨Nat.le_of_eq (frz_len ρ _ H).symm, fun id v cs => ⟨(frz_boxes ρ _ H id v cs).2, fun _ => (frz_boxes ρ _ H id v cs).1⟩⟩
  obtain ⟨c, hop, hcl, h4⟩ := ha
  have hb : Nat.ble 4 h = false := by
    cases hh : Nat.ble 4 h with
    | false => rfl
    | true => have := Nat.le_of_ble_eq_true hh; omega
  have plain : builtinV cx H .append (c.args.toList.map ρ) c.argTypes = some (v, H') → H.length ≤ H'.length ∧ ∀ id v cs, (H[id]? = some (.box v cs) → H'[id]? = some (.box v cs)) ∧ (id < H.length → H'[id]? = some (.box v cs) → H[id]? = some (.box v cs)) := by
    intro heq
    rcases builtin_len heq with rfl | ⟨ti, s, x, -, hap⟩
    · exact same
    · exact appendV_boxes hap
  unfold opRun at heq
  simp only [hb, hop, opV, hcl] at heq
  split at heq
  · unfold pureB at heq
    split at heq
    · cases heq
    · split at heq
      · split at heq
        · cases heq; exact same
        · cases heq
      · cases heq
  · split at heq
    · exact plain heq
    · cases heq
  · exact plain heq

structure OrderSays (hs : List (Nat × Nat)) (ops : List Oper) : Prop where
  edge : ∀ (i : Nat) o, ops[i]? = some o → ∀ e ∈ o.after, Region.binds .text e = true → e.on < i
  guard : ∀ (i : Nat) o j want, ops[i]? = some o → o.guard = some (j, want) → ∃ e ∈ o.after, e.on = j ∧ Region.binds .any e = true
  gc : (∀ (i : Nat) o, ops[i]? = some o → ∀ e ∈ o.after, Region.binds .any e = true) ∨ ∃ rk : Nat → Nat, ∀ (i : Nat) o, ops[i]? = some o → ∀ e ∈ o.after, Region.binds .gc e = true → e.on < ops.length ∧ rk e.on < rk i
  clash : ∀ (i j : Nat) oi oj, ops[i]? = some oi → ops[j]? = some oj → i < j → clash ops (hintOf hs i) (hintOf hs j) oi oj = true → ((befores ops []).getD j 0).testBit i = true

theorem order_says {hs : List (Nat × Nat)} {ops : List Oper} (h : orderOk hs ops = true) : OrderSays hs ops := by
  unfold orderOk at h
  simp only [Bool.and_eq_true] at h
  obtain ⟨hgc, h⟩ := h
  have hz := fun (j : Nat) oj (hj : ops[j]? = some oj) => List.all_eq_true.1 h (j, oj) (by have := zipN_mem ops 0 j oj hj; simpa using this)
  refine ⟨fun i o ho e he hb => ?_, fun i o j want ho hg => ?_, ?_, fun i j oi oj hi hj hij hc => ?_⟩
  · have := hz i o ho
    simp only [Bool.and_eq_true] at this
    have h1 := this.1
    unfold edgesOk at h1
    simp only [Bool.and_eq_true] at h1
    have h2 := List.all_eq_true.1 h1.1 e (by simpa using he)
    rw [hb] at h2
    simpa using h2
  · have := hz i o ho
    simp only [Bool.and_eq_true] at this
    have h1 := this.1
    unfold edgesOk at h1
    simp only [Bool.and_eq_true] at h1
    have h2 := h1.2
    rw [hg] at h2
    simp only at h2
    obtain ⟨e, he, h3⟩ := List.any_eq_true.1 h2
    simp only [Bool.and_eq_true] at h3
    exact ⟨e, by simpa using he, by simpa using h3.1, h3.2⟩
  · simp only [Bool.or_eq_true, Bool.not_eq_true'] at hgc
    rcases hgc with h0 | h0
    · refine .inl (fun i o ho e he => ?_)
      cases hb : Region.binds .any e with
      | true => rfl
      | false =>
        rw [List.any_eq_false] at h0
        have := h0 o (List.mem_of_getElem? ho)
        exfalso
        apply this
        exact List.any_eq_true.2 ⟨e, by simpa using he, by simp [hb]⟩
    · refine .inr ⟨fun i => (gcOrder (zipN 0 ops) ops.length []).idxOf i, fun i o ho e he hb => ?_⟩
      have h1 := List.all_eq_true.1 h0 (i, o) (by have := zipN_mem ops 0 i o ho; simpa using this)
      have h2 := List.all_eq_true.1 h1 e (by simpa using he)
      rw [hb] at h2
      simpa using h2
  · have := hz j oj hj
    simp only [Bool.and_eq_true] at this
    have h2 := List.all_eq_true.1 this.2 (i, oi) (by have := zipN_mem ops 0 i oi hi; simpa using this)
    simp only [Bool.or_eq_true, Bool.not_eq_true', hc] at h2
    rcases h2 with (h2 | h2) | h2
    · have : Nat.blt i j = true := by simpa using hij
      rw [this] at h2; cases h2
    · cases h2
    · exact h2

theorem names_dst {ops : List Oper} {o : Oper} {t : Nat} (h : o.dst = some t) : t ∈ namesOf ops o := by simp [namesOf, h]
theorem names_tmp {ops : List Oper} {o : Oper} {t : Nat} (h : Operand.tmp t ∈ o.op.operands) : t ∈ namesOf ops o := by
  simp only [namesOf, List.mem_append, tmpsOf, List.mem_filterMap]
  exact .inl (.inr ⟨.tmp t, by simpa using h, rfl⟩)
theorem names_guard {ops : List Oper} {o : Oper} {j d : Nat} {want : Bool} (hg : o.guard = some (j, want)) (hd : ((ops[j]?).bind (·.dst)) = some d) : d ∈ namesOf ops o := by
  simp [namesOf, hg, hd]

structure Inv (cx : Cx) (base : Nat) (hs : List (Nat × Nat)) (ops : Array Oper) (st : St) (E : Nat → Env) (Hs : Nat → Hp) (X : List Nat) (k : Nat) (G0 : Gh) (w0 : World) (a0 : Act) (G : Gh) (w : World) (a : Act) : Prop where
  ok : GOK G w (Hs k)
  gl : GlOK cx G
  ext : Ext base G0 st.H w0 G (Hs k) w
  low : base ≤ (Hs k).length
  kn : k ≤ ops.size
  size : a.tmps.size = a0.tmps.size
  defers : a.defers = a0.defers
  bound : ∀ i ∈ X, i < ops.size
  ahead : ∀ i ∈ X, ∀ j, ((befores ops.toList []).getD i 0).testBit j = true → j ∈ X
  write : ∀ (j : Nat) o, ops[j]? = some o → 2 ≤ cls (hintOf hs j) o.op → (j ∈ X ↔ j < k)
  done : ∀ (j : Nat) o t, j ∈ X → ops[j]? = some o → o.dst = some t → (∀ j' o', j' ∈ X → ops[j']? = some o' → o'.dst = some t → j' ≤ j) → VR G (look (E (j + 1)) t) (a.tmps.getD t undef)
  kept : ∀ t, (∀ j o, j ∈ X → ops[j]? = some o → o.dst ≠ some t) → VR G (look st.env t) (a.tmps.getD t undef)

theorem hs_same {cx : Cx} {call : CallF} {hs : List (Nat × Nat)} {ops : List Oper} {st st' : St} {E : Nat → Env} {Hs : Nat → Hp} (tr : Trace cx call hs ops st st' E Hs) {i k : Nat} (hik : i ≤ k) (hk : k ≤ ops.length)
    (hno : ∀ (j : Nat) o, i ≤ j → j < k → ops[j]? = some o → ¬ 2 ≤ cls (hintOf hs j) o.op) : Hs k = Hs i := by
  induction k with
  | zero => have : i = 0 := by omega
            subst this; rfl
  | succ k ih =>
    rcases Nat.lt_or_ge i (k + 1) with h | h
    · have hkl : k < ops.length := by omega
      have ho : ops[k]? = some ops[k] := List.getElem?_eq_getElem hkl
      rw [← ih (by omega) (by omega) (fun j o h1 h2 h3 => hno j o h1 (by omega) h3)]
      rcases tr.step k _ ho with ⟨_, v, hop, _⟩ | ⟨_, _, h2⟩
      · have hc := hno k _ (by omega) (by omega) ho
        rcases cls_le (hintOf hs k) ops[k].op with h0 | h1 | h2 | h3
        · exact (cls_zero h0 hop).1
        · exact (cls_one h1 hop).1
        · omega
        · omega
      · exact h2
    · have : i = k + 1 := by omega
      subst this; rfl

theorem box_kept {cx : Cx} {call : CallF} {hs : List (Nat × Nat)} {ops : List Oper} {st st' : St} {E : Nat → Env} {Hs : Nat → Hp} (tr : Trace cx call hs ops st st' E Hs) {i k : Nat} (hik : i ≤ k) (hk : k ≤ ops.length)
    (hno : ∀ (j : Nat) o, i ≤ j → j < k → ops[j]? = some o → cls (hintOf hs j) o.op = 2 → isApp (hintOf hs j) o.op) :
    (Hs i).length ≤ (Hs k).length ∧ ∀ id v cs, ((Hs i)[id]? = some (.box v cs) → (Hs k)[id]? = some (.box v cs)) ∧ (id < (Hs i).length → (Hs k)[id]? = some (.box v cs) → (Hs i)[id]? = some (.box v cs)) := by
  induction k with
  | zero => have : i = 0 := by omega
            subst this; exact ⟨Nat.le_refl _, fun id v cs => ⟨fun h => h, fun _ h => h⟩⟩
  | succ k ih =>
    rcases Nat.lt_or_ge i (k + 1) with h | h
    · have hkl : k < ops.length := by omega
      have ho : ops[k]? = some ops[k] := List.getElem?_eq_getElem hkl
      obtain ⟨hl, hb⟩ := ih (by omega) (by omega) (fun j o h1 h2 h3 => hno j o h1 (by omega) h3)
      have key : (Hs k).length ≤ (Hs (k + 1)).length ∧ ∀ id v cs, ((Hs k)[id]? = some (.box v cs) → (Hs (k + 1))[id]? = some (.box v cs)) ∧ (id < (Hs k).length → (Hs (k + 1))[id]? = some (.box v cs) → (Hs k)[id]? = some (.box v cs)) := by
        rcases tr.step k _ ho with ⟨_, v, hop, _⟩ | ⟨_, _, h2⟩
        · have hc := hno k _ (by omega) (by omega) ho
          rcases cls_le (hintOf hs k) ops[k].op with h0 | h1 | h2 | h3
          · rw [(cls_zero h0 hop).1]; exact ⟨Nat.le_refl _, fun id v cs => ⟨fun h => h, fun _ h => h⟩⟩
          · rw [(cls_one h1 hop).1]; exact ⟨Nat.le_refl _, fun id v cs => ⟨fun h => h, fun _ h => h⟩⟩
          · exact app_boxes (hc h2) hop
          · obtain ⟨ob, hob⟩ := cls_three h3 hop
            rw [hob]
            refine ⟨by simp, fun id v cs => ⟨fun h => ?_, fun hl h => ?_⟩⟩
            · rw [List.getElem?_append_left (List.getElem?_eq_some_iff.1 h).1]; exact h
            · rw [List.getElem?_append_left hl] at h; exact h
        · rw [h2]; exact ⟨Nat.le_refl _, fun id v cs => ⟨fun h => h, fun _ h => h⟩⟩
      exact ⟨Nat.le_trans hl key.1, fun id v cs => ⟨fun h => (key.2 id v cs).1 ((hb id v cs).1 h), fun hlt h => (hb id v cs).2 hlt ((key.2 id v cs).2 (by omega) h)⟩⟩
    · have : i = k + 1 := by omega
      subst this; exact ⟨Nat.le_refl _, fun id v cs => ⟨fun h => h, fun _ h => h⟩⟩

theorem lk_kept {cx : Cx} {call : CallF} {hs : List (Nat × Nat)} {ops : List Oper} {st st' : St} {E : Nat → Env} {Hs : Nat → Hp} (tr : Trace cx call hs ops st st' E Hs) {i k : Nat} (hik : i ≤ k) (hk : k ≤ ops.length)
    (hno : ∀ (j : Nat) o, i ≤ j → j < k → ops[j]? = some o → cls (hintOf hs j) o.op = 2 → isFrz (hintOf hs j) o.op) : (Hs i).length ≤ (Hs k).length ∧ ∀ id, id < (Hs i).length → ((Hs k)[id]?).map lk = ((Hs i)[id]?).map lk := by
  induction k with
  | zero => have : i = 0 := by omega
            subst this; exact ⟨Nat.le_refl _, fun _ _ => rfl⟩
  | succ k ih =>
    rcases Nat.lt_or_ge i (k + 1) with h | h
    · have hkl : k < ops.length := by omega
      have ho : ops[k]? = some ops[k] := List.getElem?_eq_getElem hkl
      obtain ⟨hl, hb⟩ := ih (by omega) (by omega) (fun j o h1 h2 h3 => hno j o h1 (by omega) h3)
      have key : (Hs k).length ≤ (Hs (k + 1)).length ∧ ∀ id, id < (Hs k).length → ((Hs (k + 1))[id]?).map lk = ((Hs k)[id]?).map lk := by
        rcases tr.step k _ ho with ⟨_, v, hop, _⟩ | ⟨_, _, h2⟩
        · have hc := hno k _ (by omega) (by omega) ho
          rcases cls_le (hintOf hs k) ops[k].op with h0 | h1 | h2 | h3
          · rw [(cls_zero h0 hop).1]; exact ⟨Nat.le_refl _, fun _ _ => rfl⟩
          · rw [(cls_one h1 hop).1]; exact ⟨Nat.le_refl _, fun _ _ => rfl⟩
          · rw [frz_heap (hc h2) hop]
            exact ⟨Nat.le_of_eq (frz_len _ _ _).symm, fun id _ => frz_lk _ _ _ id⟩
          · obtain ⟨ob, hob⟩ := cls_three h3 hop
            rw [hob]
            exact ⟨by simp, fun id hid => by rw [List.getElem?_append_left hid]⟩
        · rw [h2]; exact ⟨Nat.le_refl _, fun _ _ => rfl⟩
      exact ⟨Nat.le_trans hl key.1, fun id hid => (key.2 id (by omega)).trans (hb id hid)⟩
    · have : i = k + 1 := by omega
      subst this; exact ⟨Nat.le_refl _, fun _ _ => rfl⟩

theorem look_same {cx : Cx} {call : CallF} {hs : List (Nat × Nat)} {ops : List Oper} {st st' : St} {E : Nat → Env} {Hs : Nat → Hp} (tr : Trace cx call hs ops st st' E Hs) {i k t : Nat} (hik : i ≤ k) (hk : k ≤ ops.length)
    (hno : ∀ (j : Nat) o, i ≤ j → j < k → ops[j]? = some o → o.dst ≠ some t) : look (E k) t = look (E i) t := by
  induction k with
  | zero => have : i = 0 := by omega
            subst this; rfl
  | succ k ih =>
    rcases Nat.lt_or_ge i (k + 1) with h | h
    · have hkl : k < ops.length := by omega
      have ho : ops[k]? = some ops[k] := List.getElem?_eq_getElem hkl
      rw [← ih (by omega) (by omega) (fun j o h1 h2 h3 => hno j o h1 (by omega) h3)]
      have hd := hno k _ (by omega) (by omega) ho
      rcases tr.step k _ ho with ⟨_, v, _, he⟩ | ⟨_, he, _⟩ <;> rw [he, look_put, if_neg hd]
    · have : i = k + 1 := by omega
      subst this; rfl

theorem last_below (p : Nat → Prop) : ∀ n, (∃ j, j < n ∧ p j ∧ ∀ j', j' < n → p j' → j' ≤ j) ∨ (∀ j, j < n → ¬ p j)
  | 0 => .inr fun j h => by omega
  | n + 1 => by
    by_cases h : p n
    · exact .inl ⟨n, by omega, h, fun j' h1 _ => by omega⟩
    · rcases last_below p n with ⟨j, h1, h2, h3⟩ | h0
      · exact .inl ⟨j, by omega, h2, fun j' h4 h5 => by
          rcases Nat.lt_or_ge j' n with h6 | h6
          · exact h3 j' h6 h5
          · have : j' = n := by omega
            subst this; exact absurd h5 h⟩
      · exact .inr fun j h1 h2 => by
          rcases Nat.lt_or_ge j n with h6 | h6
          · exact h0 j h6 h2
          · have : j = n := by omega
            subst this; exact h h2

theorem ops_any {cx : Cx} (hT : TOK P cx.T) {call : CallF} (hcall : CallOK P cx call) {hs : List (Nat × Nat)} {ops : Array Oper} {n base : Nat} (hdst : ∀ (i : Nat) o d, ops[i]? = some o → o.dst = some d → d < n)
    (os : OrderSays hs ops.toList) {st st' : St} {E : Nat → Env} {Hs : Nat → Hp} (tr : Trace cx call hs ops.toList st st' E Hs) {G0 : Gh} {w0 : World} {a0 : Act} (hn : a0.tmps.size = n) {Q : Exit → Act → World → Prop}
    (hQ : ∀ G' w' a', Post cx base G0 st.H w0 a0 st'.env st'.H G' w' a' → Q .normal a' w') :
    ∀ (rest X : List Nat) (k : Nat) (G : Gh) (w : World) (a : Act), Topo ops X rest → (∀ i, i < ops.size → i ∈ X ∨ i ∈ rest) → Inv cx base hs ops st E Hs X k G0 w0 a0 G w a → wpOps P ops Q rest a w
  | [], X, k, G, w, a, ht, hall, inv => by
    simp only [wpOps]
    have hin : ∀ i, i < ops.size → i ∈ X := fun i hi => by simpa using hall i hi
    have hlen : ops.toList.length = ops.size := by simp
    have hH : st'.H = Hs k := by
      rw [← tr.hn, hlen]
      refine hs_same tr inv.kn (by simp) (fun j o h1 h2 h3 h4 => ?_)
      have := (inv.write j o (by simpa using h3) h4).1 (hin j h2)
      omega
    refine hQ G w a ⟨fun t => ?_, by rw [hH]; exact inv.ok, inv.gl, by rw [hH]; exact inv.ext, by rw [hH]; exact inv.low, inv.size, inv.defers⟩
    rw [← tr.en, hlen]
    rcases last_below (fun j => ∃ o, ops[j]? = some o ∧ o.dst = some t) ops.size with ⟨j, h1, ⟨o, h2, h3⟩, h4⟩ | h0
    · have := inv.done j o t (hin j h1) h2 h3 (fun j' o' hj' ho' hd' => h4 j' (inv.bound j' hj') ⟨o', ho', hd'⟩)
      rw [look_same tr (show j + 1 ≤ ops.size by omega) (by simp) (fun j' o' e1 e2 e3 e4 => by have := h4 j' e2 ⟨o', by simpa using e3, e4⟩; omega)]
      exact this
    · rw [look_same tr (Nat.zero_le _) (by simp) (fun j' o' e1 e2 e3 e4 => h0 j' e2 ⟨o', by simpa using e3, e4⟩), tr.e0]
      exact inv.kept t (fun j o hj ho hd => h0 j (inv.bound j hj) ⟨o, ho, hd⟩)
  | i :: rest, X, k, G, w, a, ht, hall, inv => by
    cases ht with
    | @cons _ _ _ o hoi hni he ht' =>
      have hio : i < ops.size := (Array.getElem?_eq_some_iff.1 hoi).1
      have hoi' : ops.toList[i]? = some o := by simpa using hoi
      have hedge : ∀ (i : Nat) o, ops[i]? = some o → ∀ e ∈ o.after, Region.binds .text e = true → e.on < i := fun i o ho => os.edge i o (by simpa using ho)
      have hahead := ahead_done hedge inv.ahead hoi he
      -- whoever clashes with the operation is done just if it stands ahead of it in the text
      have hcl : ∀ j oj, ops[j]? = some oj → j ≠ i → (clash ops.toList (hintOf hs j) (hintOf hs i) oj o = true) → (clash ops.toList (hintOf hs i) (hintOf hs j) o oj = true) → (j ∈ X ↔ j < i) := by
        intro j oj hj hji c1 c2
        constructor
        · intro hjX
          rcases Nat.lt_or_ge j i with h | h
          · exact h
          · have := os.clash i j o oj hoi' (by simpa using hj) (by omega) c2
            exact absurd (inv.ahead j hjX i this) hni
        · intro h
          exact hahead j (os.clash j i oj o (by simpa using hj) hoi' h c1)
      have hnames : ∀ j oj t, ops[j]? = some oj → j ≠ i → oj.dst = some t → t ∈ namesOf ops.toList o → (j ∈ X ↔ j < i) := by
        intro j oj t hj hji hd hm
        refine hcl j oj hj hji ?_ ?_
        · simp [clash, hd, hm]
        · simp [clash, hd, hm]
      have hwr : ∀ j oj, ops[j]? = some oj → j ≠ i → ((2 ≤ cls (hintOf hs j) oj.op ∧ 2 ≤ cls (hintOf hs i) o.op) ∨ (cls (hintOf hs j) oj.op = 2 ∧ cls (hintOf hs i) o.op ≠ 0 ∧ ¬ isFrz (hintOf hs j) oj.op ∧ (hintOf hs i ≠ 3 ∨ ¬ isApp (hintOf hs j) oj.op))) → (j ∈ X ↔ j < i) := by
        intro j oj hj hji hcc0
        have hsoft : ∀ {h h' : Nat} {p q : Op}, softPair h h' p q = true → cls h p ≤ 1 ∧ (isFrz h' q ∨ (h = 3 ∧ isApp h' q)) := by
          intro h h' p q hs
          unfold softPair at hs
          split at hs
          · rename_i op
            simp only [Bool.and_eq_true, Bool.or_eq_true] at hs
            obtain ⟨e0, e1⟩ := hs
            have e0 : h < 4 := by simpa using e0
            refine ⟨?_, ?_⟩
            · simp only [cls, if_pos e0]
              split <;> omega
            · rcases e1 with ⟨e2, e3⟩ | ⟨⟨e1, e2⟩, e3⟩
              · exact .inl ⟨e2, by simpa using e3⟩
              · refine .inr ⟨beq_eq e1, ?_⟩
                split at e3
                · rename_i c
                  refine .inl ⟨c, rfl, ?_, by simpa using e2⟩
                  split at e3
                  · assumption
                  · cases e3
                · cases e3
          · cases hs
        have s1 : softPair (hintOf hs j) (hintOf hs i) oj.op o.op = false := by
          cases hq : softPair (hintOf hs j) (hintOf hs i) oj.op o.op with
          | false => rfl
          | true => have := (hsoft hq).1; omega
        have s2 : softPair (hintOf hs i) (hintOf hs j) o.op oj.op = false := by
          cases hq : softPair (hintOf hs i) (hintOf hs j) o.op oj.op with
          | false => rfl
          | true =>
            obtain ⟨q1, q2⟩ := hsoft hq
            rcases hcc0 with h | ⟨-, -, h, h'⟩
            · omega
            · rcases q2 with q2 | ⟨q2, q3⟩
              · exact absurd q2 h
              · rcases h' with h' | h'
                · exact absurd q2 h'
                · exact absurd q3 h'
        have hcc : ((2 ≤ cls (hintOf hs j) oj.op ∧ 2 ≤ cls (hintOf hs i) o.op) ∨ (cls (hintOf hs j) oj.op = 2 ∧ cls (hintOf hs i) o.op ≠ 0)) := by
          rcases hcc0 with h | ⟨h, h', -, -⟩
          · exact .inl h
          · exact .inr ⟨h, h'⟩
        have h1 := cls_le (hintOf hs j) oj.op
        have h2 := cls_le (hintOf hs i) o.op
        have key : ∀ (x y : Nat), (x = 0 ∨ x = 1 ∨ x = 2 ∨ x = 3) → (y = 0 ∨ y = 1 ∨ y = 2 ∨ y = 3) → ((2 ≤ x ∧ 2 ≤ y) ∨ (x = 2 ∧ y ≠ 0)) → ((x == 2 && y != 0) || (y == 2 && x != 0) || (x == 3 && y == 3)) = true ∧ ((y == 2 && x != 0) || (x == 2 && y != 0) || (y == 3 && x == 3)) = true := by
          rintro x y (rfl | rfl | rfl | rfl) (rfl | rfl | rfl | rfl) h <;> simp at h ⊢
        obtain ⟨k1, k2⟩ := key _ _ h1 h2 hcc
        refine hcl j oj hj hji ?_ ?_
        · unfold clash
          rw [k1, s1, s2]
          simp
        · unfold clash
          rw [k2, s1, s2]
          simp
      -- what a name of the operation holds
      have hslot : ∀ t, t ∈ namesOf ops.toList o → VR G (look (E i) t) (a.tmps.getD t undef) := by
        intro t hm
        rcases last_below (fun j => ∃ o, ops[j]? = some o ∧ o.dst = some t) i with ⟨j, h1, ⟨oj, h2, h3⟩, h4⟩ | h0
        · have hjX := (hnames j oj t h2 (by omega) h3 hm).2 h1
          have := inv.done j oj t hjX h2 h3 (fun j' o' hj' ho' hd' => by
            have hne : j' ≠ i := fun e => hni (e ▸ hj')
            exact h4 j' ((hnames j' o' t ho' hne hd' hm).1 hj') ⟨o', ho', hd'⟩)
          rw [look_same tr (show j + 1 ≤ i by omega) (by simp; omega) (fun j' o' e1 e2 e3 e4 => by have := h4 j' e2 ⟨o', by simpa using e3, e4⟩; omega)]
          exact this
        · rw [look_same tr (Nat.zero_le _) (by simp; omega) (fun j' o' e1 e2 e3 e4 => h0 j' e2 ⟨o', by simpa using e3, e4⟩), tr.e0]
          refine inv.kept t (fun j oj hj ho' hd' => ?_)
          have hne : j ≠ i := fun e => hni (e ▸ hj)
          exact h0 j ((hnames j oj t ho' hne hd' hm).1 hj) ⟨oj, ho', hd'⟩
      have hput : ∀ t, o.dst = some t → t < a.tmps.size := fun t ht => by rw [inv.size, hn]; exact hdst i o t hoi ht
      have hwant : ∀ b, wantedV ops.toList (E i) o = some b → Region.wanted o (yielded ops a.tmps) = b := fun b hb' => wanted_sound hb' (G := G) (fun j want d hg hd => by
        refine ⟨hslot d (names_guard hg (by simpa using hd)), ?_⟩
        rw [inv.size, hn]
        simp only [Option.bind_eq_some_iff] at hd
        obtain ⟨o', ho', hd'⟩ := hd
        exact hdst j o' d ho' hd')
      -- the objects that the operation meets are those of the text's run
      have hHk : 2 ≤ cls (hintOf hs i) o.op → Hs k = Hs i := by
        intro hc
        have hw : ∀ j oj, ops[j]? = some oj → 2 ≤ cls (hintOf hs j) oj.op → j ≠ i → (j < k ↔ j < i) := fun j oj hj c1 hji => by rw [← inv.write j oj hj c1]; exact hwr j oj hj hji (.inl ⟨c1, hc⟩)
        rcases Nat.lt_or_ge i k with h | h
        · refine hs_same tr (Nat.le_of_lt h) (by simpa using inv.kn) (fun j oj e1 e2 e3 e4 => ?_)
          have hji : j ≠ i := by
            rintro rfl
            have e3' : ops[j]? = some oj := by simpa using e3
            rw [hoi] at e3'; cases e3'
            exact hni ((inv.write j o hoi e4).2 e2)
          have := (hw j oj (by simpa using e3) e4 hji).1 e2
          omega
        · refine (hs_same tr h (by simp; omega) (fun j oj e1 e2 e3 e4 => ?_)).symm
          have := (hw j oj (by simpa using e3) e4 (by omega)).2 e2
          omega
      -- a load meets the object that it met in the text's run
      have hLd : cls (hintOf hs i) o.op = 1 → ∀ id ver off x, x ∈ o.op.operands → ev cx (E i) x = .ptr id ver off → wantedV ops.toList (E i) o = some true → ((Hs k)[id]?).map lk = ((Hs i)[id]?).map lk := by
        intro hc id ver off x hx hxe hwt
        have hw : ∀ j oj, ops[j]? = some oj → cls (hintOf hs j) oj.op = 2 → ¬ isFrz (hintOf hs j) oj.op → (hintOf hs i ≠ 3 ∨ ¬ isApp (hintOf hs j) oj.op) → j ≠ i → (j < k ↔ j < i) := fun j oj hj c1 c0 c2 hji => by rw [← inv.write j oj hj (by omega)]; exact hwr j oj hj hji (.inr ⟨c1, by omega, c0, c2⟩)
        have hvr : VR G (ev cx (E i) x) (a.eval x) := ev_sound inv.gl (fun t ht => hslot t (names_tmp (by rw [← ht]; exact hx)))
        rw [hxe] at hvr
        have hlt : id < (Hs k).length := by
          generalize a.eval x = c at hvr
          cases hvr with
          | ptr hp =>
            rcases Nat.lt_or_ge id (Hs k).length with h | h
            · exact h
            · rw [inv.ok.fresh id ver h] at hp; cases hp
        by_cases h3 : hintOf hs i = 3
        · -- a variable
          have hbox : ∃ v cs, (Hs i)[id]? = some (.box v cs) := by
            rcases tr.step i o hoi' with ⟨_, v, hop, _⟩ | ⟨hwn, _, _⟩
            · obtain ⟨-, t, y, hty, -⟩ := cls_one hc hop
              have hxy : x = y := by rw [hty] at hx; simpa [Op.operands] using hx
              subst hxy
              unfold opRun at hop
              rw [h3] at hop
              have : Nat.ble 4 3 = false := rfl
              simp only [this, hty, opV, hxe] at hop
              split at hop
              · simp only [Option.map_eq_some_iff] at hop
                obtain ⟨r, hr, -⟩ := hop
                have hr : loadV _ (boxes (Hs i)) (.ptr id ver off) = some r := hr
                unfold loadV at hr
                simp only at hr
                split at hr
                · rename_i v cs hid
                  rcases boxes_at hid with ⟨v', cs', he, ho⟩ | he
                  · exact ⟨v', cs', ho⟩
                  · cases he
                · rename_i v f sz es hid
                  rcases boxes_at hid with ⟨v', cs', he, ho⟩ | he <;> cases he
                · cases hr
              · cases hop
            · rw [hwt] at hwn; cases hwn
          obtain ⟨v, cs, hbox⟩ := hbox
          refine congrArg (Option.map lk) ?_
          rw [hbox]
          rcases Nat.lt_or_ge i k with h | h
          · refine ((box_kept tr (Nat.le_of_lt h) (by simpa using inv.kn) (fun j oj e1 e2 e3 e4 => ?_)).2 id v cs).1 hbox
            have hji : j ≠ i := by
              rintro rfl
              have e3' : ops[j]? = some oj := by simpa using e3
              rw [hoi] at e3'; cases e3'
              omega
            by_cases ha : isApp (hintOf hs j) oj.op
            · exact ha
            · have := (hw j oj (by simpa using e3) e4 (fun hf => ha (.inr hf)) (.inr ha) hji).1 e2
              omega
          · refine ((box_kept tr h (by simp; omega) (fun j oj e1 e2 e3 e4 => ?_)).2 id v cs).2 hlt hbox
            by_cases ha : isApp (hintOf hs j) oj.op
            · exact ha
            · have := (hw j oj (by simpa using e3) e4 (fun hf => ha (.inr hf)) (.inr ha) (by omega)).2 e2
              omega
        rcases Nat.lt_or_ge i k with h | h
        · obtain ⟨hl, hb⟩ := lk_kept tr (Nat.le_of_lt h) (by simpa using inv.kn) (fun j oj e1 e2 e3 e4 => by
            have hji : j ≠ i := by
              rintro rfl
              have e3' : ops[j]? = some oj := by simpa using e3
              rw [hoi] at e3'; cases e3'
              omega
            by_cases ha : isFrz (hintOf hs j) oj.op
            · exact ha
            · have := (hw j oj (by simpa using e3) e4 ha (.inl h3) hji).1 e2
              omega)
          -- the load was done in the text's run: so the object was there
          rcases tr.step i o hoi' with ⟨_, v, hop, _⟩ | ⟨hwn, _, _⟩
          · rcases Nat.lt_or_ge id (Hs i).length with h' | h'
            · exact hb id h'
            · exfalso
              obtain ⟨-, t, y, hty, -⟩ := cls_one hc hop
              have hxy : x = y := by rw [hty] at hx; simpa [Op.operands] using hx
              subst hxy
              exact load_none hc hty hop hxe h'
          · rw [hwt] at hwn; cases hwn
        · obtain ⟨hl, hb⟩ := lk_kept tr h (by simp; omega) (fun j oj e1 e2 e3 e4 => by
            by_cases ha : isFrz (hintOf hs j) oj.op
            · exact ha
            · have := (hw j oj (by simpa using e3) e4 ha (.inl h3) (by omega)).2 e2
              omega)
          exact (hb id hlt).symm
      -- behind the operation
      have after : ∀ (v : V) (c : Value) (k' : Nat) (G' : Gh) (w' : World), look (E (i + 1)) = look (putV (E i) o.dst v) → VR G' v c → (∀ u x, VR G u x → VR G' u x) → GOK G' w' (Hs k') → GlOK cx G' → Ext base G0 st.H w0 G' (Hs k') w' → base ≤ (Hs k').length → k' ≤ ops.size →
          (∀ (j : Nat) oj, ops[j]? = some oj → 2 ≤ cls (hintOf hs j) oj.op → (j ∈ i :: X ↔ j < k')) → wpOps P ops Q rest (a.put o.dst c) w' := by
        intro v c k' G' w' hE hv hvr hok hgl hext hlow hkn hwrite
        refine ops_any hT hcall hdst os tr hn hQ rest (i :: X) k' G' w' (a.put o.dst c) ht' (fun j hj => ?_) ⟨hok, hgl, hext, hlow, hkn, by rw [put_size, inv.size], by rw [put_defers, inv.defers], ?_, ?_, hwrite, ?_, ?_⟩
        · rcases hall j hj with h | h
          · exact .inl (List.mem_cons_of_mem _ h)
          · rcases List.mem_cons.1 h with rfl | h
            · exact .inl List.mem_cons_self
            · exact .inr h
        · intro j hj
          rcases List.mem_cons.1 hj with rfl | hj
          · exact hio
          · exact inv.bound j hj
        · intro j hj m hm
          rcases List.mem_cons.1 hj with rfl | hj
          · exact List.mem_cons_of_mem _ (hahead m hm)
          · exact List.mem_cons_of_mem _ (inv.ahead j hj m hm)
        · intro j oj t hj hoj hd hlast
          by_cases hdt : o.dst = some t
          · -- the slot is the operation's own: it is the last
            have hle := hlast i o List.mem_cons_self hoi hdt
            have hji : j = i := by
              rcases List.mem_cons.1 hj with h | h
              · exact h
              · by_cases hji : j = i
                · exact hji
                · have := (hnames j oj t hoj hji hd (names_dst hdt)).1 h
                  omega
            subst hji
            rw [hE, look_put, if_pos hdt]
            rw [hdt, put_same c (hput t hdt)]
            exact hv
          · have hji : j ≠ i := by
              rintro rfl
              rw [hoi] at hoj; cases hoj
              exact hdt hd
            have hjX : j ∈ X := by
              rcases List.mem_cons.1 hj with h | h
              · exact absurd h hji
              · exact h
            rw [put_other c hdt]
            exact hvr _ _ (inv.done j oj t hjX hoj hd (fun j' o' hj' => hlast j' o' (List.mem_cons_of_mem _ hj')))
        · intro t hno
          have hdt : o.dst ≠ some t := hno i o List.mem_cons_self hoi
          rw [put_other c hdt]
          exact hvr _ _ (inv.kept t (fun j oj hj => hno j oj (List.mem_cons_of_mem _ hj)))
      -- which place the objects have come to
      have wr2 : 2 ≤ cls (hintOf hs i) o.op → ∀ (j : Nat) oj, ops[j]? = some oj → 2 ≤ cls (hintOf hs j) oj.op → (j ∈ i :: X ↔ j < i + 1) := by
        intro hc j oj hj c1
        by_cases hji : j = i
        · subst hji; simp
        · have := hwr j oj hj hji (.inl ⟨c1, hc⟩)
          simp only [List.mem_cons, hji, false_or]
          rw [this]; omega
      have wr0 : ¬ 2 ≤ cls (hintOf hs i) o.op → ∀ (j : Nat) oj, ops[j]? = some oj → 2 ≤ cls (hintOf hs j) oj.op → (j ∈ i :: X ↔ j < k) := by
        intro hc j oj hj c1
        have hji : j ≠ i := by
          rintro rfl
          rw [hoi] at hj; cases hj
          exact hc c1
        simp only [List.mem_cons, hji, false_or]
        exact inv.write j oj hj c1
      simp only [wpOps, hoi]
      rcases tr.step i o hoi' with ⟨hw, v, hop, hE⟩ | ⟨hw, hE, hHs⟩
      · rw [hwant true hw, if_pos rfl]
        have hop' : ∃ H', opRun cx call (hintOf hs i) (Hs k) (ev cx (E i)) o = some (v, H') ∧ (2 ≤ cls (hintOf hs i) o.op → H' = Hs (i + 1)) ∧ (¬ 2 ≤ cls (hintOf hs i) o.op → H' = Hs k) := by
          rcases cls_le (hintOf hs i) o.op with h0 | h1 | h2 | h3
          · exact ⟨Hs k, (cls_zero h0 hop).2 _, fun h2 => (by omega), fun _ => rfl⟩
          · obtain ⟨-, t, x, htx, hld⟩ := cls_one h1 hop
            exact ⟨Hs k, hld _ (fun id ver off he => hLd h1 id ver off x (by rw [htx]; simp [Op.operands]) he hw), fun h2 => (by omega), fun _ => rfl⟩
          · exact ⟨Hs (i + 1), by rw [hHk (by omega)]; exact hop, fun _ => rfl, fun h => (by omega)⟩
          · exact ⟨Hs (i + 1), by rw [hHk (by omega)]; exact hop, fun _ => rfl, fun h => (by omega)⟩
        obtain ⟨H', hop2, hH2, hH0⟩ := hop'
        refine .inl (opRun_sound hT hcall hop2 inv.ok inv.gl (fun x hx => ev_sound inv.gl (fun t ht => hslot t (names_tmp (by rw [← ht]; exact hx)))) (fun c G' w' h1 h2 h3 h4 => ?_))
        have hvr : ∀ u x, VR G u x → VR G' u x := fun u x hu => h3.vr inv.ok hu
        have hlow := inv.low
        by_cases hc : 2 ≤ cls (hintOf hs i) o.op
        · have hH := hH2 hc
          subst hH
          exact after v c (i + 1) G' w' (by rw [hE]) h1 hvr h2 (inv.gl.mono h3.mono) (inv.ext.trans (h3.weaken inv.low)) (by omega) (by omega) (wr2 hc)
        · have hH := hH0 hc
          subst hH
          exact after v c k G' w' (by rw [hE]) h1 hvr h2 (inv.gl.mono h3.mono) (inv.ext.trans (h3.weaken inv.low)) (by omega) inv.kn (wr0 hc)
      · rw [hwant false hw, if_neg (by simp)]
        by_cases hc : 2 ≤ cls (hintOf hs i) o.op
        · have hk : Hs (i + 1) = Hs k := by rw [hHs, hHk hc]
          exact after .undef undef (i + 1) G w (by rw [hE]) (.undef _) (fun _ _ h => h) (by rw [hk]; exact inv.ok) inv.gl (by rw [hk]; exact inv.ext) (by rw [hk]; exact inv.low) (by omega) (wr2 hc)
        · exact after .undef undef k G w (by rw [hE]) (.undef _) (fun _ _ h => h) inv.ok inv.gl inv.ext inv.low inv.kn (wr0 hc)
end Go.AX
