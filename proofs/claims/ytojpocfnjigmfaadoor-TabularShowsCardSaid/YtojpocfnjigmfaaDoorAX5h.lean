/-
  'AX' AND THE MODEL: maps; freezing from within.
-/
import Derived.Test.YtojpocfnjigmfaaDoorAX5g
import Derived.MapKept
set_option linter.unusedVariables false
set_option linter.unusedSimpArgs false
namespace Go.AX
open Go
variable {P : Program}

theorem turnSame {G : Gh} {w w' : World} {H : Hp} (ok : GOK G w H) {id : Nat} {ob ob' : Ob} (hid : H[id]? = some ob)
    (hos : w'.os = w.os) (htape : w'.tape = w.tape) (hout : w'.output = w.output) (hs : w.heap.size ≤ w'.heap.size)
    (hold : ∀ c, c < w.heap.size → blk G id ob ≠ some c → w'.heap[c]? = w.heap[c]?)
    (hst : ∀ c j v, blk G id ob = some c → G.C c j = some v → w'.cell? ⟨c, j, none⟩ = some v)
    (hob' : blk G id ob' = blk G id ob) (hR : ObR G w' id ob') :
    GOK G w' (H.set id ob') ∧ Ext H.length G H w G (H.set id ob') w' := by
  have hlt : id < H.length := (List.getElem?_eq_some_iff.1 hid).1
  have hcase : ∀ i x, (H.set id ob')[i]? = some x → (i ≠ id ∧ H[i]? = some x) ∨ (i = id ∧ x = ob') := by
    intro i x hi
    rw [List.getElem?_set] at hi
    split at hi
    · rename_i h
      subst h
      simp [hlt] at hi
      exact .inr ⟨rfl, hi.symm⟩
    · rename_i h
      exact .inl ⟨fun e => h e.symm, hi⟩
  have hnot : ∀ i x c, i ≠ id → H[i]? = some x → blk G i x = some c → blk G id ob ≠ some c := fun i x c hne hi hx he =>
    hne (ok.apart i id x ob c hi hid hx he)
  refine ⟨⟨?_, ok.one, ?_, ?_, ?_, ?_⟩, ⟨hos, htape, hout, hs, ?_, fun _ _ _ h => h, fun _ _ _ h => .inl h, fun i v x _ h => h, fun _ _ _ h => h, ?_⟩⟩
  · intro c j v h
    by_cases hc : blk G id ob = some c
    · exact hst c j v hc h
    · rw [World.cell?_of_block (w := w) (hold c (stable_lt ok h) hc)]
      exact ok.stable c j v h
  · intro i x hi
    rcases hcase i x hi with ⟨hne, h⟩ | ⟨rfl, rfl⟩
    · exact (ok.obs i x h).mono (fun _ _ _ h => h) (fun _ _ _ h => h) (fun _ _ h => h) (fun v => rfl) (fun c hc => ⟨hold c (blk_lt ok h hc) (hnot i x c hne h hc), fun _ => rfl⟩)
    · exact hR
  · intro i j x y c hi hj hx hy
    rcases hcase i x hi with ⟨hne, h⟩ | ⟨rfl, rfl⟩ <;> rcases hcase j y hj with ⟨hne', h'⟩ | ⟨rfl, rfl⟩
    · exact ok.apart i j x y c h h' hx hy
    · rw [hob'] at hy
      exact ok.apart i _ x _ c h hid hx hy
    · rw [hob'] at hx
      exact (ok.apart j _ y _ c h' hid hy hx).symm
    · rfl
  · intro i v hi
    simp at hi
    exact ok.fresh i v hi
  · intro i hi
    simp at hi
    exact ok.freshM i hi
  · intro c hc hn
    exact hold c hc (fun he => hn ⟨id, ob, hid, he⟩)
  · rintro c ⟨i, x, hi, hx⟩
    rcases hcase i x hi with ⟨hne, h⟩ | ⟨rfl, rfl⟩
    · exact .inl ⟨i, x, h, hx⟩
    · rw [hob'] at hx
      exact .inl ⟨_, ob, hid, hx⟩

theorem frz_arr_p (H : Hp) (id ver sz off len : Nat) : (∃ l, frz H (.arr id ver sz off len) = .p (.sl sz false l)) ∨ frz H (.arr id ver sz off len) = .arr id ver sz off len := by
  simp only [frz]
  cases elems H (V.arr id ver sz off len) with
  | none => exact .inr rfl
  | some es =>
    cases hl : allP es with
    | none => exact .inr (by simp only [hl])
    | some l => exact .inl ⟨l, by simp only [hl]⟩
theorem frzAt_cells (H : Hp) (e : V) : (frzAt H e).cells = e.cells.map (frz H) := by
  cases e with
  | agg cs =>
    have : ∀ l, (V.agg l).cells = l := fun _ => rfl
    rw [this, frzAt]
    exact mkAgg_cells _
  | p x =>
    simp only [frzAt, frz, V.cells, List.map_map]
    rfl
  | arr id ver sz off len =>
    have h1 : frzAt H (.arr id ver sz off len) = frz H (.arr id ver sz off len) := rfl
    have h2 : (V.arr id ver sz off len).cells.map (frz H) = [frz H (.arr id ver sz off len)] := rfl
    rw [h1, h2]
    rcases frz_arr_p H id ver sz off len with ⟨l, h⟩ | h <;> rw [h] <;> rfl
  | undef => rfl
  | tup cs => rfl
  | ptr a b c => rfl
  | fn f a b => rfl
  | map id => rfl
  | ev cs => rfl
theorem marks_elems : ∀ (l : List V) (H : Hp) (x : V), elems (l.foldl mark H) x = elems H x
  | [], H, x => rfl
  | y :: l, H, x => by rw [List.foldl_cons, marks_elems l, elems_mark]
theorem mark_at {H : Hp} {id v fz sz : Nat} {es : List V} (h : H[id]? = some (.arr v fz sz es)) (y : V) : ∃ fz', (mark H y)[id]? = some (.arr v fz' sz es) := by
  unfold mark
  split
  · rename_i id2 ver2 sz2 off2 len2
    split
    · rename_i v' fz' sz' es' hid'
      split
      · rw [List.getElem?_set]
        by_cases he : id2 = id
        · subst he
          rw [h] at hid'
          cases hid'
          have := (List.getElem?_eq_some_iff.1 h).1
          simp [this]
        · rw [if_neg he]; exact ⟨fz, h⟩
      · exact ⟨fz, h⟩
    · exact ⟨fz, h⟩
  · exact ⟨fz, h⟩
theorem marks_at : ∀ (l : List V) {H : Hp} {id v fz sz : Nat} {es : List V}, H[id]? = some (.arr v fz sz es) → ∃ fz', (l.foldl mark H)[id]? = some (.arr v fz' sz es)
  | [], H, id, v, fz, sz, es, h => ⟨fz, h⟩
  | y :: l, H, id, v, fz, sz, es, h => by
    obtain ⟨fz', h'⟩ := mark_at h y
    rw [List.foldl_cons]
    exact marks_at l h'

theorem hardOb_sound {G : Gh} {w : World} {H : Hp} (ok : GOK G w H) (id : Nat) :
    ∃ G', GOK G' w (hardOb H id) ∧ Ext H.length G H w G' (hardOb H id) w ∧ (hardOb H id).length = H.length := by
  unfold hardOb
  split
  · rename_i v fz0 sz es hid
    obtain ⟨G1, ok1, e1, r1⟩ := marks_sound (es.flatMap V.cells) ok
    obtain ⟨fz, hid1⟩ := marks_at (es.flatMap V.cells) hid
    have hfz : ∀ x, frz ((es.flatMap V.cells).foldl mark H) x = frz H x := frz_marks _ _
    have hl1 : ((es.flatMap V.cells).foldl mark H).length = H.length := marks_len _ _
    simp only [hid1]
    generalize (es.flatMap V.cells).foldl mark H = H1 at *
    obtain ⟨b, o, k, T, h1, h2, h3, h4, h5, h6, h7, h8⟩ := ok1.obs id _ hid1
    obtain ⟨b0, o0, k0, T0, g1, g2, g3, g4, g5, g6, g7, g8⟩ := ok.obs id _ hid
    have hpl := e1.allPl ok _ _ _ g1
    rw [h1] at hpl
    obtain ⟨rfl, rfl, hk⟩ : b = b0 ∧ o = o0 ∧ k.size = k0.size := by
      have := Option.some.inj hpl
      simp only [Prod.mk.injEq] at this
      exact this
    rw [h2] at g2
    cases g2
    have hcell : ∀ (i : Nat) e (j : Nat) y, es[i]? = some e → (frzAt H1 e).cells[j]? = some y → ∃ u, k[o + i * sz + j]? = some u ∧ u.oneCell' = true ∧ VR G1 y u := by
      intro i e j y he hy
      rw [frzAt_cells, List.getElem?_map, Option.map_eq_some_iff] at hy
      obtain ⟨y0, hy0, rfl⟩ := hy
      obtain ⟨u, c1, c2, c3⟩ := g6 i e j y0 he hy0
      have hmem : y0 ∈ es.flatMap V.cells := List.mem_flatMap.2 ⟨e, List.mem_of_getElem? he, List.mem_of_getElem? hy0⟩
      refine ⟨u, c1, c2, ?_⟩
      rw [hfz]
      exact r1 y0 hmem u c3
    obtain ⟨ok2, e2⟩ := turnSame (G := G1) (w := w) (w' := w) ok1 hid1 (ob' := .arr v fz sz (es.map (frzAt H1))) rfl rfl rfl (Nat.le_refl _) (fun _ _ _ => rfl)
      (fun c j u _ h => ok1.stable c j u h) rfl (by
        refine ⟨b, o, k, T, h1, h2, h3, by simpa using h4, fun i e he => ?_, fun i e j y he hy => ?_, h7, h8⟩
        · simp only [List.getElem?_map, Option.map_eq_some_iff] at he
          obtain ⟨e0, he0, rfl⟩ := he
          rw [frzAt_cells, List.length_map]
          exact h5 i e0 he0
        · simp only [List.getElem?_map, Option.map_eq_some_iff] at he
          obtain ⟨e0, he0, rfl⟩ := he
          exact hcell i e0 j y he0 hy)
    exact ⟨G1, ok2, e1.chain e2 (by rw [hl1]; exact Nat.le_refl _), by simp [hl1]⟩
  · exact ⟨G, ok, Ext.refl _ _ _ _, rfl⟩

theorem hardV_sound {w : World} : ∀ (n : Nat) (v : V) {G : Gh} {H : Hp} (ok : GOK G w H),
    ∃ G', GOK G' w (hardV n H v) ∧ Ext H.length G H w G' (hardV n H v) w ∧ (hardV n H v).length = H.length := by
  intro n
  induction n with
  | zero => intro v G H ok; exact ⟨G, ok, Ext.refl _ _ _ _, rfl⟩
  | succ n ih =>
    have fold : ∀ (l : List V) {G : Gh} {H : Hp} (ok : GOK G w H), ∃ G', GOK G' w (l.foldl (hardV n) H) ∧ Ext H.length G H w G' (l.foldl (hardV n) H) w ∧ (l.foldl (hardV n) H).length = H.length := by
      intro l
      induction l with
      | nil => intro G H ok; exact ⟨G, ok, Ext.refl _ _ _ _, rfl⟩
      | cons x l ihl =>
        intro G H ok
        obtain ⟨G1, ok1, e1, l1⟩ := ih x ok
        obtain ⟨G2, ok2, e2, l2⟩ := ihl ok1
        exact ⟨G2, ok2, e1.chain e2 (by omega), by rw [List.foldl_cons]; omega⟩
    intro v G H ok
    unfold hardV
    split
    · exact ⟨G, ok, Ext.refl _ _ _ _, rfl⟩
    · rename_i heq
      cases heq
      split
      · rename_i es hid
        obtain ⟨G1, ok1, e1, l1⟩ := fold es ok
        obtain ⟨G2, ok2, e2, l2⟩ := hardOb_sound ok1 _
        exact ⟨G2, ok2, e1.chain e2 (by omega), by omega⟩
      · exact ⟨G, ok, Ext.refl _ _ _ _, rfl⟩
    · rename_i heq
      cases heq
      exact fold _ ok
    · rename_i heq
      cases heq
      exact fold _ ok
    · exact ⟨G, ok, Ext.refl _ _ _ _, rfl⟩
theorem ofValue_sound {C : Nat → Nat → Option Value} {v : Value} {x : Pv} (h : ofValue v = some x) : PR C x v := by
  unfold ofValue at h
  split at h
  · rename_i cs
    simp only [Option.map_eq_some_iff] at h
    obtain ⟨l, hl, rfl⟩ := h
    obtain ⟨h1, h2⟩ := allCells_sound C _ _ hl
    refine .agg (by simpa using h1) (fun j v hv => ?_) (fun j x v hx hv => (h2 j x v hx (by simpa using hv)).1)
    have hj : j < l.length := by rw [h1]; simpa using (Array.getElem?_eq_some_iff.1 hv).1
    exact (h2 j _ v (List.getElem?_eq_getElem hj) (by simpa using hv)).2
  · rename_i vs
    split at h
    · rename_i hvs
      cases h
      have : vs = #[] := by simpa using hvs
      subst this
      exact .tup rfl (by simp)
    · cases h
  · unfold ofCell at h
    split at h <;> cases h
    · exact .bool _
    · exact .int _ _
    · exact .str rfl
    · exact .nils
    · exact .nilp
    · exact .nilf
    · exact .nilm
    · exact .niface


theorem newMap {G : Gh} {w : World} {H : Hp} (ok : GOK G w H) :
    ∃ G', GOK G' (w.alloc (.map #[] 0)) (H ++ [.map []]) ∧ Ext H.length G H w G' (H ++ [.map []]) (w.alloc (.map #[] 0)) ∧ VR G' (.map H.length) (.map (some w.heap.size)) := by
  let G' : Gh := { G with mp := fun id => if id = H.length then some w.heap.size else G.mp id }
  have hmp : ∀ id x, G.mp id = some x → G'.mp id = some x := by
    intro id x hx
    have hne : id ≠ H.length := fun e => by rw [ok.freshM id (by omega)] at hx; cases hx
    simp [G', hne, hx]
  have hnew : G'.mp H.length = some w.heap.size := by simp [G']
  have hbo : blk G' H.length (.map []) = some w.heap.size := by simp [blk, hnew]
  have hblk : ∀ id ob', H[id]? = some ob' → blk G' id ob' = blk G id ob' := by
    intro id ob' hi
    have hne : id ≠ H.length := by have := (List.getElem?_eq_some_iff.1 hi).1; omega
    cases ob' <;> simp [blk, G', hne]
  have hcase : ∀ id ob', (H ++ [.map []])[id]? = some ob' → (H[id]? = some ob') ∨ (id = H.length ∧ ob' = .map []) := by
    intro id ob' hi
    rw [List.getElem?_append] at hi
    split at hi
    · exact .inl hi
    · rename_i hge
      have : id - H.length = 0 := by
        rcases Nat.eq_zero_or_pos (id - H.length) with h | h
        · exact h
        · rw [List.getElem?_eq_none (by simp; omega)] at hi; cases hi
      rw [this] at hi
      simp at hi
      exact .inr ⟨by omega, hi.symm⟩
  refine ⟨G', ⟨?_, ok.one, ?_, ?_, ?_, ?_⟩, ⟨rfl, rfl, rfl, by simp, fun b hb _ => heap_alloc_lt w _ hb, fun _ _ _ h => h, fun _ _ _ h => .inl h, fun id v x _ h => h, fun id x _ h => hmp id x h, ?_⟩, .map hnew⟩
  · intro b o v h
    have := ok.stable b o v h
    rw [World.cell?_of_block (w := w) (heap_alloc_lt w _ (stable_lt ok h))]
    exact this
  · intro id ob' hi
    rcases hcase id ob' hi with h | ⟨rfl, rfl⟩
    · exact (ok.obs id ob' h).mono (fun _ _ _ h => h) (fun _ _ _ h => h) hmp (fun v => rfl) (fun b hb => ⟨heap_alloc_lt w _ (blk_lt ok h hb), fun _ => rfl⟩)
    · refine ⟨w.heap.size, #[], 0, hnew, heap_alloc_at w _, rfl, by simp, fun j => ?_⟩
      show G.C w.heap.size j = none
      cases hc : G.C w.heap.size j with
      | none => rfl
      | some v => exact absurd (stable_lt ok hc) (by omega)
  · intro i j x y b hi hj hx hy
    rcases hcase i x hi with h | ⟨rfl, rfl⟩ <;> rcases hcase j y hj with h' | ⟨rfl, rfl⟩
    · rw [hblk i x h] at hx; rw [hblk j y h'] at hy
      exact ok.apart i j x y b h h' hx hy
    · rw [hblk i x h] at hx; rw [hbo] at hy; cases hy
      exact absurd (blk_lt ok h hx) (by omega)
    · rw [hblk j y h'] at hy; rw [hbo] at hx; cases hx
      exact absurd (blk_lt ok h' hy) (by omega)
    · rfl
  · intro id v hid
    simp at hid
    exact ok.fresh id v (by omega)
  · intro id hid
    simp at hid
    have h1 : id ≠ H.length := by omega
    simp [G', h1]
    exact ok.freshM id (by omega)
  · rintro b ⟨id, ob', hi, hb⟩
    rcases hcase id ob' hi with h | ⟨rfl, rfl⟩
    · rw [hblk id ob' h] at hb; exact .inl ⟨id, ob', h, hb⟩
    · rw [hbo] at hb; cases hb; exact .inr (Nat.le_refl _)

theorem bytes_of_list {a b : ByteArray} (h : a.data.toList = b.data.toList) : a = b := by
  obtain ⟨x⟩ := a
  obtain ⟨y⟩ := b
  have : x = y := Array.toList_inj.1 h
  rw [this]
def EntR (C : Nat → Nat → Option Value) (es : List (List UInt8 × Pv)) (l : List MapEntry) : Prop :=
  es.length = l.length ∧ ∀ (j : Nat) s y u, es[j]? = some (s, y) → l[j]? = some u → PR C (.str s) u.key ∧ PR C y u.val
theorem EntR.tail {C : Nat → Nat → Option Value} {e : List UInt8 × Pv} {es : List (List UInt8 × Pv)} {x : MapEntry} {l : List MapEntry} (h : EntR C (e :: es) (x :: l)) : EntR C es l :=
  ⟨by have := h.1; simpa using this, fun j s y u h1 h2 => h.2 (j + 1) s y u (by simpa using h1) (by simpa using h2)⟩
theorem EntR.cons {C : Nat → Nat → Option Value} {s : List UInt8} {y : Pv} {es : List (List UInt8 × Pv)} {x : MapEntry} {l : List MapEntry} (h1 : PR C (.str s) x.key) (h2 : PR C y x.val) (h : EntR C es l) : EntR C ((s, y) :: es) (x :: l) :=
  ⟨by have := h.1; simpa using this, fun j s' y' u g1 g2 => by
    cases j with
    | zero => simp at g1 g2; obtain ⟨rfl, rfl⟩ := g1; subst g2; exact ⟨h1, h2⟩
    | succ j => exact h.2 j s' y' u (by simpa using g1) (by simpa using g2)⟩
theorem find_sound {C : Nat → Nat → Option Value} {kb : ByteArray} {key : List UInt8} (hk : kb.data.toList = key) (y : Pv) (v : Value) (hv : PR C y v) : ∀ (es : List (List UInt8 × Pv)) (l : List MapEntry) (i : Nat), EntR C es l →
    (findM key es = none ∧ Instr.findNow .string (.string kb) l i = some none ∧ putM key y es = es ++ [(key, y)]) ∨
    ∃ x j u, findM key es = some x ∧ Instr.findNow .string (.string kb) l i = some (some (i + j, u.val)) ∧ PR C x u.val ∧ l[j]? = some u ∧ u.key = .string kb ∧ EntR C (putM key y es) (l.modify j fun e => { e with key := .string kb, val := v })
  | [], [], i, _ => .inl ⟨rfl, rfl, rfl⟩
  | [], _ :: _, i, h => by have := h.1; simp at this
  | _ :: _, [], i, h => by have := h.1; simp at this
  | (s, x) :: es, u :: l, i, h => by
    obtain ⟨h1, h2⟩ := h.2 0 s x u rfl rfl
    obtain ⟨b, hb, hbs⟩ := h1.str_inv
    by_cases hs : key = s
    · have e : kb = b := bytes_of_list (by rw [hk, hbs, hs])
      subst e
      have hbt : (key == s) = true := by simpa using hs
      refine .inr ⟨x, 0, u, by simp only [findM, hbt], ?_, h2, rfl, hb, ?_⟩
      · simp only [Instr.findNow, hb, Instr.sameNow]
        have : (kb == kb) = true := (MapKept.bytes_beq kb kb).2 rfl
        simp [this]
      · simp only [putM, hbt]
        exact EntR.cons (.str (by rw [hk, hs])) hv h.tail
    · have hne : kb ≠ b := fun e => hs (by rw [← hk, ← hbs, e])
      have hbf : (key == s) = false := by simpa using hs
      have hb2 : (kb == b) = false := by
        cases hq : kb == b with
        | false => rfl
        | true => exact absurd ((MapKept.bytes_beq kb b).1 hq) hne
      have hnow : ∀ i, Instr.findNow .string (.string kb) (u :: l) i = Instr.findNow .string (.string kb) l (i + 1) := by
        intro i
        simp only [Instr.findNow, hb, Instr.sameNow, hb2]
      rcases find_sound hk y v hv es l (i + 1) h.tail with ⟨a1, a2, a3⟩ | ⟨z, j, u', a1, a2, a3, a4, a5, a6⟩
      · exact .inl ⟨by simp only [findM, hbf, a1], by rw [hnow, a2], by simp only [putM, hbf, a3, List.cons_append]⟩
      · refine .inr ⟨z, j + 1, u', by simp only [findM, hbf, a1], by rw [hnow, a2]; congr 3; omega, a3, by simpa using a4, a5, ?_⟩
        simp only [putM, hbf]
        exact EntR.cons h1 h2 a6
theorem mapTI_inv {cx : Cx} (hT : TOK P cx.T) {t : TypeId} {te : TI} (h : mapTI cx t = some te) : ∃ kt et i, P.underlying t = some (.map kt et) ∧ P.underlying kt = some .string ∧ P.info? et = some i ∧ te.zv = i.zero.bind ofValue := by
  unfold mapTI at h
  split at h
  · rename_i ti hti
    split at h
    · rename_i kt et hkd
      split at h
      · rename_i hkt het
        cases h
        have h1 := ti_kd (hT _ _ hti)
        rw [hkd] at h1
        have h2 := ti_kd (hT _ _ hkt)
        obtain ⟨i, hi, hz⟩ := ti_zv (hT _ _ het)
        exact ⟨kt, et, i, h1, h2, hi, hz⟩
      · cases h
    · cases h
  · cases h
theorem mapAt_sound {G : Gh} {w : World} {H : Hp} (ok : GOK G w H) {m : V} {es : List (List UInt8 × Pv)} (h : mapAt H m = some es) {c : Value} (hm : VR G m c) :
    (c = .map none ∧ es = []) ∨ ∃ id b k clock, m = .map id ∧ c = .map (some b) ∧ H[id]? = some (.map es) ∧ G.mp id = some b ∧ w.heap[b]? = some (.map k clock) ∧ EntR G.C es k.toList ∧ ∀ j, G.C b j = none := by
  unfold mapAt at h
  split at h
  · cases h
    have := hm.p_inv
    cases this
    exact .inl ⟨rfl, rfl⟩
  · rename_i id
    split at h
    · rename_i es' hid
      cases h
      cases hm with
      | @map _ b hb =>
        obtain ⟨b', k, clock, h1, h2, h3, h4, h5⟩ := ok.obs id _ hid
        rw [hb] at h1
        cases h1
        exact .inr ⟨id, b, k, clock, rfl, rfl, hid, hb, h2, ⟨by simpa using h3, fun j s y u a1 a2 => h4 j s y u a1 (by simpa using a2)⟩, h5⟩
    · cases h
  · cases h
theorem lookupV_sound {cx : Cx} (hT : TOK P cx.T) {t : TypeId} {te : TI} (hti : mapTI cx t = some te) {G : Gh} {w : World} {H : Hp} (ok : GOK G w H) {m k r : V} {b : Bool} (h : lookupV te H m k b = some r) {c d : Value} (hm : VR G m c) (hk : VR G k d) :
    ∃ u, (Instr.lookup t c d b).run P w = .ok u w ∧ VR G r u := by
  obtain ⟨kt, et, i, ht, hkt, hi, hz⟩ := mapTI_inv hT hti
  unfold lookupV at h
  split at h
  · rename_i key
    obtain ⟨kb, rfl, hkb⟩ := hk.p_inv.str_inv
    split at h
    · cases h
    · rename_i es hes
      have key' : ∃ esM : Array MapEntry, EntR G.C es esM.toList ∧ ∀ (rest : Array MapEntry → Sem Value), ((do
          let es ← match c with
            | .map none => pure #[]
            | .map (some r) => do
              let .map es _ ← getObj r | stuck "Lookup: map expected"
              pure es
            | _ => stuck "Lookup: map expected"
          rest es : Sem Value)).run P w = (rest esM).run P w := by
        rcases mapAt_sound ok hes hm with ⟨rfl, rfl⟩ | ⟨id, b', k', clock, rfl, rfl, -, -, hb, hE, -⟩
        · exact ⟨#[], ⟨rfl, by simp⟩, fun rest => by simp [Result.andThen]⟩
        · exact ⟨k', hE, fun rest => by simp [MapKept.run_getObj_map hb, Result.andThen]⟩
      obtain ⟨esM, hE, hrun⟩ := key'
      have hisk : MapKept.IsKey .string (.string kb) := trivial
      have hck := fun e => MapKept.run_checkKey (P := P) (w := w) hkt hisk e 9999
      rcases find_sound hkb .niface .nilIface .niface es esM.toList 0 hE with ⟨a1, a2, -⟩ | ⟨x, j, u, a1, a2, a3, -⟩
      · have hf := MapKept.run_findKey (P := P) (w := w) hkt a2
        rw [a1] at h
        simp only at h
        split at h
        · rename_i x hx
          rw [hz, Option.bind_eq_some_iff] at hx
          obtain ⟨z, hz1, hz2⟩ := hx
          cases h
          have hzr : (zeroValue et).run P w = .ok z w := by simp [zeroValue, run_typeInfo' w hi, hz1, Result.andThen]
          refine ⟨if b then .tuple #[z, .bool false] else z, ?_, ?_⟩
          · simp only [Instr.lookup, Sem.run_bind, run_underlying ht, Result.andThen]
            have := hrun (fun es => do
              Instr.checkKey es.isEmpty 10000 kt (.string kb)
              let (v, ok) ← match ← Instr.findKey kt (.string kb) es.toList with
                | some (_, v) => pure (v, true)
                | none => pure (← zeroValue et, false)
              pure (if b then .tuple #[v, .bool ok] else v))
            simp only [Sem.run_bind] at this
            refine Eq.trans this ?_
            simp [hck, hf, hzr, Result.andThen]
          · have hp : PR G.C x z := ofValue_sound hz2
            cases b with
            | false => exact .p hp
            | true =>
              refine .p (.tup rfl fun j y v h1 h2 => ?_)
              match j with
              | 0 => simp at h1 h2; subst h1; subst h2; exact hp
              | 1 => simp at h1 h2; subst h1; subst h2; exact .bool _
              | j + 2 => simp at h1
        · cases h
      · have hf := MapKept.run_findKey (P := P) (w := w) hkt a2
        rw [a1] at h
        simp only [Option.some.injEq] at h
        subst h
        refine ⟨if b then .tuple #[u.val, .bool true] else u.val, ?_, ?_⟩
        · simp only [Instr.lookup, Sem.run_bind, run_underlying ht, Result.andThen]
          have := hrun (fun es => do
            Instr.checkKey es.isEmpty 10000 kt (.string kb)
            let (v, ok) ← match ← Instr.findKey kt (.string kb) es.toList with
              | some (_, v) => pure (v, true)
              | none => pure (← zeroValue et, false)
            pure (if b then .tuple #[v, .bool ok] else v))
          simp only [Sem.run_bind] at this
          refine Eq.trans this ?_
          simp [hck, hf, Result.andThen]
        · cases b with
          | false => exact .p a3
          | true =>
            refine .p (.tup rfl fun j y v h1 h2 => ?_)
            match j with
            | 0 => simp at h1 h2; subst h1; subst h2; exact a3
            | 1 => simp at h1 h2; subst h1; subst h2; exact .bool _
            | j + 2 => simp at h1
  · cases h
theorem mapUpdateV_sound {cx : Cx} (hT : TOK P cx.T) {t : TypeId} {te : TI} (hti : mapTI cx t = some te) {G : Gh} {w : World} {H H' : Hp} (ok : GOK G w H) {m k x : V} (h : mapUpdateV H m k x = some H') {c d e : Value} (hm : VR G m c) (hk : VR G k d) (hx : VR G x e) :
    ∃ w', (Instr.mapUpdate t c d e).run P w = .ok () w' ∧ GOK G w' H' ∧ Ext H.length G H w G H' w' := by
  obtain ⟨kt, et, i, ht, hkt, hi, hz⟩ := mapTI_inv hT hti
  unfold mapUpdateV at h
  split at h
  · rename_i id key y
    split at h
    · rename_i es hid
      cases h
      obtain ⟨kb, rfl, hkb⟩ := hk.p_inv.str_inv
      have hy := hx.p_inv
      rcases mapAt_sound ok (m := .map id) (es := es) (by simp [mapAt, hid]) hm with ⟨rfl, -⟩ | ⟨id', b, k, clock, hid', rfl, -, hmp, hb, hE, hC⟩
      · cases hm
      · cases hid'
        have hisk : MapKept.IsKey .string (.string kb) := trivial
        have hck := fun e => MapKept.run_checkKey (P := P) (w := w) hkt hisk e 9999
        have hset : ∀ o : Obj, (MapKept.heap_set (w := w) (o' := o) hb) = MapKept.heap_set hb := fun _ => rfl
        have turn : ∀ (k' : Array MapEntry) (clock' : Nat), EntR G.C (putM key y es) k'.toList → (Instr.mapUpdate t (.map (some b)) (.string kb) e).run P w = .ok () { w with heap := w.heap.setIfInBounds b (.map k' clock') } →
            ∃ w', (Instr.mapUpdate t (.map (some b)) (.string kb) e).run P w = .ok () w' ∧ GOK G w' (H.set id (.map (putM key y es))) ∧ Ext H.length G H w G (H.set id (.map (putM key y es))) w' := by
          intro k' clock' hE' hr
          refine ⟨_, hr, ?_⟩
          have hst := MapKept.heap_set (w := w) (o' := .map k' clock') hb
          have hbk : blk G id (.map es) = some b := by simp [blk, hmp]
          refine turnSame ok hid rfl rfl rfl (by simp) (fun c hc hne => ?_) (fun c j v hc hv => ?_) rfl ?_
          · refine hst.2 c (fun he => hne ?_)
            rw [hbk, he]
          · rw [hbk] at hc
            cases hc
            rw [hC] at hv
            cases hv
          · exact ⟨b, k', clock', hmp, hst.1, by simpa using hE'.1, fun j s y u a1 a2 => hE'.2 j s y u a1 (by simpa using a2), hC⟩
        rcases find_sound hkb y e hy es k.toList 0 hE with ⟨-, a2, a3⟩ | ⟨z, j, u, -, a2, -, a4, a5, a6⟩
        · have hf := MapKept.run_findKey (P := P) (w := w) hkt a2
          refine turn (k.push { key := .string kb, val := e, born := clock }) (clock + 1) ?_ ?_
          · rw [a3]
            refine ⟨by have := hE.1; simp at this ⊢; exact this, fun j s y' u h1 h2 => ?_⟩
            have hl := hE.1
            rw [List.getElem?_append] at h1
            simp only [Array.toList_push] at h2
            rw [List.getElem?_append] at h2
            split at h1
            · rename_i hlt
              rw [if_pos (by omega)] at h2
              exact hE.2 j s y' u h1 h2
            · rename_i hge
              rw [if_neg (by omega)] at h2
              have e0 : j - es.length = 0 := by
                rcases Nat.eq_zero_or_pos (j - es.length) with h | h
                · exact h
                · rw [List.getElem?_eq_none (by simp; omega)] at h1; cases h1
              have e1 : j - k.toList.length = 0 := by omega
              rw [e0] at h1
              rw [e1] at h2
              simp at h1 h2
              obtain ⟨rfl, rfl⟩ := h1
              subst h2
              exact ⟨.str hkb, hy⟩
          · simp [Instr.mapUpdate, run_underlying ht, MapKept.run_getObj_map hb, hck, hf, MapKept.run_setObj_map _ hb, Result.andThen]
        · have hf := MapKept.run_findKey (P := P) (w := w) hkt a2
          have hj : k[j]? = some u := by simpa using a4
          have hj2 : k[0 + j]? = some u := by rw [Nat.zero_add]; exact hj
          refine turn (k.modify (0 + j) fun e' => { e' with key := .string kb, val := e }) clock ?_ ?_
          · rw [Nat.zero_add, Array.toList_modify]
            exact a6
          · simp [Instr.mapUpdate, run_underlying ht, MapKept.run_getObj_map hb, hck, hf, hj, a5, MapKept.run_keyThatStays hisk, MapKept.run_setObj_map _ hb, Result.andThen]
    · cases h
  · cases h
end Go.AX
