/-
  'AX' AND THE MODEL: what the world's turns leave of the relation.
-/
import Derived.Test.YtojpocfnjigmfaaDoorAX4c
import Derived.Great.FillDense
import Derived.Laws.BytesString
import Derived.Laws.AppendOwn
set_option linter.unusedVariables false
set_option linter.unusedSimpArgs false
namespace Go.AX
open Go
variable {P : Program}

theorem ObR.mono {G G' : Gh} {w w' : World} {id : Nat} {ob : Ob} (h : ObR G w id ob) (hC : ∀ b o v, G.C b o = some v → G'.C b o = some v)
    (hp : ∀ id ver x, G.pl id ver = some x → G'.pl id ver = some x) (hm : ∀ id x, G.mp id = some x → G'.mp id = some x)
    (hid : ∀ v, G'.pl id v = G.pl id v) (hb : ∀ b, blk G id ob = some b → w'.heap[b]? = w.heap[b]? ∧ ∀ o, G'.C b o = G.C b o) : ObR G' w' id ob := by
  cases ob with
  | box ver cs =>
    obtain ⟨b, o, k, T, h1, h2, h3, h4, h5, h6⟩ := h
    obtain ⟨e1, e2⟩ := hb b (by simp [blk, h1])
    exact ⟨b, o, k, T, hp _ _ _ h1, by rw [e1]; exact h2, h3, fun j y hy => let ⟨u, a, c, d⟩ := h4 j y hy; ⟨u, a, c, d.mono hC hp hm⟩, fun j hj => by rw [e2]; exact h5 j hj, fun v hv => by rw [hid]; exact h6 v hv⟩
  | arr ver f sz es =>
    obtain ⟨b, o, k, T, h1, h2, h3, h4, h5, h6, h7, h8⟩ := h
    obtain ⟨e1, e2⟩ := hb b (by simp [blk, h1])
    exact ⟨b, o, k, T, hp _ _ _ h1, by rw [e1]; exact h2, h3, h4, h5, fun i e j y he hy => let ⟨u, a, c, d⟩ := h6 i e j y he hy; ⟨u, a, c, d.mono hC hp hm⟩, fun j hj => by rw [e2]; exact h7 j hj, fun v hv => by rw [hid]; exact h8 v hv⟩
  | map es =>
    obtain ⟨b, k, clock, h1, h2, h3, h4, h5⟩ := h
    obtain ⟨e1, e2⟩ := hb b (by simp [blk, h1])
    exact ⟨b, k, clock, hm _ _ h1, by rw [e1]; exact h2, h3, fun j s y u hy hu => ⟨(h4 j s y u hy hu).1.mono hC, (h4 j s y u hy hu).2.mono hC⟩, fun j => by rw [e2]; exact h5 j⟩
  | dead => trivial

theorem blk_lt {G : Gh} {w : World} {H : Hp} (ok : GOK G w H) {id : Nat} {ob : Ob} (hi : H[id]? = some ob) {b : Nat} (hb : blk G id ob = some b) : b < w.heap.size := by
  have h := ok.obs id ob hi
  cases ob with
  | box ver cs =>
    obtain ⟨b', o, k, T, h1, h2, -⟩ := h
    simp [blk, h1] at hb
    subst hb
    exact (Array.getElem?_eq_some_iff.1 h2).1
  | arr ver f sz es =>
    obtain ⟨b', o, k, T, h1, h2, -⟩ := h
    simp [blk, h1] at hb
    subst hb
    exact (Array.getElem?_eq_some_iff.1 h2).1
  | map es =>
    obtain ⟨b', k, clock, h1, h2, -⟩ := h
    simp [blk, h1] at hb
    subst hb
    exact (Array.getElem?_eq_some_iff.1 h2).1
  | dead => simp [blk] at hb

theorem owned_lt {G : Gh} {w : World} {H : Hp} (ok : GOK G w H) {b : Nat} (h : Owned G H b) : b < w.heap.size := by
  obtain ⟨id, ob, hi, hb⟩ := h
  exact blk_lt ok hi hb

theorem stable_lt {G : Gh} {w : World} {H : Hp} (ok : GOK G w H) {b o : Nat} {v : Value} (h : G.C b o = some v) : b < w.heap.size :=
  World.block_lt_of_cell? w _ (ok.stable b o v h)

theorem grow {G : Gh} {w w' : World} {H : Hp} (ok : GOK G w H) (C' : Nat → Nat → Option Value) (hos : w'.os = w.os) (htape : w'.tape = w.tape) (hout : w'.output = w.output) (hs : w.heap.size ≤ w'.heap.size)
    (hold : ∀ b, b < w.heap.size → w'.heap[b]? = w.heap[b]?) (hC1 : ∀ b o, b < w.heap.size → C' b o = G.C b o)
    (hC2 : ∀ b o v, w.heap.size ≤ b → C' b o = some v → w'.cell? ⟨b, o, none⟩ = some v ∧ v.oneCell' = true) :
    GOK { G with C := C' } w' H ∧ Ext H.length G H w { G with C := C' } H w' := by
  have hmono : ∀ b o v, G.C b o = some v → C' b o = some v := fun b o v h => by rw [hC1 b o (stable_lt ok h)]; exact h
  have hblk : ∀ id ob, blk { G with C := C' } id ob = blk G id ob := fun id ob => by cases ob <;> rfl
  refine ⟨⟨?_, ?_, ?_, ?_, ok.fresh, ok.freshM⟩, ⟨hos, htape, hout, hs, fun b hb _ => hold b hb, hmono, ?_, fun _ _ _ _ h => h, fun _ _ _ h => h, ?_⟩⟩
  · intro b o v h
    rcases Nat.lt_or_ge b w.heap.size with hb | hb
    · have h' : G.C b o = some v := by rw [← hC1 b o hb]; exact h
      rw [World.cell?_of_block (w := w) (hold b hb)]
      exact ok.stable b o v h'
    · exact (hC2 b o v hb h).1
  · intro b o v h
    rcases Nat.lt_or_ge b w.heap.size with hb | hb
    · exact ok.one b o v (by rw [← hC1 b o hb]; exact h)
    · exact (hC2 b o v hb h).2
  · intro id ob hi
    refine (ok.obs id ob hi).mono hmono (fun _ _ _ h => h) (fun _ _ h => h) (fun _ => rfl) (fun b hb => ?_)
    have hlt := blk_lt ok hi hb
    exact ⟨hold b hlt, fun o => hC1 b o hlt⟩
  · intro i j x y b hi hj hx hy
    rw [hblk] at hx hy
    exact ok.apart i j x y b hi hj hx hy
  · intro b o v h
    rcases Nat.lt_or_ge b w.heap.size with hb | hb
    · exact .inl (by rw [← hC1 b o hb]; exact h)
    · exact .inr (.inl hb)
  · rintro b ⟨id, ob, hi, hb⟩
    rw [hblk] at hb
    exact .inl ⟨id, ob, hi, hb⟩

theorem grow_same {G : Gh} {w w' : World} {H : Hp} (ok : GOK G w H) (hos : w'.os = w.os) (htape : w'.tape = w.tape) (hout : w'.output = w.output) (hs : w.heap.size ≤ w'.heap.size)
    (hold : ∀ b, b < w.heap.size → w'.heap[b]? = w.heap[b]?) : GOK G w' H ∧ Ext H.length G H w G H w' := by
  have := grow ok G.C hos htape hout hs hold (fun _ _ _ => rfl) (fun b o v hb h => absurd (stable_lt ok h) (by omega))
  exact this

theorem heap_alloc_lt (w : World) (o : Obj) {b : Nat} (h : b < w.heap.size) : (w.alloc o).heap[b]? = w.heap[b]? := by
  show (w.heap.push o)[b]? = _
  rw [Array.getElem?_push, if_neg (by omega)]
theorem heap_alloc_at (w : World) (o : Obj) : (w.alloc o).heap[w.heap.size]? = some o := by
  show (w.heap.push o)[w.heap.size]? = _
  simp

theorem grow_stable {G : Gh} {w : World} {H : Hp} (ok : GOK G w H) (k : Array Value) (T : TypeId) (h1 : ∀ (j : Nat) v, k[j]? = some v → v.oneCell' = true) :
    GOK { G with C := fun b o => if b = w.heap.size then k[o]? else G.C b o } (w.alloc (.cells k T)) H ∧
    Ext H.length G H w { G with C := fun b o => if b = w.heap.size then k[o]? else G.C b o } H (w.alloc (.cells k T)) := by
  refine grow ok _ rfl rfl rfl (by simp) (fun b hb => heap_alloc_lt w _ hb) (fun b o hb => if_neg (by omega)) (fun b o v hb h => ?_)
  split at h
  · subst_vars
    refine ⟨?_, h1 o v h⟩
    rw [World.cell?_alloc_new]
    exact h
  · exact absurd (stable_lt ok h) (by omega)

theorem newOb {G : Gh} {w : World} {H : Hp} (ok : GOK G w H) (k : Array Value) (T : TypeId) (ob : Ob) (ver : Nat)
    (hv : (∃ cs, ob = .box ver cs) ∨ (∃ f sz es, ob = .arr ver f sz es))
    (hob : ∀ G' : Gh, (∀ b o, G'.C b o = G.C b o) → (∀ v c, VR G v c → VR G' v c) → G'.pl H.length ver = some (w.heap.size, 0, k.size) → (∀ v, ver < v → G'.pl H.length v = none) → ObR G' (w.alloc (.cells k T)) H.length ob) :
    ∃ G', GOK G' (w.alloc (.cells k T)) (H ++ [ob]) ∧ Ext H.length G H w G' (H ++ [ob]) (w.alloc (.cells k T)) ∧ G'.pl H.length ver = some (w.heap.size, 0, k.size) ∧ (∀ b o, G'.C b o = G.C b o) := by
  let G' : Gh := { G with pl := fun id v => if id = H.length then (if v = ver then some (w.heap.size, 0, k.size) else none) else G.pl id v }
  have hpl : ∀ id v x, G.pl id v = some x → G'.pl id v = some x := by
    intro id v x hx
    have hne : id ≠ H.length := fun e => by rw [ok.fresh id v (by omega)] at hx; cases hx
    simp [G', hne, hx]
  have hvr : ∀ v c, VR G v c → VR G' v c := fun v c h => VR.mono (G := G) (G' := G') (fun _ _ _ h => h) hpl (fun _ _ h => h) h
  have hnew : G'.pl H.length ver = some (w.heap.size, 0, k.size) := by simp [G']
  have hbo : blk G' H.length ob = some w.heap.size := by
    rcases hv with ⟨cs, rfl⟩ | ⟨f, sz, es, rfl⟩ <;> simp [blk, hnew]
  have hblk : ∀ id ob', H[id]? = some ob' → blk G' id ob' = blk G id ob' := by
    intro id ob' hi
    have hne : id ≠ H.length := by have := (List.getElem?_eq_some_iff.1 hi).1; omega
    cases ob' <;> simp [blk, G', hne]
  have hcase : ∀ id ob', (H ++ [ob])[id]? = some ob' → (H[id]? = some ob') ∨ (id = H.length ∧ ob' = ob) := by
    intro id ob' hi
    rw [List.getElem?_append] at hi
    split at hi
    · exact .inl hi
    · rename_i hge
      have : id - H.length = 0 := by
        rcases Nat.eq_zero_or_pos (id - H.length) with h | h
        · exact h
        · rw [List.getElem?_eq_none (by simp; omega)] at hi; cases hi
      rw [this] at hi
      simp at hi
      exact .inr ⟨by omega, hi.symm⟩
  refine ⟨G', ⟨?_, ok.one, ?_, ?_, ?_, ?_⟩, ⟨rfl, rfl, rfl, by simp, fun b hb _ => heap_alloc_lt w _ hb, fun _ _ _ h => h, fun _ _ _ h => .inl h, fun id v x _ h => hpl id v x h, fun _ _ _ h => h, ?_⟩, hnew, fun _ _ => rfl⟩
  · intro b o v h
    have := ok.stable b o v h
    rw [World.cell?_of_block (w := w) (heap_alloc_lt w _ (stable_lt ok h))]
    exact this
  · intro id ob' hi
    rcases hcase id ob' hi with h | ⟨rfl, rfl⟩
    · refine (ok.obs id ob' h).mono (fun _ _ _ h => h) hpl (fun _ _ h => h) (fun v => by have := (List.getElem?_eq_some_iff.1 h).1; simp [G', show id ≠ H.length by omega]) (fun b hb => ⟨heap_alloc_lt w _ (blk_lt ok h hb), fun _ => rfl⟩)
    · exact hob G' (fun _ _ => rfl) hvr hnew (fun v hv => by simp [G', show v ≠ ver by omega])
  · intro i j x y b hi hj hx hy
    rcases hcase i x hi with h | ⟨rfl, rfl⟩ <;> rcases hcase j y hj with h' | ⟨rfl, rfl⟩
    · rw [hblk i x h] at hx; rw [hblk j y h'] at hy
      exact ok.apart i j x y b h h' hx hy
    · rw [hblk i x h] at hx; rw [hbo] at hy; cases hy
      exact absurd (blk_lt ok h hx) (by omega)
    · rw [hblk j y h'] at hy; rw [hbo] at hx; cases hx
      exact absurd (blk_lt ok h' hy) (by omega)
    · rfl
  · intro id v hid
    simp at hid
    have h1 : id ≠ H.length := by omega
    simp [G', h1]
    exact ok.fresh id v (by omega)
  · intro id hid
    simp at hid
    exact ok.freshM id (by omega)
  · rintro b ⟨id, ob', hi, hb⟩
    rcases hcase id ob' hi with h | ⟨rfl, rfl⟩
    · rw [hblk id ob' h] at hb; exact .inl ⟨id, ob', h, hb⟩
    · rw [hbo] at hb; cases hb; exact .inr (Nat.le_refl _)
end Go.AX
