/-
  'AX' AND THE MODEL: min and max, nil checks, freezing, truncating.
-/
import Derived.Test.YtojpocfnjigmfaaDoorAX5f
set_option linter.unusedVariables false
set_option linter.unusedSimpArgs false
namespace Go.AX
open Go
variable {P : Program}

theorem nilCheckV_sound {x r : V} (h : nilCheckV x = some r) {G : Gh} {c : Value} (hx : VR G x c) : r = x ∧ ((∃ a, c = .pointer (some a)) ∨ (∃ f a b, c = .func (.func f) a b)) := by
  unfold nilCheckV at h
  split at h
  · cases h; cases hx.p_inv; exact ⟨rfl, .inl ⟨_, rfl⟩⟩
  · cases h; cases hx; exact ⟨rfl, .inl ⟨_, rfl⟩⟩
  · cases h; cases hx; exact ⟨rfl, .inl ⟨_, rfl⟩⟩
  · cases h; cases hx.p_inv; exact ⟨rfl, .inr ⟨_, _, _, rfl⟩⟩
  · cases h; cases hx; exact ⟨rfl, .inr ⟨_, _, _, rfl⟩⟩
  · cases h

theorem fold_sound {g : Int → Int → Int} {m2 : Value → Value → Sem Value} (w : World) (hm : ∀ k a b, (m2 (.int k a) (.int k b)).run P w = .ok (.int k (g a b)) w) {G : Gh} :
    ∀ (l : List V) (l' : List Value) (k : IntKind) (a : Int) (r : Pv), foldInt g k a l = some r → l.length = l'.length → (∀ (j : Nat) x v, l[j]? = some x → l'[j]? = some v → VR G x v) →
    ∃ c, (l'.foldlM m2 (.int k a)).run P w = .ok c w ∧ PR G.C r c
  | [], l', k, a, r, h, hl, hr => by
    have : l' = [] := List.eq_nil_of_length_eq_zero hl.symm
    subst this
    simp [foldInt] at h
    subst h
    exact ⟨_, rfl, .int k a⟩
  | x :: l, [], k, a, r, h, hl, hr => by simp at hl
  | x :: l, v :: l', k, a, r, h, hl, hr => by
    have hv := hr 0 x v rfl rfl
    cases x with
    | p x =>
      cases x with
      | int k' b =>
        simp only [foldInt] at h
        split at h
        · rename_i hk
          subst hk
          rw [hv.p_inv.int_inv]
          obtain ⟨c, h1, h2⟩ := fold_sound w hm l l' k (g a b) r h (by simpa using hl) (fun j x v hx hv => hr (j + 1) x v (by simpa using hx) (by simpa using hv))
          refine ⟨c, ?_, h2⟩
          rw [List.foldlM_cons]
          simp only [Sem.run_bind, hm, Result.andThen_ok]
          exact h1
        · cases h
      | _ => simp [foldInt] at h
    | _ => simp [foldInt] at h
theorem min_sound {l : List V} {r : Pv} (h : minmax (fun a b => if b < a then b else a) l = some r) {G : Gh} {c : Array Value} (hc : VRs G l c) (ts : Array TypeId) (ty : TypeId) (w : World) :
    ∃ v, (Builtin.min_ ts ty c).run P w = .ok v w ∧ PR G.C r v := by
  unfold minmax at h
  split at h
  · rename_i k a l'
    unfold Builtin.min_
    obtain ⟨h1, h2⟩ := hc
    rcases hcl : c.toList with _ | ⟨v, vs⟩
    · have : c.size = 0 := by rw [← Array.length_toList, hcl]; rfl
      rw [this] at h1; simp at h1
    · have hat : ∀ (j : Nat), c[j]? = (v :: vs)[j]? := fun j => by rw [← hcl]; simp
      have hv := (h2 0 _ v rfl (by rw [hat]; rfl)).p_inv.int_inv
      subst hv
      exact fold_sound w (fun k a b => by simp [Builtin.min2]) l' vs k a r h (by have := congrArg List.length hcl; simp at this; simp at h1; omega) (fun j x u hx hu => h2 (j + 1) x u (by simpa using hx) (by rw [hat]; simpa using hu))
  · cases h
theorem max_sound {l : List V} {r : Pv} (h : minmax (fun a b => if b > a then b else a) l = some r) {G : Gh} {c : Array Value} (hc : VRs G l c) (ts : Array TypeId) (ty : TypeId) (w : World) :
    ∃ v, (Builtin.max_ ts ty c).run P w = .ok v w ∧ PR G.C r v := by
  unfold minmax at h
  split at h
  · rename_i k a l'
    unfold Builtin.max_
    obtain ⟨h1, h2⟩ := hc
    rcases hcl : c.toList with _ | ⟨v, vs⟩
    · have : c.size = 0 := by rw [← Array.length_toList, hcl]; rfl
      rw [this] at h1; simp at h1
    · have hat : ∀ (j : Nat), c[j]? = (v :: vs)[j]? := fun j => by rw [← hcl]; simp
      have hv := (h2 0 _ v rfl (by rw [hat]; rfl)).p_inv.int_inv
      subst hv
      exact fold_sound w (fun k a b => by simp [Builtin.max2]) l' vs k a r h (by have := congrArg List.length hcl; simp at this; simp at h1; omega) (fun j x u hx hu => h2 (j + 1) x u (by simpa using hx) (by rw [hat]; simpa using hu))
  · cases h

theorem mark_len (H : Hp) (v : V) : (mark H v).length = H.length := by
  unfold mark
  split
  · split
    · split <;> simp
    · rfl
  · rfl
theorem marks_len : ∀ (l : List V) (H : Hp), (l.foldl mark H).length = H.length
  | [], H => rfl
  | v :: l, H => by rw [List.foldl_cons, marks_len l, mark_len]
theorem markAt_len (H : Hp) (v : V) : (markAt H v).length = H.length := by
  unfold markAt
  split
  · exact marks_len _ _
  · exact mark_len _ _
theorem markAts_len : ∀ (l : List V) (H : Hp), (l.foldl markAt H).length = H.length
  | [], H => rfl
  | v :: l, H => by rw [List.foldl_cons, markAts_len l, markAt_len]
theorem markCells_len (H : Hp) (v : V) : (markCells H v).length = H.length := by
  unfold markCells
  split
  · exact markAts_len _ _
  · exact markAt_len _ _

theorem elems_mark (H : Hp) (v x : V) : elems (mark H v) x = elems H x := by
  unfold mark
  split
  · rename_i id ver sz off len
    split
    · rename_i v' fz sz' es hid
      split
      · rename_i hv
        unfold elems
        split
        · rfl
        · rfl
        · rename_i id2 ver2 sz2 off2 len2
          have : arrAt (H.set id (.arr v' (max fz (off + len)) sz' es)) id2 ver2 = (arrAt H id2 ver2).map fun q => (if id2 = id then max fz (off + len) else q.1, q.2.1, q.2.2) := by
            unfold arrAt
            rw [List.getElem?_set]
            by_cases hii : id = id2
            · subst hii
              have hlt := (List.getElem?_eq_some_iff.1 hid).1
              simp only [if_true, hlt, hid]
              split <;> simp
            · rw [if_neg hii]
              cases H[id2]? with
              | none => rfl
              | some ob =>
                cases ob with
                | arr v2 f2 s2 e2 => cases hb : Nat.beq v2 ver2 <;> simp [hb, Ne.symm hii]
                | _ => rfl
          rw [this]
          cases arrAt H id2 ver2 with
          | none => rfl
          | some q => rfl
        · rfl
      · rfl
    · rfl
  · rfl
theorem frz_mark (H : Hp) (v x : V) : frz (mark H v) x = frz H x := by
  unfold frz
  split
  · rw [elems_mark]
  · rfl
theorem frz_marks : ∀ (l : List V) (H : Hp) (x : V), frz (l.foldl mark H) x = frz H x
  | [], H, x => rfl
  | v :: l, H, x => by rw [List.foldl_cons, frz_marks l, frz_mark]
theorem frzAt_congr {H H' : Hp} (h : ∀ x, frz H' x = frz H x) (v : V) : frzAt H' v = frzAt H v := by
  unfold frzAt
  have : frz H' = frz H := funext h
  rw [this]
theorem frz_markAt (H : Hp) (v x : V) : frz (markAt H v) x = frz H x := by
  unfold markAt
  split
  · exact frz_marks _ _ _
  · exact frz_mark _ _ _
theorem frz_markAts : ∀ (l : List V) (H : Hp) (x : V), frz (l.foldl markAt H) x = frz H x
  | [], H, x => rfl
  | v :: l, H, x => by rw [List.foldl_cons, frz_markAts l, frz_markAt]
theorem frzCells_congr {H H' : Hp} (h : ∀ x, frz H' x = frz H x) (v : V) : frzCells H' v = frzCells H v := by
  unfold frzCells
  have : frzAt H' = frzAt H := funext (frzAt_congr h)
  rw [this]
theorem frzCells_mark (H : Hp) (v x : V) : frzCells (markCells H v) x = frzCells H x := by
  apply frzCells_congr
  intro y
  unfold markCells
  split
  · exact frz_markAts _ _ _
  · exact frz_markAt _ _ _

theorem mark_sound {G : Gh} {w : World} {H : Hp} (ok : GOK G w H) (v : V) :
    ∃ G', GOK G' w (mark H v) ∧ Ext H.length G H w G' (mark H v) w ∧ ∀ c, VR G v c → VR G' (frz H v) c := by
  have triv : mark H v = H → (∀ c, VR G v c → VR G (frz H v) c) → ∃ G', GOK G' w (mark H v) ∧ Ext H.length G H w G' (mark H v) w ∧ ∀ c, VR G v c → VR G' (frz H v) c := by
    intro h1 h2
    rw [h1]
    exact ⟨G, ok, Ext.refl _ _ _ _, h2⟩
  cases v with
  | arr id ver sz off len =>
    cases hid : H[id]? with
    | none => exact triv (by simp [mark, hid]) (fun c hc => by simp [frz, elems, arrAt, hid]; exact hc)
    | some ob =>
      cases ob with
      | arr v fz sz' es =>
        cases hv : Nat.beq v ver with
        | false => exact triv (by simp [mark, hid, hv]) (fun c hc => by simp [frz, elems, arrAt, hid, hv]; exact hc)
        | true =>
          have hv' := beq_eq hv
          subst hv'
          obtain ⟨b, o, k, T, h1, h2, h3, h4, h5, h6, h7, h8⟩ := ok.obs id _ hid
          have hm : mark H (.arr id v sz off len) = H.set id (.arr v (max fz (off + len)) sz' es) := by simp [mark, hid, hv]
          rw [hm]
          let C' : Nat → Nat → Option Value := fun c j => if c = b ∧ o + off * sz' ≤ j ∧ j < o + (off + len) * sz' ∧ j < o + es.length * sz' then k[j]? else G.C c j
          let G' : Gh := { G with C := C' }
          have hlt := (List.getElem?_eq_some_iff.1 hid).1
          have hkone : ∀ j u, o ≤ j → j < o + es.length * sz' → k[j]? = some u → u.oneCell' = true := by
            intro j u hj1 hj2 hu
            have hjj : j - o < es.length * sz' := by omega
            have hi := (Nat.div_lt_iff_lt_mul h3).2 hjj
            have he : es[(j - o) / sz']? = some es[(j - o) / sz'] := List.getElem?_eq_getElem hi
            have hc : (j - o) % sz' < (es[(j - o) / sz']).cells.length := by rw [h5 _ _ he]; exact Nat.mod_lt _ h3
            obtain ⟨u', a1, a2, -⟩ := h6 _ _ _ _ he (List.getElem?_eq_getElem hc)
            have hdm := mod_lt_of (off := j - o) h3
            rw [show o + (j - o) / sz' * sz' + (j - o) % sz' = j by omega, hu] at a1
            cases a1
            exact a2
          have hmono : ∀ c j u, G.C c j = some u → C' c j = some u := by
            intro c j u hu
            simp only [C']
            split
            · rename_i hh
              obtain ⟨rfl, -⟩ := hh
              have := ok.stable _ _ _ hu
              simp only [World.cell?, h2, Option.isSome_none, Bool.false_eq_true, if_false] at this
              exact this
            · exact hu
          have hblk : ∀ i x, blk G' i x = blk G i x := fun i x => by cases x <;> rfl
          have hbk : ∀ f, blk G id (.arr v f sz' es) = some b := fun f => by simp [blk, h1]
          have hcase : ∀ i x, (H.set id (.arr v (max fz (off + len)) sz' es))[i]? = some x → (i ≠ id ∧ H[i]? = some x) ∨ (i = id ∧ x = .arr v (max fz (off + len)) sz' es) := by
            intro i x hi
            rw [List.getElem?_set] at hi
            split at hi
            · rename_i h
              subst h
              simp [hlt] at hi
              exact .inr ⟨rfl, hi.symm⟩
            · rename_i h
              exact .inl ⟨fun e => h e.symm, hi⟩
          have hvr : ∀ v c, VR G v c → VR G' v c := fun v c h => VR.mono (G := G) (G' := G') hmono (fun _ _ _ h => h) (fun _ _ h => h) h
          refine ⟨G', ⟨?_, ?_, ?_, ?_, ?_, ?_⟩, ⟨rfl, rfl, rfl, Nat.le_refl _, fun _ _ _ => rfl, hmono, ?_, fun _ _ _ _ h => h, fun _ _ _ h => h, ?_⟩, ?_⟩
          · intro c j u hu
            simp only [G', C'] at hu
            split at hu
            · rename_i hh
              obtain ⟨rfl, -⟩ := hh
              simp [World.cell?, h2, hu]
            · exact ok.stable c j u hu
          · intro c j u hu
            simp only [G', C'] at hu
            split at hu
            · rename_i hh
              exact hkone j u (by omega) hh.2.2.2 hu
            · exact ok.one c j u hu
          · intro i x hi
            rcases hcase i x hi with ⟨hne, h⟩ | ⟨rfl, rfl⟩
            · refine (ok.obs i x h).mono hmono (fun _ _ _ h => h) (fun _ _ h => h) (fun _ => rfl) (fun c hc => ⟨rfl, fun j => ?_⟩)
              have hcb : c ≠ b := fun e => hne (ok.apart i id x _ b h hid (by rw [← e]; exact hc) (hbk fz))
              simp [G', C', hcb]
            · refine ⟨b, o, k, T, h1, h2, h3, h4, h5, fun m e j y he hy => let ⟨u, a1, a2, a3⟩ := h6 m e j y he hy; ⟨u, a1, a2, hvr _ _ a3⟩, fun j hj => ?_, h8⟩
              have e1 : (off + len) * sz' ≤ max fz (off + len) * sz' := Nat.mul_le_mul_right _ (by omega)
              have e2 : fz * sz' ≤ max fz (off + len) * sz' := Nat.mul_le_mul_right _ (by omega)
              simp only [G', C']
              rw [if_neg (by omega)]
              exact h7 j (by omega)
          · intro i j x y c hi hj hx hy
            rw [hblk] at hx hy
            rcases hcase i x hi with ⟨hne, h⟩ | ⟨rfl, rfl⟩ <;> rcases hcase j y hj with ⟨hne', h'⟩ | ⟨rfl, rfl⟩
            · exact ok.apart i j x y c h h' hx hy
            · rw [hbk] at hy; cases hy
              exact ok.apart i _ x _ _ h hid hx (hbk fz)
            · rw [hbk] at hx; cases hx
              exact (ok.apart j _ y _ _ h' hid hy (hbk fz)).symm
            · rfl
          · intro i u hi; exact ok.fresh i u (by simpa using hi)
          · intro i hi; exact ok.freshM i (by simpa using hi)
          · intro c j u hu
            simp only [G', C'] at hu
            split at hu
            · rename_i hh
              obtain ⟨rfl, -⟩ := hh
              exact .inr (.inr ⟨id, _, hid, hbk fz⟩)
            · exact .inl hu
          · rintro c ⟨i, x, hi, hx⟩
            rw [hblk] at hx
            rcases hcase i x hi with ⟨hne, h⟩ | ⟨rfl, rfl⟩
            · exact .inl ⟨i, x, h, hx⟩
            · rw [hbk] at hx; cases hx
              exact .inl ⟨_, _, hid, hbk fz⟩
          · intro c hc
            simp only [frz]
            cases has : elems H (V.arr id v sz off len) with
            | none => exact hvr _ _ hc
            | some as =>
              cases hl : allP as with
              | none => simp only [hl]; exact hvr _ _ hc
              | some l =>
                simp only [hl]
                unfold elems at has
                simp only [arrAt, hid, hv] at has
                split at has
                · rename_i hss
                  have hss' := beq_eq hss
                  subst hss'
                  have hle := cut_eq has
                  have hal := cut_length has
                  have hll : l.length = len := by rw [← hal, allP_eq hl]; simp
                  cases hc with
                  | @arr _ _ _ _ _ b' o' bs cap hpl hlc hbb =>
                    rw [hpl] at h1
                    cases h1
                    have hcell : ∀ (i : Nat) x (j : Nat) y, l[i]? = some x → x.cells[j]? = some y → ∃ u, k[o + off * sz + i * sz + j]? = some u ∧ C' b (o + off * sz + i * sz + j) = some u ∧ VR G (.p y) u := by
                      intro i x j y hi hy
                      have hai : as[i]? = some (.p x) := by rw [allP_eq hl]; simp [hi]
                      have hei := cut_at has hai
                      have hyc : (V.p x).cells[j]? = some (.p y) := by simp [V.cells, hy]
                      obtain ⟨u, a1, a2, a3⟩ := h6 _ _ j _ hei.1 hyc
                      have hjl : j < sz := by rw [← h5 _ _ hei.1]; exact (List.getElem?_eq_some_iff.1 hyc).1
                      have hidx : o + (off + i) * sz + j = o + off * sz + i * sz + j := by rw [Nat.add_mul]; omega
                      rw [hidx] at a1
                      refine ⟨u, a1, ?_, a3⟩
                      have q1 : (off + i + 1) * sz ≤ (off + len) * sz := Nat.mul_le_mul_right _ (by omega)
                      have q2 : (off + i + 1) * sz ≤ es.length * sz := Nat.mul_le_mul_right _ (List.getElem?_eq_some_iff.1 hei.1).1
                      have q3 : (off + i + 1) * sz = off * sz + i * sz + sz := by rw [Nat.add_mul, Nat.add_mul]; omega
                      simp only [C']
                      rw [if_pos ⟨trivial, by omega, by omega, by omega⟩]
                      exact a1
                    rw [← hll]
                    refine VR.p (PR.sl (l := l) (cap := cap) (b := b) (o := o + off * sz) (fun i j => (k[o + off * sz + i * sz + j]?).getD undef) (by omega) (by simp) (fun i x hi => ?_) (fun i x j y hi hy => ?_) (fun i x j y hi hy => ?_))
                    · have hai : as[i]? = some (.p x) := by rw [allP_eq hl]; simp [hi]
                      have := h5 _ _ (cut_at has hai).1
                      simpa [V.cells] using this
                    · obtain ⟨u, a1, a2, a3⟩ := hcell i x j y hi hy
                      rw [a1]; exact a2
                    · obtain ⟨u, a1, a2, a3⟩ := hcell i x j y hi hy
                      rw [a1]
                      exact a3.p_inv.mono hmono
                · cases has
      | box v cs => exact triv (by simp [mark, hid]) (fun c hc => by simp [frz, elems, arrAt, hid]; exact hc)
      | map es => exact triv (by simp [mark, hid]) (fun c hc => by simp [frz, elems, arrAt, hid]; exact hc)
      | dead => exact triv (by simp [mark, hid]) (fun c hc => by simp [frz, elems, arrAt, hid]; exact hc)
  | _ => exact triv rfl (fun c hc => hc)

theorem Ext.chain {G G' G'' : Gh} {H H' H'' : Hp} {w w' w'' : World} (h : Ext H.length G H w G' H' w') (k : Ext H'.length G' H' w' G'' H'' w'') (hl : H.length ≤ H'.length) : Ext H.length G H w G'' H'' w'' :=
  h.trans (k.weaken hl)

theorem marks_sound {w : World} : ∀ (l : List V) {G : Gh} {H : Hp} (ok : GOK G w H),
    ∃ G', GOK G' w (l.foldl mark H) ∧ Ext H.length G H w G' (l.foldl mark H) w ∧ ∀ x ∈ l, ∀ c, VR G x c → VR G' (frz H x) c
  | [], G, H, ok => ⟨G, ok, Ext.refl _ _ _ _, by simp⟩
  | v :: l, G, H, ok => by
    obtain ⟨G1, ok1, e1, r1⟩ := mark_sound ok v
    obtain ⟨G2, ok2, e2, r2⟩ := marks_sound l ok1
    refine ⟨G2, ok2, e1.chain e2 (by rw [mark_len]; exact Nat.le_refl _), fun x hx c hc => ?_⟩
    rcases List.mem_cons.1 hx with rfl | hx
    · exact e2.vr ok1 (r1 c hc)
    · have := r2 x hx c (e1.vr ok hc)
      rw [frz_mark] at this
      exact this

theorem markAt_sound {G : Gh} {w : World} {H : Hp} (ok : GOK G w H) (v : V) :
    ∃ G', GOK G' w (markAt H v) ∧ Ext H.length G H w G' (markAt H v) w ∧ ∀ c, VR G v c → VR G' (frzAt H v) c := by
  have cells : ∀ (cs : List V) (c : Array Value) (G' : Gh), (∀ x ∈ cs, ∀ c, VR G x c → VR G' (frz H x) c) → VRs G cs c → VRs G' (cs.map (frz H)) c := by
    intro cs c G' h hc
    refine ⟨by simpa using hc.1, fun j x v hx hv => ?_⟩
    simp only [List.getElem?_map, Option.map_eq_some_iff] at hx
    obtain ⟨y, hy, rfl⟩ := hx
    exact h y (List.mem_of_getElem? hy) v (hc.2 j y v hy hv)
  cases v with
  | agg cs =>
    obtain ⟨G', h1, h2, h3⟩ := marks_sound cs ok
    refine ⟨G', h1, h2, fun c hc => ?_⟩
    cases hc with
    | agg hs ho hr => exact (cells cs _ G' h3 ⟨hs, hr⟩).agg ho
  | arr id ver sz off len => exact mark_sound ok (.arr id ver sz off len)
  | _ => exact ⟨G, ok, Ext.refl _ _ _ _, fun c hc => hc⟩
theorem markAts_sound {w : World} : ∀ (l : List V) {G : Gh} {H : Hp} (ok : GOK G w H),
    ∃ G', GOK G' w (l.foldl markAt H) ∧ Ext H.length G H w G' (l.foldl markAt H) w ∧ ∀ x ∈ l, ∀ c, VR G x c → VR G' (frzAt H x) c
  | [], G, H, ok => ⟨G, ok, Ext.refl _ _ _ _, by simp⟩
  | v :: l, G, H, ok => by
    obtain ⟨G1, ok1, e1, r1⟩ := markAt_sound ok v
    obtain ⟨G2, ok2, e2, r2⟩ := markAts_sound l ok1
    refine ⟨G2, ok2, e1.chain e2 (by rw [markAt_len]; exact Nat.le_refl _), fun x hx c hc => ?_⟩
    rcases List.mem_cons.1 hx with rfl | hx
    · exact e2.vr ok1 (r1 c hc)
    · have := r2 x hx c (e1.vr ok hc)
      rw [frzAt_congr (frz_markAt H v)] at this
      exact this
theorem markCells_sound {G : Gh} {w : World} {H : Hp} (ok : GOK G w H) (v : V) :
    ∃ G', GOK G' w (markCells H v) ∧ Ext H.length G H w G' (markCells H v) w ∧ ∀ c, VR G v c → VR G' (frzCells H v) c := by
  cases v with
  | tup cs =>
    obtain ⟨G', h1, h2, h3⟩ := markAts_sound cs ok
    refine ⟨G', h1, h2, fun c hc => ?_⟩
    cases hc with
    | tup hs hr =>
      refine VRs.tup (G := G') (l := cs.map (frzAt H)) ⟨by simpa using hs, fun j x v hx hv => ?_⟩
      simp only [List.getElem?_map, Option.map_eq_some_iff] at hx
      obtain ⟨y, hy, rfl⟩ := hx
      exact h3 y (List.mem_of_getElem? hy) v (hr j y v hy hv)
  | agg cs => exact markAt_sound ok (.agg cs)
  | arr id ver sz off len => exact markAt_sound ok (.arr id ver sz off len)
  | undef => exact markAt_sound ok .undef
  | p x => exact markAt_sound ok (.p x)
  | ptr a b c => exact markAt_sound ok (.ptr a b c)
  | fn f a b => exact markAt_sound ok (.fn f a b)
  | map id => exact markAt_sound ok (.map id)
  | ev cs => exact markAt_sound ok (.ev cs)

theorem freeze_sound {w : World} (ρ : Operand → V) : ∀ (l : List Operand) {G : Gh} {H : Hp} (ok : GOK G w H),
    ∃ G', GOK G' w (l.foldl (fun H x => markCells H (ρ x)) H) ∧ Ext H.length G H w G' (l.foldl (fun H x => markCells H (ρ x)) H) w ∧ ∀ x ∈ l, ∀ c, VR G (ρ x) c → VR G' (frzCells H (ρ x)) c
  | [], G, H, ok => ⟨G, ok, Ext.refl _ _ _ _, by simp⟩
  | v :: l, G, H, ok => by
    obtain ⟨G1, ok1, e1, r1⟩ := markCells_sound ok (ρ v)
    obtain ⟨G2, ok2, e2, r2⟩ := freeze_sound ρ l ok1
    refine ⟨G2, ok2, e1.chain e2 (by rw [markCells_len]; exact Nat.le_refl _), fun x hx c hc => ?_⟩
    rcases List.mem_cons.1 hx with rfl | hx
    · exact e2.vr ok1 (r1 c hc)
    · have := r2 x hx c (e1.vr ok hc)
      rw [frzCells_mark] at this
      exact this

theorem lowCell1_vr {G G' : Gh} {n : Nat} (hC : ∀ b o v, G.C b o = some v → G'.C b o = some v) (hp : ∀ id ver x, id < n → G.pl id ver = some x → G'.pl id ver = some x) (hm : ∀ id x, id < n → G.mp id = some x → G'.mp id = some x)
    {v : V} (hv : lowCell1 n v = true) {c : Value} (h : VR G v c) : VR G' v c := by
  cases h with
  | undef c => exact .undef c
  | p h => exact .p (h.mono hC)
  | ptr h => exact .ptr (hp _ _ _ (by simp only [lowCell1, Nat.blt_eq] at hv; exact hv) h)
  | arr h a b => exact .arr (hp _ _ _ (by simp only [lowCell1, Nat.blt_eq] at hv; exact hv) h) a b
  | map h => exact .map (hm _ _ (by simp only [lowCell1, Nat.blt_eq] at hv; exact hv) h)
  | agg _ _ _ => simp [lowCell1] at hv
  | tup _ _ => simp [lowCell1] at hv
  | fn _ _ _ _ => simp [lowCell1] at hv
  | ev _ _ _ => simp [lowCell1] at hv
theorem lowCell_vr {G G' : Gh} {n : Nat} (hC : ∀ b o v, G.C b o = some v → G'.C b o = some v) (hp : ∀ id ver x, id < n → G.pl id ver = some x → G'.pl id ver = some x) (hm : ∀ id x, id < n → G.mp id = some x → G'.mp id = some x)
    {v : V} (hv : lowCell n v = true) {c : Value} (h : VR G v c) : VR G' v c := by
  by_cases he : ∃ cs, v = .ev cs
  · obtain ⟨cs, rfl⟩ := he
    cases h with
    | ev f hCC hR =>
      simp only [lowCell] at hv
      exact .ev f (fun j y hj => hC _ _ _ (hCC j y hj)) (fun j y hj => lowCell1_vr hC hp hm (List.all_eq_true.1 hv y (List.mem_of_getElem? hj)) (hR j y hj))
  · have : lowCell1 n v = true := by
      cases v <;> first | exact hv | exact absurd ⟨_, rfl⟩ he
    exact lowCell1_vr hC hp hm this h

theorem lowV_vr {G G' : Gh} {n : Nat} (hC : ∀ b o v, G.C b o = some v → G'.C b o = some v) (hp : ∀ id ver x, id < n → G.pl id ver = some x → G'.pl id ver = some x) (hm : ∀ id x, id < n → G.mp id = some x → G'.mp id = some x)
    {v : V} (hv : lowV n v = true) {c : Value} (h : VR G v c) : VR G' v c := by
  have cells : ∀ (l : List V), l.all (lowCell n) = true → ∀ (j : Nat) x u, l[j]? = some x → VR G x u → VR G' x u := by
    intro l hl j x u hx hu
    exact lowCell_vr hC hp hm (List.all_eq_true.1 hl x (List.mem_of_getElem? hx)) hu
  cases v with
  | agg cs => cases h with | agg hs h1 hr => exact .agg hs h1 (fun j x u hx hu => cells cs hv j x u hx (hr j x u hx hu))
  | tup cs => cases h with | tup hs hr => exact .tup hs (fun j x u hx hu => cells cs hv j x u hx (hr j x u hx hu))
  | fn f a b =>
    simp only [lowV, Bool.and_eq_true] at hv
    cases h with | fn ha hb h1 h2 => exact .fn ha hb (fun j x u hx hu => cells a hv.1 j x u hx (h1 j x u hx hu)) (fun j x u hx hu => cells b hv.2 j x u hx (h2 j x u hx hu))
  | undef => exact lowCell_vr (v := .undef) hC hp hm hv h
  | p x => exact lowCell_vr (v := (.p x)) hC hp hm hv h
  | ptr a b c => exact lowCell_vr (v := (.ptr a b c)) hC hp hm hv h
  | arr a b c d e => exact lowCell_vr (v := (.arr a b c d e)) hC hp hm hv h
  | map a => exact lowCell_vr (v := (.map a)) hC hp hm hv h
  | ev a => exact lowCell_vr (v := (.ev a)) hC hp hm hv h

theorem trunc_sound {G : Gh} {w : World} {H : Hp} (ok : GOK G w H) {n : Nat} (hlow : (H.take n).all (lowOb n) = true) :
    ∃ G', GOK G' w (H.take n) ∧ Ext n G H w G' (H.take n) w ∧ ∀ v c, lowV n v = true → VR G v c → VR G' v c := by
  let G' : Gh := { G with pl := fun id v => if id < n then G.pl id v else none, mp := fun id => if id < n then G.mp id else none }
  have hp : ∀ id ver x, id < n → G.pl id ver = some x → G'.pl id ver = some x := fun id ver x h hx => by simp [G', h, hx]
  have hm : ∀ id x, id < n → G.mp id = some x → G'.mp id = some x := fun id x h hx => by simp [G', h, hx]
  have hvr : ∀ v c, lowV n v = true → VR G v c → VR G' v c := fun v c h hv => lowV_vr (G := G) (G' := G') (fun _ _ _ h => h) hp hm h hv
  have hat : ∀ (i : Nat) x, (H.take n)[i]? = some x → i < n ∧ H[i]? = some x := by
    intro i x h
    rw [List.getElem?_take] at h
    split at h
    · exact ⟨by assumption, h⟩
    · cases h
  have hblk : ∀ i x, i < n → blk G' i x = blk G i x := by
    intro i x hi
    cases x <;> simp [blk, G', hi]
  refine ⟨G', ⟨ok.stable, ok.one, ?_, ?_, ?_, ?_⟩, ⟨rfl, rfl, rfl, Nat.le_refl _, fun _ _ _ => rfl, fun _ _ _ h => h, fun _ _ _ h => .inl h, hp, hm, ?_⟩, hvr⟩
  · intro i x h
    obtain ⟨hi, hx⟩ := hat i x h
    have hl := List.all_eq_true.1 hlow x (List.mem_of_getElem? h)
    have hb := ok.obs i x hx
    cases x with
    | box ver cs =>
      obtain ⟨b, o, k, T, h1, h2, h3, h4, h5, h6⟩ := hb
      exact ⟨b, o, k, T, hp _ _ _ hi h1, h2, h3, fun j y hy => let ⟨u, a1, a2, a3⟩ := h4 j y hy; ⟨u, a1, a2, hvr _ _ (List.all_eq_true.1 hl y (List.mem_of_getElem? hy)) a3⟩, h5, fun v hv => by simp [G', hi]; exact h6 v hv⟩
    | arr ver f sz es =>
      obtain ⟨b, o, k, T, h1, h2, h3, h4, h5, h6, h7, h8⟩ := hb
      refine ⟨b, o, k, T, hp _ _ _ hi h1, h2, h3, h4, h5, fun m e j y he hy => ?_, h7, fun v hv => by simp [G', hi]; exact h8 v hv⟩
      obtain ⟨u, a1, a2, a3⟩ := h6 m e j y he hy
      refine ⟨u, a1, a2, ?_⟩
      have hle := List.all_eq_true.1 hl e (List.mem_of_getElem? he)
      refine hvr _ _ ?_ a3
      cases e with
      | agg cs =>
        have := List.all_eq_true.1 hle y (List.mem_of_getElem? hy)
        cases y <;> first | exact this | cases this
      | p x =>
        simp only [V.cells, List.getElem?_map, Option.map_eq_some_iff] at hy
        obtain ⟨z, -, rfl⟩ := hy
        rfl
      | undef => simp [V.cells] at hy
      | tup cs => simp [V.cells] at hy
      | _ =>
        simp only [V.cells] at hy
        cases j with
        | zero => simp at hy; subst hy; exact hle
        | succ j => simp at hy
    | map es =>
      obtain ⟨b, k, clock, h1, h2, h3, h4, h5⟩ := hb
      exact ⟨b, k, clock, hm _ _ hi h1, h2, h3, h4, h5⟩
    | dead => trivial
  · intro i j x y b hi hj hx hy
    obtain ⟨hi1, hi2⟩ := hat i x hi
    obtain ⟨hj1, hj2⟩ := hat j y hj
    rw [hblk i x hi1] at hx
    rw [hblk j y hj1] at hy
    exact ok.apart i j x y b hi2 hj2 hx hy
  · intro i v hi
    simp only [G']
    split
    · rename_i hin
      exact ok.fresh i v (by simp at hi; omega)
    · rfl
  · intro i hi
    simp only [G']
    split
    · rename_i hin
      exact ok.freshM i (by simp at hi; omega)
    · rfl
  · rintro b ⟨i, x, hi, hx⟩
    obtain ⟨hi1, hi2⟩ := hat i x hi
    rw [hblk i x hi1] at hx
    exact .inl ⟨i, x, hi2, hx⟩
end Go.AX
