/-
  'AX' AND THE MODEL: slice literals, conversions, make, min and max, freezing.
-/
import Derived.Test.YtojpocfnjigmfaaDoorAX5e
import Derived.Great.BuildSlice
set_option linter.unusedVariables false
set_option linter.unusedSimpArgs false
namespace Go.AX
open Go
variable {P : Program}

theorem elemsOf_inv {esz : Nat} : ∀ {i : Nat} {parts : List (Nat × V)} {l : List Pv}, elemsOf esz i parts = some l →
    parts = (l.zipIdx i).map (fun x => (x.2, V.p x.1)) ∧ ∀ x ∈ l, x.cells.length = esz
  | i, [], l, h => by simp [elemsOf] at h; subst h; simp
  | i, (j, v) :: parts, l, h => by
    cases v with
    | p x =>
      simp only [elemsOf] at h
      split at h
      · rename_i h1 h2
        simp only [Option.map_eq_some_iff] at h
        obtain ⟨r, hr, rfl⟩ := h
        obtain ⟨e1, e2⟩ := elemsOf_inv hr
        have := beq_eq h1
        subst this
        refine ⟨by simp [e1], fun y hy => ?_⟩
        rcases List.mem_cons.1 hy with rfl | hy
        · exact beq_eq h2
        · exact e2 y hy
      · cases h
    | _ => simp [elemsOf] at h

theorem buildSliceV_sound {t : TypeId} {ti : TI} (hti : tiOf P t = some ti) {n : Nat} {parts : List (Nat × V)} {r : V} (h : buildSliceV ti n parts = some r) {G : Gh} {w : World} {H : Hp} (ok : GOK G w H) {parts' : Array (Nat × Value)}
    (hl : parts.length = parts'.size) (hp : ∀ (j : Nat) x y, parts[j]? = some x → parts'[j]? = some y → x.1 = y.1 ∧ VR G x.2 y.2) :
    ∃ v w' G', (Instr.buildSlice t n parts').run P w = .ok v w' ∧ VR G' r v ∧ GOK G' w' H ∧ Ext H.length G H w G' H w' := by
  have hk := ti_kd hti
  unfold buildSliceV at h
  split at h
  · rename_i e esz eb ea u8 hkd
    rw [hkd] at hk
    obtain ⟨hu, ⟨i, hi, hisz, hib, z, hz, hzs⟩, -, -⟩ := hk
    subst hisz
    split at h
    · rename_i l hel
      split at h
      · rename_i h1 h2 h3 h4
        cases h
        have hln := beq_eq h1
        have h2 := Nat.le_of_ble_eq_true h2
        have h0 : 0 < i.size := Nat.le_of_ble_eq_true h3
        obtain ⟨e1, e2⟩ := elemsOf_inv hel
        have hlp : l.length = parts'.size := by rw [← hl, e1]; simp
        -- the parts as a list of values in order
        have hpv : ∃ vs : List Value, parts'.toList = (vs.zipIdx 0).map (fun x => (x.2, x.1)) ∧ vs.length = l.length ∧ ∀ (j : Nat) x v, l[j]? = some x → vs[j]? = some v → PR G.C x v := by
          refine ⟨parts'.toList.map (·.2), ?_, by simp [hlp], ?_⟩
          · apply List.ext_getElem?
            intro j
            by_cases hj : j < parts'.size
            · have hq : parts'[j]? = some parts'[j] := Array.getElem?_eq_getElem hj
              have hx : parts[j]? = some (j, V.p l[j]) := by
                rw [e1]
                simp [show j < l.length by omega]
              have := (hp j _ _ hx hq).1
              simp only at this
              simp [hj, List.getElem?_zipIdx]
              exact Prod.ext this.symm rfl
            · rw [List.getElem?_eq_none (by simp; omega), List.getElem?_eq_none (by simp; omega)]
          · intro j x v hx hv
            simp only [List.getElem?_map, Option.map_eq_some_iff, Array.getElem?_toList] at hv
            obtain ⟨q, hq, rfl⟩ := hv
            have hx' : parts[j]? = some (j, V.p x) := by
              rw [e1]
              simp [List.getElem?_zipIdx, hx]
            exact (hp j _ _ hx' hq).2.p_inv
        obtain ⟨vs, hv1, hv2, hv3⟩ := hpv
        have hvs : ∀ (j : Nat) v, vs[j]? = some v → ∃ x, l[j]? = some x ∧ PR G.C x v ∧ x.cells.length = i.size := by
          intro j v hv
          have hj : j < l.length := by rw [← hv2]; exact (List.getElem?_eq_some_iff.1 hv).1
          exact ⟨l[j], by simp [hj], hv3 j _ v (by simp [hj]) hv, e2 _ (List.getElem_mem hj)⟩
        have hvsz : ∀ v ∈ vs, v.cells.size = i.size := by
          intro v hv
          obtain ⟨j, hj⟩ := List.getElem?_of_mem hv
          obtain ⟨x, -, hx2, hx3⟩ := hvs j v hj
          exact (hx2.cellsOf hx3 h0).1
        obtain ⟨cells, hc1, hc2, hc3⟩ := Great.fill_dense h0 vs 0 ((Array.range (n * i.size)).map (z.cells[· % z.cells.size]!)) hvsz (by simp [hv2, hln])
        simp only [Nat.zero_add, Nat.zero_mul, Nat.zero_le, true_and, Nat.sub_zero] at hc3
        have hcsz : cells.size = n * i.size := by rw [hc2]; simp
        by_cases hn0 : n = 0
        · subst hn0
          have hl0 : l = [] := List.eq_nil_of_length_eq_zero hln
          subst hl0
          have hp0 : parts' = #[] := by simpa using hlp.symm
          obtain ⟨g1, g2⟩ := grow_same (w' := w.alloc (.cells #[] e)) ok rfl rfl rfl (by simp) (fun b hb => heap_alloc_lt w _ hb)
          refine ⟨.slice (some ⟨w.heap.size, 0, none⟩) 0 0, w.alloc (.cells #[] e), G, ?_, .p ?_, g1, g2⟩
          · simp [Instr.buildSlice, run_underlying hu, run_sizeOf' w hi, hp0, Instr.fill, newRow]
            congr 2
            apply Array.ext
            · simp
            · intro j h1 h2; simp at h2
          · have := PR.sl (C := G.C) (sz := i.size) (ex := true) (l := []) (b := w.heap.size) (o := 0) (cap := 0) (fun _ _ => .nilFunc) (by simp) (by simp) (by simp) (by simp) (by simp)
            simpa using this
        · have hrun := run_buildSlice w t e n parts' cells i z hu hi hz (by omega) (by have := Nat.mul_pos (Nat.pos_of_ne_zero hn0) h0; omega) (by rw [hv1]; exact hc1)
          have hcell : ∀ (m : Nat) x (j : Nat) y, l[m]? = some x → x.cells[j]? = some y → ∃ u, cells[m * i.size + j]? = some u ∧ u.oneCell' = true ∧ PR G.C y u := by
            intro m x j y hm hy
            have hxl := e2 x (List.mem_of_getElem? hm)
            have hj : j < i.size := by rw [← hxl]; exact (List.getElem?_eq_some_iff.1 hy).1
            have hml : m < vs.length := by rw [hv2]; exact (List.getElem?_eq_some_iff.1 hm).1
            have hv : vs[m]? = some vs[m] := List.getElem?_eq_getElem hml
            have hpr := hv3 m x _ hm hv
            obtain ⟨q1, q2⟩ := hpr.cellsOf hxl h0
            have hjs : j < (vs[m]).cells.size := by omega
            have hu' : (vs[m]).cells[j]? = some (vs[m]).cells[j] := Array.getElem?_eq_getElem hjs
            refine ⟨(vs[m]).cells[j], ?_, q2 j y _ hy hu'⟩
            have hlt : m * i.size + j < vs.length * i.size := by
              have : (m + 1) * i.size ≤ vs.length * i.size := Nat.mul_le_mul_right _ hml
              rw [Nat.add_mul] at this; omega
            rw [hc3, if_pos hlt]
            have hd : (m * i.size + j) / i.size = m := by
              rw [Nat.mul_comm, Nat.mul_add_div h0, Nat.div_eq_of_lt hj]; rfl
            have hmod : (m * i.size + j) % i.size = j := by
              rw [Nat.mul_comm, Nat.mul_add_mod, Nat.mod_eq_of_lt hj]
            rw [hd, hmod, hv]
            simp [hjs]
          have hone : ∀ (m : Nat) v, cells[m]? = some v → v.oneCell' = true := by
            intro m v hv
            have hm : m < l.length * i.size := by rw [hln, ← hcsz]; exact (Array.getElem?_eq_some_iff.1 hv).1
            have hi' : m / i.size < l.length := (Nat.div_lt_iff_lt_mul h0).2 hm
            have hx := e2 _ (List.getElem_mem hi')
            obtain ⟨u, a1, a2, -⟩ := hcell (m / i.size) _ (m % i.size) _ (List.getElem?_eq_getElem hi') (List.getElem?_eq_getElem (by rw [hx]; exact Nat.mod_lt _ h0))
            rw [mod_lt_of h0, hv] at a1
            cases a1
            exact a2
          obtain ⟨g1, g2⟩ := grow_stable ok cells e hone
          refine ⟨_, _, _, hrun, .p ?_, g1, g2⟩
          have := PR.sl (C := fun b o => if b = w.heap.size then cells[o]? else G.C b o) (sz := i.size) (ex := true) (l := l) (b := w.heap.size) (o := 0) (cap := n) (fun m j => (cells[m * i.size + j]?).getD undef) (by omega) (fun _ => hln.symm)
            (fun m x hm => e2 x (List.mem_of_getElem? hm)) (fun m x j y hm hy => by
              obtain ⟨u, a1, a2, a3⟩ := hcell m x j y hm hy
              simp [a1]) (fun m x j y hm hy => by
              obtain ⟨u, a1, a2, a3⟩ := hcell m x j y hm hy
              rw [a1]
              exact a3.mono g2.mono)
          rw [hln] at this
          exact this
      · cases h
    · cases h
  · cases h

theorem bytesOf_toBytes : ∀ {l : List Pv} {s : List UInt8}, bytesOf l = some s → ∀ (C : Nat → Nat → Option Value) (us : List Value), us.length = l.length → (∀ (j : Nat) x u, l[j]? = some x → us[j]? = some u → PR C x u) →
    ∃ ns : List Int, us = ns.map (Value.int .u8) ∧ ns.map (fun n => UInt8.ofNat n.toNat) = s
  | [], s, h, C, us, hl, hr => by
    simp [bytesOf] at h
    subst h
    exact ⟨[], by simpa using hl, rfl⟩
  | x :: l, s, h, C, [], hl, hr => by simp at hl
  | x :: l, s, h, C, u :: us, hl, hr => by
    unfold bytesOf at h
    split at h
    · rename_i e; cases e
    · rename_i n l' e
      cases e
      simp only [Option.map_eq_some_iff] at h
      obtain ⟨r, hr', rfl⟩ := h
      obtain ⟨ns, h1, h2⟩ := bytesOf_toBytes hr' C us (by simpa using hl) (fun j x u hx hu => hr (j + 1) x u (by simpa using hx) (by simpa using hu))
      have := (hr 0 _ u rfl rfl).int_inv
      exact ⟨n :: ns, by simp [this, h1], by simp [h2]⟩
    · cases h
theorem foldl_push (ns : List Int) : ∀ b : ByteArray, (ns.foldl (fun r n => r.push (UInt8.ofNat n.toNat)) b).data.toList = b.data.toList ++ ns.map (fun n => UInt8.ofNat n.toNat) := by
  induction ns with
  | nil => intro b; simp
  | cons n ns ih =>
    intro b
    rw [List.foldl_cons, ih]
    simp [ByteArray.push]

theorem convP_sound {src dst : TypeId} {s d : TI} (hs : tiOf P src = some s) (hd : tiOf P dst = some d) {x r : Pv} (h : convP s d x = some r) {G : Gh} {w : World} {H : Hp} (ok : GOK G w H) {c : Value} (hx : PR G.C x c) :
    ∃ v w' G', (convert src dst c).run P w = .ok v w' ∧ PR G'.C r v ∧ GOK G' w' H ∧ Ext H.length G H w G' H w' := by
  have hks := ti_kd hs
  have hkd := ti_kd hd
  obtain ⟨ds, hds⟩ := underlying_some (P := P) (t := src) (by obtain ⟨i, -, -, hk, -⟩ := ti_parts hs; rw [hk]; rfl)
  have same : ∀ v, (convert src dst c).run P w = .ok v w → PR G.C r v → ∃ v w' G', (convert src dst c).run P w = .ok v w' ∧ PR G'.C r v ∧ GOK G' w' H ∧ Ext H.length G H w G' H w' :=
    fun v h1 h2 => ⟨v, w, G, h1, h2, ok, Ext.refl _ _ _ _⟩
  unfold convP at h
  split at h
  · rename_i k k' n hk
    rw [hk] at hkd
    simp only [kdSays] at hkd
    cases h
    rw [hx.int_inv] at same ⊢
    refine same _ ?_ (by rw [wrapK_eq]; exact .int _ _)
    simp [convert, run_underlying hds, run_underlying hkd, Conv.intToInt]
  · rename_i s' hk
    rw [hk] at hkd
    simp only [kdSays] at hkd
    cases h
    obtain ⟨b, rfl, hb⟩ := hx.str_inv
    refine same (.string b) ?_ (.str hb)
    unfold convert
    cases ds <;> simp [run_underlying hds, run_underlying hkd]
  · rename_i e esz eb ea s' hk
    rw [hk] at hkd
    obtain ⟨hu, ⟨ie, hie, hisz, -, -⟩, -, hu8⟩ := hkd
    split at h
    · rename_i hk2
      cases h
      obtain ⟨b, rfl, hb⟩ := hx.str_inv
      have hrun := Lib.run_convert_string_bytes w src dst e b hds hu (hu8 rfl)
      have hold : ∀ c, c < w.heap.size → (Lib.bytesWorld w e b).heap[c]? = w.heap[c]? := fun c hc => Lib.bytesWorld_at_old w e b c hc
      have hbl : b.size = s'.length := by rw [size_data, hb]
      obtain ⟨g1, g2⟩ := grow (w' := Lib.bytesWorld w e b) ok (fun c o => if c = w.heap.size then (if o < b.size then (Lib.bytesWorld w e b).cell? ⟨w.heap.size, o, none⟩ else none) else G.C c o) rfl rfl rfl (by rw [Lib.bytesWorld_size]; omega) hold
        (fun c o hc => by simp [show c ≠ w.heap.size by omega]) (fun c o v hc hv => by
          split at hv
          · subst_vars
            split at hv
            · rename_i ho
              refine ⟨hv, ?_⟩
              rw [Lib.bytesWorld_cell w e b o ho] at hv
              cases hv
              rfl
            · cases hv
          · exact absurd (stable_lt ok hv) (by omega))
      refine ⟨_, _, _, hrun, ?_, g1, g2⟩
      have := PR.sl (C := fun c o => if c = w.heap.size then (if o < b.size then (Lib.bytesWorld w e b).cell? ⟨w.heap.size, o, none⟩ else none) else G.C c o) (sz := 1) (ex := false) (l := toBytes s') (b := w.heap.size) (o := 0) (cap := grownCap w b.size 0 e)
        (fun i j => .int .u8 (s'.getD i 0).toNat) (by simp [toBytes]; rw [← hbl]; exact grownCap_ge w _ _ _) (by simp) (fun i x hx => by
          simp only [toBytes, List.getElem?_map, Option.map_eq_some_iff] at hx
          obtain ⟨q, hq, rfl⟩ := hx
          rfl) (fun i x j y hx hy => by
          simp only [toBytes, List.getElem?_map, Option.map_eq_some_iff] at hx
          obtain ⟨q, hq, rfl⟩ := hx
          have hi := (List.getElem?_eq_some_iff.1 hq).1
          cases j with
          | succ j => simp [Pv.cells] at hy
          | zero =>
            simp only [Nat.zero_add, Nat.mul_one, Nat.add_zero, if_true]
            rw [if_pos (by omega), Lib.bytesWorld_cell w e b i (by omega), hb]) (fun i x j y hx hy => by
          simp only [toBytes, List.getElem?_map, Option.map_eq_some_iff] at hx
          obtain ⟨q, hq, rfl⟩ := hx
          cases j with
          | succ j => simp [Pv.cells] at hy
          | zero =>
            simp [Pv.cells] at hy
            subst hy
            simp [List.getD, hq]
            exact .int _ _)
      simpa [toBytes, hbl] using this
    · cases h
  · rename_i sz ex l hk
    rw [hk] at hkd
    simp only [kdSays] at hkd
    split at h
    · rename_i e esz eb ea hk2
      rw [hk2] at hks
      obtain ⟨hu, ⟨ie, hie, hisz, -, -⟩, -, hu8⟩ := hks
      simp only [Option.map_eq_some_iff] at h
      obtain ⟨s', hs', rfl⟩ := h
      rw [hu] at hds
      cases hds
      have conv : ∀ a n m, (convert src dst (.slice a n m)).run P w = (Conv.bytesToString (.slice a n m)).run P w := by
        intro a n m
        unfold convert
        simp only [Sem.run_bind, run_underlying hu, run_underlying hkd, run_underlying (hu8 rfl), Result.andThen_ok]
      cases hx with
      | slNil =>
        simp [bytesOf] at hs'
        subst hs'
        refine same (.string .empty) ?_ (.str rfl)
        rw [conv]
        rename_i a0
        cases a0 with
        | none => simp [Conv.bytesToString]
        | some a => simp [Conv.bytesToString, loadCells, loadCellsFrom]
      | @sl _ _ _ b o cap f hc hex hsz hC hR =>
        have h1 : l ≠ [] → sz = 1 := by
          intro hne
          obtain ⟨x, l', rfl⟩ := List.exists_cons_of_ne_nil hne
          have := hsz 0 x rfl
          unfold bytesOf at hs'
          split at hs'
          · rename_i e; cases e
          · rename_i e; cases e; simpa [Pv.cells] using this.symm
          · cases hs'
        have hcell : ∀ j, j < l.length → (∃ n, l[j]? = some (.int .u8 n)) := by
          clear same conv hc hex hsz hC hR h1
          intro j hj
          induction l generalizing j s' with
          | nil => simp at hj
          | cons x l ih =>
            unfold bytesOf at hs'
            split at hs'
            · rename_i e; cases e
            · rename_i n l' e
              cases e
              simp only [Option.map_eq_some_iff] at hs'
              obtain ⟨r, hr, -⟩ := hs'
              cases j with
              | zero => exact ⟨n, rfl⟩
              | succ j => simpa using ih _ hr j (by simpa using hj)
            · cases hs'
        have hload : (loadCells ⟨b, o, none⟩ l.length).run P w = .ok ((List.range l.length).map fun j => f j 0).toArray w := by
          refine run_loadCells w ⟨b, o, none⟩ l.length (fun j => f j 0) (fun j hj => ?_)
          obtain ⟨n, hn⟩ := hcell j hj
          have hs1 := h1 (by intro e; subst e; simp at hj)
          subst hs1
          have := ok.stable _ _ _ (hC j _ 0 _ hn rfl)
          simpa [Addr.add_lit] using this
        obtain ⟨ns, n1, n2⟩ := bytesOf_toBytes hs' G.C ((List.range l.length).map fun j => f j 0) (by simp) (fun j x u hx hu => by
          have hj := (List.getElem?_eq_some_iff.1 hx).1
          obtain ⟨n, hn⟩ := hcell j hj
          rw [hn] at hx
          cases hx
          simp [hj] at hu
          subst hu
          exact hR j _ 0 _ hn rfl)
        rw [n1] at hload
        refine same (.string (ns.foldl (fun r n => r.push (UInt8.ofNat n.toNat)) ByteArray.empty)) ?_ (.str ?_)
        · rw [conv]
          exact run_bytesToString w ⟨b, o, none⟩ l.length cap ns hload
        · rw [foldl_push, n2]; rfl
    · cases h
  · rename_i hk
    rw [hk] at hkd
    simp only [kdSays] at hkd
    split at h
    · rename_i e esz eb ea hk2
      rw [hk2] at hks
      obtain ⟨hu, ⟨ie, hie, hisz, -, -⟩, -, hu8⟩ := hks
      cases h
      cases hx
      refine same (.string .empty) ?_ (.str rfl)
      unfold convert
      simp [run_underlying hu, run_underlying hkd, run_underlying (hu8 rfl), Conv.bytesToString]
    · cases h
  · cases h

theorem cells_replicate {z : Value} {zl : List Pv} {G : Gh} {sz : Nat} {ve : V} (h0 : 0 < sz) (hv : ve.cells.length = sz) (hz : z.cells.size = sz)
    (hr : ∀ (j : Nat) y u, ve.cells[j]? = some y → z.cells[j]? = some u → u.oneCell' = true ∧ VR G y u) (n : Nat) :
    Holds G sz ((List.range (n * sz)).map fun m => z.cells[m % z.cells.size]!) (List.replicate n ve) where
  len := by simp
  size i e he := by
    rw [List.getElem?_replicate] at he
    split at he
    · cases he; exact hv
    · cases he
  cell i e j y he hy := by
    rw [List.getElem?_replicate] at he
    split at he
    · rename_i hi
      cases he
      have hj : j < sz := by rw [← hv]; exact (List.getElem?_eq_some_iff.1 hy).1
      have hjz : j < z.cells.size := by omega
      have hu : z.cells[j]? = some z.cells[j] := Array.getElem?_eq_getElem hjz
      obtain ⟨a, b⟩ := hr j y _ hy hu
      refine ⟨z.cells[j], ?_, a, b⟩
      have hlt : i * sz + j < n * sz := by
        have : (i + 1) * sz ≤ n * sz := Nat.mul_le_mul_right _ hi
        rw [Nat.add_mul] at this; omega
      have hmod : (i * sz + j) % z.cells.size = j := by rw [hz, Nat.mul_comm, Nat.mul_add_mod, Nat.mod_eq_of_lt hj]
      simp [hlt, hmod, hjz]
    · cases he

theorem makeSliceV_sound {t : TypeId} {ti te : TI} (hti : tiOf P t = some ti) {H H' : Hp} {l c : V} {r : V} (hte : ∀ e esz eb ea u8, ti.kd = .slice e esz eb ea u8 → tiOf P e = some te) (h : makeSliceV ti te H l c = some (r, H')) {G : Gh} {w : World} (ok : GOK G w H) {l' c' : Value} (hl : VR G l l') (hc : VR G c c') :
    ∃ v w' G', (Instr.makeSlice t l' c').run P w = .ok v w' ∧ VR G' r v ∧ GOK G' w' H' ∧ Ext H.length G H w G' H' w' := by
  have hk := ti_kd hti
  unfold makeSliceV at h
  split at h
  · rename_i e esz eb ea u8 hkd
    have hte := hte e esz eb ea u8 hkd
    rw [hkd] at hk
    obtain ⟨hu, ⟨i, hi, hisz, hib, z, hz, hzs⟩, hea, -⟩ := hk
    subst hisz
    subst hib
    split at h
    · rename_i n m
      split at h
      · rename_i ze hze
        split at h
        · rename_i hcond
          simp only [Bool.and_eq_true] at hcond
          obtain ⟨⟨c1, c2⟩, c3⟩ := hcond
          have c1 := Nat.le_of_ble_eq_true c1
          have h0 : 0 < i.size := Nat.le_of_ble_eq_true c3
          obtain ⟨r1, r2⟩ := roomy_parts c2
          cases h
          rw [hl.p_inv.int_inv, hc.p_inv.int_inv]
          obtain ⟨ie, hie, hise, -, -, -, hzz⟩ := ti_parts hte
          rw [hi] at hie
          cases hie
          obtain ⟨z', hz', hz2, hz3⟩ := zero_sound hzz G
          rw [hz] at hz'
          cases hz'
          have hzc : ze.cells.length = i.size ∧ ze.cells = te.zero.map .p := by
            unfold zeroElem at hze
            split at hze
            · split at hze
              · rename_i hb
                cases hze
                exact ⟨by simp [V.cells, Pv.cells]; exact beq_eq hb, rfl⟩
              · cases hze
            · rename_i x hx
              have hcx : x.cells = [x] ∧ ze = .p x := by
                split at hze
                · cases hze
                · cases hze
                · rename_i n1 n2
                  cases hze
                  refine ⟨?_, rfl⟩
                  cases x <;> first | rfl | exact absurd rfl (n1 _) | exact absurd rfl (n2 _)
              obtain ⟨hcx, rfl⟩ := hcx
              have : z.cells.size = 1 := by rw [← hz2.1, hx]; rfl
              exact ⟨by simp [V.cells, hcx]; omega, by simp [V.cells, hcx, hx]⟩
            · cases hze
          have hh := cells_replicate (z := z) (zl := te.zero) (G := G) (ve := ze) h0 hzc.1 hzs (fun j y u hy hu => ⟨hz3 j u hu, hz2.2 j y u (by rw [← hzc.2]; exact hy) hu⟩)
          have hhn := hh n
          obtain ⟨G', g1, g2, g3⟩ := newArr ok h0 hhn ((List.range (m * i.size - n * i.size)).map fun j => z.cells[(n * i.size + j) % z.cells.size]!) e m (by simpa using c1) (by simp; omega)
          refine ⟨_, _, G', ?_, by simpa using g3, g1, g2⟩
          have wn : IntKind.i64.wrap (n : Int) = (n : Int) := wrap_small true rfl 18446744073709551616 9223372036854775808 rfl rfl (by decide) (by simp only [if_true]; omega)
          have wm : IntKind.i64.wrap (m : Int) = (m : Int) := wrap_small true rfl 18446744073709551616 9223372036854775808 rfl rfl (by decide) (by simp only [if_true]; omega)
          have hbig : ¬ ((m : Int) < 0 ∨ 281474976710656 < (i.bytes : Int) * (m : Int)) := by
            have : ((m * i.bytes : Nat) : Int) = (i.bytes : Int) * (m : Int) := by rw [Nat.mul_comm]; exact Int.natCast_mul _ _
            omega
          have hneg : ¬ ((n : Int) < 0) := by omega
          have hle : ¬ ((m : Int) < (n : Int)) := by omega
          have hb2 : ¬ (281474976710656 < (i.bytes : Int) * (m : Int)) := by omega
          have hm0 : ¬ ((m : Int) < 0) := by omega
          have harr : (Array.range (m * i.size)).map (fun x => z.cells[x % z.cells.size]!) = (((List.range (n * i.size)).map fun m => z.cells[m % z.cells.size]!) ++ ((List.range (m * i.size - n * i.size)).map fun j => z.cells[(n * i.size + j) % z.cells.size]!)).toArray := by
            apply Array.ext'
            simp only [Array.toList_map, Array.toList_range]
            have hsp : m * i.size = n * i.size + (m * i.size - n * i.size) := by
              have : n * i.size ≤ m * i.size := Nat.mul_le_mul_right _ c1
              omega
            conv => lhs; rw [hsp, List.range_add, List.map_append, List.map_map]
            rfl
          unfold Instr.makeSlice
          simp only [Sem.run_bind, run_underlying hu, Result.andThen_ok, asInt, asIntOf, Sem.run_pure, run_typeInfo' w hi, wn, wm, Int.ofNat_eq_natCast, run_askRoom, Int.toNat_natCast, run_sizeOf' w hi]
          have hcond' : ((decide ((m : Int) < 0) || decide ((i.bytes : Int) * (m : Int) > 2 ^ 48) || decide ((n : Int) < 0) || decide ((n : Int) > (m : Int))) = true) = False := by
            simp [hm0, hb2, hneg]; omega
          simp only [hcond', if_false]
          by_cases hz0 : m * i.size = 0
          · have : m = 0 := by
              rcases Nat.mul_eq_zero.1 hz0 with h | h
              · exact h
              · omega
            subst this
            have : n = 0 := by omega
            subst this
            simp [newRow, run_sizeOf' w hi]
            congr 2
            apply Array.ext
            · simp
            · intro j h1 h2; simp at h2
          · simp only [Sem.run_bind, run_askRoom, run_sizeOf' w hi, Result.andThen_ok, if_neg hz0, zeroValue, Sem.run_bind, run_typeInfo' w hi, Result.andThen_ok, hz, Sem.run_pure, newRow, run_newObj_alloc]
            rw [← harr]
        · cases h
      · cases h
    · cases h
  · cases h
end Go.AX
