/-
  'AX' AND THE MODEL: append, slice literals, conversions, make, min and max, freezing.
-/
import Derived.Test.YtojpocfnjigmfaaDoorAX5d
set_option linter.unusedVariables false
set_option linter.unusedSimpArgs false
namespace Go.AX
open Go
variable {P : Program}

def newOf (H : Hp) (x : V) : Option (List V) := match x with
  | .p (.str b) => some ((toBytes b).map V.p)
  | x => elems H x

theorem src_sound {G : Gh} {w : World} {H : Hp} (ok : GOK G w H) {x : V} {es : List V} (h : newOf H x = some es) {sz : Nat} (h0 : 0 < sz) (hsz : ∀ (i : Nat) e, es[i]? = some e → e.cells.length = sz) {c : Value} (hx : VR G x c) :
    ∃ us, Holds G sz us es ∧ (∀ w', (Builtin.lenOf c).run P w' = .ok es.length w') ∧ ∀ w', w'.heap = w.heap → (Builtin.firstCells sz es.length c).run P w' = .ok us.toArray w' := by
  unfold newOf at h
  split at h
  · rename_i b
    cases h
    obtain ⟨s, rfl, hs⟩ := hx.p_inv.str_inv
    have hlen : ((toBytes b).map V.p).length = s.size := by rw [size_data, hs]; simp [toBytes]
    refine ⟨s.data.toList.map fun b => .int .u8 b.toNat, ⟨?_, hsz, ?_⟩, fun w' => ?_, fun w' _ => ?_⟩
    · rw [hs]
      by_cases hb : b = []
      · subst hb; simp [toBytes]
      · obtain ⟨a, b', rfl⟩ := List.exists_cons_of_ne_nil hb
        have := hsz 0 _ rfl
        simp [V.cells, Pv.cells] at this
        subst this
        simp [toBytes]
    · intro i e j y he hy
      have he' := hsz i e he
      simp only [toBytes, List.map_map, List.getElem?_map, Option.map_eq_some_iff, Function.comp_apply] at he
      obtain ⟨q, hq, rfl⟩ := he
      simp [V.cells, Pv.cells] at he' hy
      subst he'
      cases j with
      | zero =>
        simp at hy
        subst hy
        exact ⟨.int .u8 q.toNat, by simp [hs, hq], rfl, .p (.int _ _)⟩
      | succ j => simp at hy
    · simp [Builtin.lenOf, hlen]
    · rw [hlen]
      simp only [Builtin.firstCells, Sem.run_pure]
      congr 1
      have : s.extract 0 s.size = s := by
        apply ByteArray.ext
        apply Array.ext'
        rw [data_extract]
        simp
        exact List.take_of_length_le (by rw [size_data]; exact Nat.le_refl _)
      rw [this]
      apply Array.ext'
      simp
  · obtain ⟨a, cap, us, rfl, h1, h2⟩ := elems_sound (P := P) ok h h0 hsz hx
    exact ⟨us, h1, fun w' => by simp [Builtin.lenOf], h2⟩

def noInt (P : Program) (u : TypeId) : Prop := (∃ e, P.underlying u = some (.slice e)) ∨ P.underlying u = some .string

theorem run_append_none {ts : Array TypeId} {t u e : TypeId} {i : TypeInfo} (ht : ts[0]? = some t) (hu : ts[1]? = some u) (hs : P.underlying t = some (.slice e)) (hi : P.info? e = some i) (hn : noInt P u) (ty : TypeId)
    {base : Option Addr} {n cap : Nat} (hc : n ≤ cap) {x : Value} {w : World} (hl : (Builtin.lenOf x).run P w = .ok 0 w) (hf : (Builtin.firstCells i.size 0 x).run P w = .ok #[] w) :
    (Builtin.append_ ts ty #[.slice base n cap, x]).run P w = .ok (.slice base n cap) w := by
  unfold Builtin.append_
  rcases hn with ⟨d, hd⟩ | hd <;> cases base <;> simp [ht, hu, run_underlying hs, run_underlying hd, run_sizeOf' w hi, hl, hc, hf, storeCells]

theorem run_append_new {ts : Array TypeId} {t u e : TypeId} {i : TypeInfo} {z : Value} (ht : ts[0]? = some t) (hu : ts[1]? = some u) (hs : P.underlying t = some (.slice e)) (hi : P.info? e = some i) (hz : i.zero = some z) (hn : noInt P u) (ty : TypeId)
    {base : Option Addr} {n cap m : Nat} (hc : cap < n + m) {x : Value} {w : World} (hl : (Builtin.lenOf x).run P w = .ok m w) {olds news : List Value} (hold : (Builtin.firstCells i.size n (.slice base n cap)).run P w.drew = .ok olds.toArray w.drew)
    (hnew : (Builtin.firstCells i.size m x).run P w.drew = .ok news.toArray w.drew) (hb : (n + m) * i.bytes ≤ 140737488355328) (hm : n + m ≤ 9223372036854775807) :
    (Builtin.append_ ts ty #[.slice base n cap, x]).run P w =
      .ok (.slice (some ⟨w.heap.size, 0, none⟩) (n + m) (grownCap w (n + m) cap e)) (w.drew.alloc (.cells ((olds ++ news) ++ (Builtin.zeroCells z.cells (grownCap w (n + m) cap e - (n + m))).toList).toArray e)) := by
  have h1 : ¬ (n + m ≤ cap) := by omega
  have h2 : ¬ (9223372036854775807 < ((n : Int) + (m : Int))) := by omega
  have h3 := growslice_fits hc hb
  have h3' : ¬ (281474976710656 < Builtin.nextslicecap (n + m) cap * i.bytes) := by omega
  unfold Builtin.append_
  rcases hn with ⟨d, hd⟩ | hd
  all_goals
    simp [ht, hu, run_underlying hs, run_underlying hd, run_sizeOf' _ hi, run_typeInfo' _ hi, hl, h1, h2, h3', hold, hnew, Question.forced, zeroValue, hz, newRow, grownCap]
    try (congr 2; apply Array.ext'; simp [List.append_assoc])

theorem run_append_room' {ts : Array TypeId} {t u e : TypeId} {i : TypeInfo} (ht : ts[0]? = some t) (hu : ts[1]? = some u) (hs : P.underlying t = some (.slice e)) (hi : P.info? e = some i) (hn : noInt P u) (ty : TypeId)
    {b p : Nat} {n cap m : Nat} (hc : n + m ≤ cap) {x : Value} {w : World} {k : Array Value} {T : TypeId} (hk : w.heap[b]? = some (.cells k T (0, 0))) (hl : (Builtin.lenOf x).run P w = .ok m w) {news : List Value}
    (hnew : (Builtin.firstCells i.size m x).run P w = .ok news.toArray w) (hin : p + n * i.size + news.length ≤ k.size) (h1 : ∀ v ∈ news, v.oneCell' = true) :
    (Builtin.append_ ts ty #[.slice (some ⟨b, p, none⟩) n cap, x]).run P w =
      .ok (.slice (some ⟨b, p, none⟩) (n + m) cap) (w.setRow b (over k.toList (p + n * i.size) news).toArray) := by
  have hst := run_storeCells_at P b (p + n * i.size) T news 0 k w hk (by simpa using hin) h1
  simp only [Nat.add_zero] at hst
  unfold Builtin.append_
  rcases hn with ⟨d, hd⟩ | hd <;> simp [ht, hu, run_underlying hs, run_underlying hd, run_sizeOf' _ hi, hl, hc, hnew, Addr.add_lit, hst, over]

theorem drewOK {G : Gh} {w : World} {H : Hp} (ok : GOK G w H) : GOK G w.drew H ∧ Ext H.length G H w G H w.drew :=
  grow_same ok rfl rfl rfl (Nat.le_refl _) (fun _ _ => rfl)

theorem holds_at {G G' : Gh} {sz : Nat} {us : List Value} {es : List V} (h : Holds G sz us es) (hv : ∀ v c, VR G v c → VR G' v c) : Holds G' sz us es :=
  ⟨h.len, h.size, fun i e j y he hy => let ⟨u, a, b, c⟩ := h.cell i e j y he hy; ⟨u, a, b, hv _ _ c⟩⟩

theorem newArr {G : Gh} {w : World} {H : Hp} (ok : GOK G w H) {sz : Nat} (h0 : 0 < sz) {us : List Value} {es : List V} (hh : Holds G sz us es) (rest : List Value) (T : TypeId) (cap : Nat) (hcap : es.length ≤ cap) (hrest : cap * sz ≤ us.length + rest.length) :
    ∃ G', GOK G' (w.alloc (.cells (us ++ rest).toArray T)) (H ++ [.arr 0 0 sz es]) ∧ Ext H.length G H w G' (H ++ [.arr 0 0 sz es]) (w.alloc (.cells (us ++ rest).toArray T)) ∧
      VR G' (.arr H.length 0 sz 0 es.length) (.slice (some ⟨w.heap.size, 0, none⟩) es.length cap) := by
  obtain ⟨G', h1, h2, h3, h4⟩ := newOb ok (us ++ rest).toArray T (.arr 0 0 sz es) 0 (.inr ⟨0, sz, es, rfl⟩) (fun G' hC hvr hpl hno => by
    refine ⟨w.heap.size, 0, (us ++ rest).toArray, T, hpl, heap_alloc_at w _, h0, by simp [hh.len], hh.size, fun i e j y he hy => ?_, fun j _ => ?_, hno⟩
    · obtain ⟨u, a, b, c⟩ := hh.cell i e j y he hy
      refine ⟨u, ?_, b, hvr _ _ c⟩
      simp only [List.getElem?_toArray, Nat.zero_add]
      rw [List.getElem?_append, if_pos (List.getElem?_eq_some_iff.1 a).1]
      exact a
    · rw [hC]
      cases hhh : G.C w.heap.size j with
      | none => rfl
      | some v => exact absurd (stable_lt ok hhh) (by omega))
  refine ⟨G', h1, h2, ?_⟩
  have := VR.arr (G := G') (id := H.length) (ver := 0) (sz := sz) (off := 0) (len := es.length) (cap := cap) h3 hcap (by simp; omega)
  simpa using this

theorem roomy_parts {n bytes : Nat} (h : roomy n bytes = true) : n * bytes ≤ 70368744177664 ∧ n ≤ 70368744177664 := by
  unfold roomy at h
  simp only [Bool.and_eq_true] at h
  exact ⟨Nat.le_of_ble_eq_true h.1, Nat.le_of_ble_eq_true h.2⟩

theorem grownCap_ge' (w : World) (need old : Nat) (e : TypeId) : need ≤ grownCap w need old e := grownCap_ge w need old e

theorem appendV_sound {ts : Array TypeId} {t u : TypeId} (ht : ts[0]? = some t) (hu : ts[1]? = some u) (hn : noInt P u) (ty : TypeId) {ti : TI} (hti : tiOf P t = some ti)
    {G : Gh} {w : World} {H H' : Hp} (ok : GOK G w H) {s x r : V} (h : appendV ti H s x = some (r, H')) {c d : Value} (hs : VR G s c) (hx : VR G x d) :
    ∃ v w' G', (Builtin.append_ ts ty #[c, d]).run P w = .ok v w' ∧ VR G' r v ∧ GOK G' w' H' ∧ Ext H.length G H w G' H' w' := by
  have hk := ti_kd hti
  unfold appendV at h
  split at h
  · rename_i e esz eb ea u8 hkd
    rw [hkd] at hk
    obtain ⟨hsl, ⟨i, hi, hisz, hib, z, hz, hzs⟩, -⟩ := hk
    subst hisz
    subst hib
    split at h
    · cases h
    · rename_i new hnew
      have hnew' : newOf H x = some new := hnew
      clear hnew
      split at h
      · -- nothing is appended
        have hsrc : ∃ us : List Value, (Builtin.lenOf d).run P w = .ok 0 w ∧ (Builtin.firstCells i.size 0 d).run P w = .ok #[] w := by
          unfold newOf at hnew'
          split at hnew'
          · rename_i b
            obtain ⟨s', rfl, hs'⟩ := hx.p_inv.str_inv
            have hb : b = [] := by cases b <;> simp [toBytes] at hnew' ⊢
            subst hb
            have : s'.size = 0 := by rw [size_data, hs']; rfl
            refine ⟨[], by simp [Builtin.lenOf, this], ?_⟩
            simp only [Builtin.firstCells, Sem.run_pure]
            congr 1
            apply Array.ext'
            simp [hs']
          · have hsl0 : ∃ a cap, d = .slice a 0 cap := by
              unfold elems at hnew'
              split at hnew'
              · rename_i l
                cases hx.p_inv with
                | sl f hc hex hsz hC hR =>
                  simp at hnew'
                  subst hnew'
                  exact ⟨_, _, rfl⟩
                | slNil => exact ⟨_, _, rfl⟩
              · cases hx.p_inv; exact ⟨_, _, rfl⟩
              · split at hnew'
                · split at hnew'
                  · have := cut_length hnew'
                    simp at this
                    subst this
                    cases hx
                    exact ⟨_, _, rfl⟩
                  · cases hnew'
                · cases hnew'
              · cases hnew'
            obtain ⟨a, cap, rfl⟩ := hsl0
            refine ⟨[], by simp [Builtin.lenOf], ?_⟩
            cases a <;> simp [Builtin.firstCells, loadCells, loadCellsFrom]
        obtain ⟨-, hl0, hf0⟩ := hsrc
        have fin : ∀ base n cap, c = .slice base n cap → n ≤ cap → r = s → H' = H → ∃ v w' G', (Builtin.append_ ts ty #[c, d]).run P w = .ok v w' ∧ VR G' r v ∧ GOK G' w' H' ∧ Ext H.length G H w G' H' w' := by
          rintro base n cap rfl hnc rfl rfl
          exact ⟨_, w, G, run_append_none ht hu hsl hi hn ty hnc hl0 hf0, hs, ok, Ext.refl _ _ _ _⟩
        split at h
        · cases h
          cases hs.p_inv with
          | sl f hc hex hsz hC hR => exact fin _ _ _ rfl hc rfl rfl
          | slNil => exact fin _ _ _ rfl (Nat.le_refl _) rfl rfl
        · cases h
          cases hs.p_inv
          exact fin _ _ _ rfl (Nat.le_refl _) rfl rfl
        · cases h
          cases hs with
          | arr hpl hl hb => exact fin _ _ _ rfl hl rfl rfl
        · cases h
      · rename_i hd0 tl0
        split at h
        · cases h
        · rename_i hall
          simp only [Bool.and_eq_true] at hall
          have h0 : 0 < i.size := Nat.le_of_ble_eq_true hall.1
          have hsz : ∀ (j : Nat) e', (hd0 :: tl0)[j]? = some e' → e'.cells.length = i.size := fun j e' he' => by
            have := List.all_eq_true.1 hall.2 e' (List.mem_of_getElem? he')
            exact beq_eq this
          obtain ⟨us, hus, hlen, hfirst⟩ := src_sound (P := P) ok hnew' h0 hsz hx
          have hpos : 0 < (hd0 :: tl0).length := by simp
          generalize hnn : hd0 :: tl0 = new at *
          -- where a new block is made
          have fresh : ∀ (base : Option Addr) (n cap : Nat) (olds : List Value) (oldE : List V), c = .slice base n cap → Holds G i.size olds oldE → oldE.length = n → cap < n + new.length →
              (∀ w', w'.heap = w.heap → (Builtin.firstCells i.size n c).run P w' = .ok olds.toArray w') → roomy (n + new.length) i.bytes = true →
              (Builtin.append_ ts ty #[c, d]).run P w = .ok (.slice (some ⟨w.heap.size, 0, none⟩) (n + new.length) (grownCap w (n + new.length) cap e))
                (w.drew.alloc (.cells ((olds ++ us) ++ (Builtin.zeroCells z.cells (grownCap w (n + new.length) cap e - (n + new.length))).toList).toArray e)) := by
            rintro base n cap olds oldE rfl hh hl hc hfo hroom
            obtain ⟨r1, r2⟩ := roomy_parts hroom
            exact run_append_new ht hu hsl hi hz hn ty hc (hlen w) (hfo w.drew rfl) (hfirst w.drew rfl) (by omega) (by omega)
          have hrest : ∀ n cap (olds : List Value) (oldE : List V), Holds G i.size olds oldE → oldE.length = n → grownCap w (n + new.length) cap e * i.size ≤ (olds ++ us).length + (Builtin.zeroCells z.cells (grownCap w (n + new.length) cap e - (n + new.length))).toList.length := by
            intro n cap olds oldE hh hl
            have hge := grownCap_ge w (n + new.length) cap e
            simp only [List.length_append, hh.len, hus.len, hl, Array.length_toList, size_zeroCells, hzs]
            rw [← Nat.add_mul, ← Nat.add_mul]
            exact Nat.mul_le_mul_right _ (by omega)
          split at h
          · -- nil
            split at h
            · rename_i hroom
              cases h
              cases hs.p_inv
              have hh0 : Holds G i.size [] [] := ⟨by simp, by simp, by simp⟩
              have hrun := fresh none 0 0 [] [] rfl hh0 rfl (by omega) (fun w' _ => by simp [Builtin.firstCells]) (by simpa using hroom)
              obtain ⟨ok1, ext1⟩ := drewOK ok
              have hrr := hrest 0 0 [] [] hh0 rfl
              simp only [Nat.zero_add] at hrun hrr
              obtain ⟨G', g1, g2, g3⟩ := newArr ok1 h0 (hh0.append hus) _ e (grownCap w new.length 0 e) (by simpa using grownCap_ge w new.length 0 e) hrr
              simp only [List.nil_append] at g1 g2 g3 hrun
              exact ⟨_, _, G', hrun, g3, g1, ext1.trans g2⟩
            · cases h
          · -- an exact slice
            rename_i sz l
            split at h
            · rename_i hroom
              simp only [Bool.and_eq_true] at hroom
              have hsz' := beq_eq hroom.2
              subst hsz'
              cases h
              have hel : elems H (.p (.sl i.size true l)) = some (l.map .p) := rfl
              have hcap : ∃ base, c = .slice base l.length l.length := by
                cases hs.p_inv with
                | sl f hc hex hsz hC hR => exact ⟨_, by rw [hex rfl]⟩
                | slNil => exact ⟨_, rfl⟩
              obtain ⟨base, rfl⟩ := hcap
              have hszl : ∀ (j : Nat) e', (l.map V.p)[j]? = some e' → e'.cells.length = i.size := fun j e' he' => by
                simp only [List.getElem?_map, Option.map_eq_some_iff] at he'
                obtain ⟨q, hq, rfl⟩ := he'
                simp only [V.cells, List.length_map]
                cases hs.p_inv with
                | sl f hc hex hsz hC hR => exact hsz j q hq
                | slNil => simp at hq
              obtain ⟨a, cp, olds, hce, hh, hfo⟩ := elems_sound (P := P) ok hel h0 hszl hs
              simp only [List.length_map] at hce hfo
              have hrun := fresh base l.length l.length olds (l.map .p) rfl hh (by simp) (by omega) hfo hroom.1
              obtain ⟨ok1, ext1⟩ := drewOK ok
              obtain ⟨G', g1, g2, g3⟩ := newArr ok1 h0 (hh.append hus) _ e (grownCap w (l.length + new.length) l.length e) (by simpa using grownCap_ge w (l.length + new.length) l.length e) (hrest _ _ _ _ hh (by simp))
              simp only [List.length_append, List.length_map] at g3
              exact ⟨_, _, G', hrun, g3, g1, ext1.trans g2⟩
            · cases h
          · -- an object's slice
            rename_i id ver sz off len
            split at h
            · rename_i fz sz' es hat
              split at h
              · rename_i old hcut
                split at h
                · rename_i hcond
                  simp only [Bool.and_eq_true] at hcond
                  obtain ⟨⟨⟨c1, c2⟩, c3⟩, c4⟩ := hcond
                  have c1 := beq_eq c1
                  have c2 := beq_eq c2
                  have c3 := Nat.le_of_ble_eq_true c3
                  subst c1
                  subst c2
                  cases h
                  have hel : elems H (.arr id ver i.size off len) = some old := by
                    simp only [elems, hat]
                    rw [show Nat.beq i.size i.size = true from Nat.beq_refl _]
                    exact hcut
                  unfold arrAt at hat
                  split at hat
                  · rename_i v f' sz3 as' hid
                    split at hat
                    · rename_i hv
                      cases hat
                      have hv' := beq_eq hv
                      subst hv'
                      obtain ⟨b, o, k, T, h1, h2, h3, h4, h5, h6, h7, h8⟩ := ok.obs id _ hid
                      have holdl := cut_length hcut
                      have hszo : ∀ (j : Nat) e', old[j]? = some e' → e'.cells.length = i.size := fun j e' he' => h5 _ e' (cut_at hcut he').1
                      obtain ⟨a, cp, olds, hce, hh, hfo⟩ := elems_sound (P := P) ok hel h0 hszo hs
                      have hbk : blk G id (.arr v fz i.size es) = some b := by simp [blk, h1]
                      cases hs with
                      | @arr _ _ _ _ _ b' o' bs cap hpl hlc hbb =>
                        rw [hpl] at h1
                        cases h1
                        obtain ⟨hcl, hcut'⟩ := cut_eq hcut
                        by_cases hroom : len + new.length ≤ cap
                        · -- in place
                          have hrow : len * i.size + new.length * i.size ≤ cap * i.size := by rw [← Nat.add_mul]; exact Nat.mul_le_mul_right _ hroom
                          have hin : o + off * i.size + len * i.size + us.length ≤ k.size := by rw [hus.len]; omega
                          have hrun := run_append_room' ht hu hsl hi hn ty hroom h2 (hlen w) (hfirst w rfl) hin (fun v hv => by
                            obtain ⟨j, hj⟩ := List.getElem?_of_mem hv
                            exact hus.one h0 hj)
                          have hin' : o + off * i.size + len * i.size + us.length ≤ k.toList.length := by simpa using hin
                          have hks : (over k.toList (o + off * i.size + len * i.size) us).toArray.size = k.size := by simp only [List.size_toArray]; rw [over_length hin']; simp
                          have hcells : ∀ j, (over k.toList (o + off * i.size + len * i.size) us).toArray[j]? = if o + off * i.size + len * i.size ≤ j ∧ j < o + off * i.size + len * i.size + us.length then us[j - (o + off * i.size + len * i.size)]? else k[j]? := by
                            intro j
                            simp only [List.getElem?_toArray]
                            rw [over_at hin']
                            simp
                          have hfo2 : fz * i.size ≤ off * i.size + len * i.size := by rw [← Nat.add_mul]; exact Nat.mul_le_mul_right _ c3
                          obtain ⟨g1, g2⟩ := turnOb (w' := w.setRow b (over k.toList (o + off * i.size + len * i.size) us).toArray) (ob' := .arr (v + 1) (fz - off) i.size (old ++ new)) ok hid (ver := v + 1) (b := b) (o := o + off * i.size) (n := k.size) (.inl (h8 _ (by omega))) rfl rfl rfl (by simp)
                            (fun c hc hne => setRow_other w b c _ (fun e => hne (by rw [e]; exact hbk))) (.inl hbk)
                            (fun c j v' hc hv => by
                              rw [hbk] at hc; cases hc
                              have hst := ok.stable b j v' hv
                              have hj : j < o + fz * i.size := by
                                rcases Nat.lt_or_ge j (o + fz * i.size) with h | h
                                · exact h
                                · rw [h7 j h] at hv; cases hv
                              have hnew := setRow_heap w b k (over k.toList (o + off * i.size + len * i.size) us).toArray T (0, 0) h2
                              simp only [World.cell?, h2, hnew, Option.isSome_none, Bool.false_eq_true, if_false] at hst ⊢
                              rw [hcells, if_neg (by omega)]
                              exact hst)
                            (by simp [blk, Gh.at])
                            (fun hvr => by
                              refine ⟨b, o + off * i.size, _, T, by rw [hks]; simp [Gh.at], setRow_heap w b k _ T (0, 0) h2, h0, ?_, ?_, ?_, ?_, ?_⟩
                              · rw [hks]; simp only [List.length_append, holdl, Nat.add_mul]; omega
                              · intro m e' he'
                                rw [List.getElem?_append] at he'
                                split at he'
                                · exact hszo _ _ he'
                                · exact hsz _ _ he'
                              · intro m e' j y he' hy
                                rw [hcells]
                                rw [List.getElem?_append] at he'
                                split at he'
                                · rename_i hm
                                  have hjl : j < i.size := by rw [← hszo m e' he']; exact (List.getElem?_eq_some_iff.1 hy).1
                                  have hmm : (m + 1) * i.size ≤ len * i.size := Nat.mul_le_mul_right _ (by omega)
                                  rw [Nat.add_mul] at hmm
                                  rw [if_neg (by omega)]
                                  obtain ⟨u', a1, a2, a3⟩ := h6 _ e' j y (cut_at hcut he').1 hy
                                  refine ⟨u', ?_, a2, hvr _ _ a3⟩
                                  rw [← a1]
                                  congr 1
                                  rw [Nat.add_mul]; omega
                                · rename_i hm
                                  have hjl : j < i.size := by rw [← hsz _ e' he']; exact (List.getElem?_eq_some_iff.1 hy).1
                                  obtain ⟨u', a1, a2, a3⟩ := hus.cell _ e' j y he' hy
                                  have hmm : m * i.size = len * i.size + (m - old.length) * i.size := by rw [← Nat.add_mul]; congr 1; omega
                                  have hlt := (List.getElem?_eq_some_iff.1 a1).1
                                  rw [if_pos (by omega)]
                                  refine ⟨u', ?_, a2, hvr _ _ a3⟩
                                  rw [← a1]
                                  congr 1
                                  omega
                              · intro j hj
                                show G.C b j = none
                                refine h7 j ?_
                                have : fz * i.size ≤ off * i.size + (fz - off) * i.size := by
                                  rw [← Nat.add_mul]; exact Nat.mul_le_mul_right _ (by omega)
                                omega
                              · intro v' hv'
                                simp only [Gh.at]
                                rw [if_neg (by omega)]
                                exact h8 v' (by omega))
                          refine ⟨_, _, _, hrun, ?_, g1, g2⟩
                          have := VR.arr (G := G.at id (v + 1) (b, o + off * i.size, k.size)) (id := id) (ver := v + 1) (sz := i.size) (off := 0) (len := len + new.length) (cap := cap) (b := b) (o := o + off * i.size) (bs := k.size) (by simp [Gh.at]) hroom (by omega)
                          simpa using this
                        · -- a new block
                          have hrun := fresh _ len cap olds old rfl hh holdl (by omega) (by rw [← holdl]; exact hfo) c4
                          obtain ⟨ok1, ext1⟩ := drewOK ok
                          have hrr := hrest len cap olds old hh holdl
                          have hhn := hh.append hus
                          have hge := grownCap_ge w (len + new.length) cap e
                          generalize hK : (olds ++ us ++ (Builtin.zeroCells z.cells (grownCap w (len + new.length) cap e - (len + new.length))).toList).toArray = K at *
                          have hKs : K.size = (olds ++ us).length + (Builtin.zeroCells z.cells (grownCap w (len + new.length) cap e - (len + new.length))).toList.length := by rw [← hK]; simp; omega
                          have hKc : ∀ (j : Nat) u', (olds ++ us)[j]? = some u' → K[j]? = some u' := by
                            intro j u' hj
                            rw [← hK]
                            simp only [List.getElem?_toArray]
                            rw [List.getElem?_append, if_pos (List.getElem?_eq_some_iff.1 hj).1]
                            exact hj
                          obtain ⟨g1, g2⟩ := turnOb (w' := w.drew.alloc (.cells K e)) (ob' := .arr (v + 1) (fz - off) i.size (old ++ new)) ok1 hid (ver := v + 1) (b := w.heap.size) (o := 0) (n := K.size) (.inl (h8 _ (by omega))) rfl rfl rfl (by simp)
                            (fun c hc hne => heap_alloc_lt w.drew _ hc) (.inr (Nat.le_refl _))
                            (fun c j v' hc hv => by
                              rw [World.cell?_of_block (w := w.drew) (heap_alloc_lt w.drew _ (stable_lt ok1 hv))]
                              exact ok1.stable c j v' hv)
                            (by simp [blk, Gh.at])
                            (fun hvr => by
                              refine ⟨w.heap.size, 0, K, e, by simp [Gh.at], heap_alloc_at w.drew _, h0, ?_, hhn.size, ?_, ?_, ?_⟩
                              · rw [hKs, ← hhn.len]; omega
                              · intro m e' j y he' hy
                                obtain ⟨u', a1, a2, a3⟩ := hhn.cell m e' j y he' hy
                                exact ⟨u', by simpa using hKc _ u' a1, a2, hvr _ _ a3⟩
                              · intro j hj
                                show G.C w.heap.size j = none
                                cases hhh : G.C w.heap.size j with
                                | none => rfl
                                | some v => exact absurd (stable_lt ok hhh) (by omega)
                              · intro v' hv'
                                simp only [Gh.at]
                                rw [if_neg (by omega)]
                                exact h8 v' (by omega))
                          refine ⟨_, _, _, hrun, ?_, g1, ext1.trans g2⟩
                          have := VR.arr (G := G.at id (v + 1) (w.heap.size, 0, K.size)) (id := id) (ver := v + 1) (sz := i.size) (off := 0) (len := len + new.length) (cap := grownCap w (len + new.length) cap e) (b := w.heap.size) (o := 0) (bs := K.size) (by simp [Gh.at]) hge (by rw [hKs]; omega)
                          simpa using this
                    · cases hat
                  · cases hat
                · cases h
              · cases h
            · cases h
          · cases h
  · cases h
end Go.AX
