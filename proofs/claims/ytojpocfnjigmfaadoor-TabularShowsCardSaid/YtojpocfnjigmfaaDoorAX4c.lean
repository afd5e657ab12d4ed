/-
  'AX' AND THE MODEL: slices, indexes, fields, literals.
-/
import Derived.Test.YtojpocfnjigmfaaDoorAX4b
import Derived.Laws.Tables
set_option linter.unusedVariables false
set_option linter.unusedSimpArgs false
namespace Go.AX
open Go
variable {P : Program}

theorem data_extract (s : ByteArray) (a b : Nat) : (s.extract a b).data.toList = (s.data.toList.drop a).take (b - a) := by
  simp [List.take_drop]
theorem beq_eq {a b : Nat} (h : Nat.beq a b = true) : a = b := Nat.eq_of_beq_eq_true h

theorem sliceV_sound {t : TypeId} {ti : TI} (hti : tiOf P t = some ti) {x : V} {lo hi mx : Option V} {r : V} (h : sliceV ti x lo hi mx = some r) {G : Gh} {c : Value} {lo' hi' mx' : Option Value}
    (hx : VR G x c) (h1 : VRo G lo lo') (h2 : VRo G hi hi') (h3 : VRo G mx mx') (w : World) :
    ∃ v, (Instr.sliceAt t c lo' hi' mx').run P w = .ok v w ∧ VR G r v := by
  have hk := ti_kd hti
  unfold sliceV at h
  split at h
  · rename_i s hkd
    rw [hkd] at hk
    simp only [kdSays] at hk
    obtain ⟨b, rfl, hb⟩ := hx.p_inv.str_inv
    split at h
    · cases h
    · split at h
      · rename_i l u m hbd
        cases h
        have hs : s.length = b.size := by rw [size_data, hb]
        rw [hs] at hbd
        cases mx' with
        | some c => exact h3.elim
        | none =>
          obtain ⟨e1, e2, e3, -, -⟩ := bounds_sound (P := P) (cap := b.size) hbd (Nat.le_refl _) h1 h2 (mx' := none) trivial false w
          refine ⟨.string (b.extract l u), ?_, .p (.str (by rw [data_extract, hb]))⟩
          unfold Instr.sliceAt
          simp only [Sem.run_bind, run_underlying hk, Result.andThen_ok]
          unfold Instr.slice
          simp only [Sem.run_bind, run_underlying hk, Result.andThen_ok, Option.isSome_none, Bool.false_eq_true, if_false, e1]
          simp
      · cases h
  · rename_i e esz eb ea u8 sz ex s hkd
    rw [hkd] at hk
    obtain ⟨hu, ⟨i, hinf, hisz, -⟩, -, -⟩ := hk
    split at h
    · rename_i l u m hsz hbd
      cases h
      have hsz' := beq_eq hsz
      subst hsz'
      have run : ∀ a cap, s.length ≤ cap → (Instr.sliceAt t (.slice a s.length cap) lo' hi' mx').run P w =
          .ok (.slice (if m.getD cap = l then a else a.map (·.add (l * sz))) (u - l) (m.getD cap - l)) w := by
        intro a cap hcap
        obtain ⟨e1, -, -, -, -⟩ := bounds_sound (P := P) (cap := cap) hbd hcap h1 h2 h3 true w
        unfold Instr.sliceAt
        simp only [Sem.run_bind, run_underlying hu, Result.andThen_ok]
        unfold Instr.slice
        simp only [Sem.run_bind, run_underlying hu, Result.andThen_ok, e1, run_sizeOf' w hinf, hisz, Sem.run_pure]
      obtain ⟨-, e2, e3, e4, e5⟩ := bounds_sound (P := P) (cap := s.length) hbd (Nat.le_refl _) h1 h2 h3 true w
      have hlen : ((s.drop l).take (u - l)).length = u - l := by simp; omega
      cases hx.p_inv with
      | @sl _ _ _ b o cap f hc hex hsz' hC hR =>
        refine ⟨_, run _ cap hc, .p ?_⟩
        have hmc : u ≤ m.getD cap := by
          cases m with
          | none => simp; omega
          | some x => simpa using (e4 x rfl).1
        have hgen : ∀ o', (m.getD cap = l ∨ o' = o + l * sz) → PR G.C (.sl sz (match m with | some m => Nat.beq m u | none => ex && Nat.beq u s.length) ((s.drop l).take (u - l)))
            (.slice (some ⟨b, o', none⟩) ((s.drop l).take (u - l)).length (m.getD cap - l)) := by
          intro o' ho'
          refine .sl (fun i j => f (l + i) j) (by rw [hlen]; omega) ?_ ?_ ?_ ?_
          · intro hh
            rw [hlen]
            cases m with
            | none =>
              simp only [Bool.and_eq_true] at hh
              have := hex hh.1
              have h5 := beq_eq hh.2
              simp; omega
            | some x => simp only at hh; have := beq_eq hh; simp; omega
          · intro i x hix
            rw [List.getElem?_take] at hix
            split at hix
            · rw [List.getElem?_drop] at hix; exact hsz' _ x hix
            · cases hix
          · intro i x j y hix hy
            rw [List.getElem?_take] at hix
            split at hix
            · rename_i hiu
              rw [List.getElem?_drop] at hix
              rcases ho' with h' | rfl
              · omega
              · have := hC (l + i) x j y hix hy
                rw [Nat.add_mul, ← Nat.add_assoc] at this
                exact this
            · cases hix
          · intro i x j y hix hy
            rw [List.getElem?_take] at hix
            split at hix
            · rw [List.getElem?_drop] at hix; exact hR (l + i) x j y hix hy
            · cases hix
        by_cases hml : m.getD cap = l
        · rw [if_pos hml]
          have := hgen o (.inl hml)
          rw [hlen] at this
          exact this
        · rw [if_neg hml]
          simp only [Option.map_some, Addr.add_lit]
          have := hgen _ (.inr rfl)
          rw [hlen] at this
          exact this
      | slNil =>
        have hl0 : l = 0 ∧ u = 0 := by simp at e3; omega
        obtain ⟨rfl, rfl⟩ := hl0
        have hm0 : m.getD 0 = 0 := by
          cases m with
          | none => rfl
          | some x => have := e4 x rfl; simp at this; simp; omega
        refine ⟨_, run _ 0 (by simp), .p ?_⟩
        rw [hm0]
        simp
        exact .slNil
    · cases h
  · rename_i hkd
    rw [hkd] at hk
    obtain ⟨hu, ⟨i, hinf, hisz, -⟩, -, -⟩ := hk
    split at h
    · rename_i q hbd
      obtain ⟨l, u, m⟩ := q
      cases h
      cases hx.p_inv
      obtain ⟨e1, e2, e3, e4, e5⟩ := bounds_sound (P := P) (cap := 0) hbd (Nat.le_refl _) h1 h2 h3 true w
      have hl0 : l = 0 ∧ u = 0 := by omega
      obtain ⟨rfl, rfl⟩ := hl0
      have hm0 : m.getD 0 = 0 := by
        cases m with
        | none => rfl
        | some x => have := e4 x rfl; simp; omega
      refine ⟨.slice none 0 0, ?_, .p .nils⟩
      unfold Instr.sliceAt
      simp only [Sem.run_bind, run_underlying hu, Result.andThen_ok]
      unfold Instr.slice
      simp only [Sem.run_bind, run_underlying hu, Result.andThen_ok, e1, run_sizeOf' w hinf, hisz, Sem.run_pure, hm0]
      simp
    · cases h
  · rename_i e esz eb ea u8 id ver sz off len hkd
    rw [hkd] at hk
    obtain ⟨hu, ⟨i, hinf, hisz, -⟩, -, -⟩ := hk
    split at h
    · cases h
    · split at h
      · rename_i l u m hsz hbd
        have hsz' := beq_eq hsz
        subst hsz'
        cases mx' with
        | some c => exact h3.elim
        | none =>
          cases hx with
          | @arr _ _ _ _ _ b o bs cap hpl hlc hb =>
            obtain ⟨e1, e2, e3, e4, e5⟩ := bounds_sound (P := P) (cap := cap) hbd hlc h1 h2 (mx' := none) trivial true w
            have hm : m = none := e5.2 rfl
            subst hm
            have run : (Instr.sliceAt t (.slice (some ⟨b, o + off * sz, none⟩) len cap) lo' hi' none).run P w =
                .ok (.slice (some (if cap = l then ⟨b, o + off * sz, none⟩ else ⟨b, o + off * sz + l * sz, none⟩)) (u - l) (cap - l)) w := by
              unfold Instr.sliceAt
              simp only [Sem.run_bind, run_underlying hu, Result.andThen_ok]
              unfold Instr.slice
              simp only [Sem.run_bind, run_underlying hu, Result.andThen_ok, e1, run_sizeOf' w hinf, hisz, Sem.run_pure, Option.getD_none, Option.map_some, Addr.add_lit]
              split <;> rfl
            refine ⟨_, run, ?_⟩
            split at h
            · rename_i hz
              cases h
              simp only [Bool.and_eq_true] at hz
              have hlu := beq_eq hz.1
              subst hlu
              have hnil : ∀ a, PR G.C (.sl sz false []) (.slice (some ⟨b, a, none⟩) (l - l) (cap - l)) := by
                intro a
                have := PR.sl (C := G.C) (sz := sz) (ex := false) (l := []) (b := b) (o := a) (cap := cap - l) (fun _ _ => .nilFunc) (by simp) (by simp) (by simp) (by simp) (by simp)
                simpa using this
              refine .p ?_
              split <;> exact hnil _
            · rename_i hz
              cases h
              have hne : ¬ (cap = l ∧ 0 < l) := by
                rintro ⟨rfl, h0⟩
                have hlu : u = cap := by omega
                subst hlu
                have b1 : Nat.beq u u = true := Nat.beq_refl u
                have b2 : Nat.blt 0 u = true := Nat.ble_eq_true_of_le h0
                rw [b1, b2] at hz; cases hz
              have hadd : o + off * sz + l * sz = o + (off + l) * sz := by rw [Nat.add_mul]; omega
              have hbb : o + (off + l) * sz + (cap - l) * sz ≤ bs := by
                have hlc2 : l ≤ cap := by omega
                have : l * sz + (cap - l) * sz = cap * sz := by rw [← Nat.add_mul]; congr 1; omega
                rw [← hadd]; omega
              have := VR.arr (G := G) (id := id) (ver := ver) (sz := sz) (off := off + l) (len := u - l) (cap := cap - l) hpl (by omega) hbb
              split
              · rename_i hcl
                have hl0 : l = 0 := by
                  rcases Nat.eq_zero_or_pos l with h0 | h0
                  · exact h0
                  · exact absurd ⟨hcl, h0⟩ hne
                subst hl0
                simpa using this
              · rw [hadd]; exact this
      · cases h
  · cases h

theorem indexV_sound {t : TypeId} {ti : TI} (hti : tiOf P t = some ti) {x y : V} {r : V} (h : indexV ti x y = some r) {G : Gh} {c d : Value} (hx : VR G x c) (hy : VR G y d) (w : World) :
    ∃ v, (Instr.index t c d).run P w = .ok v w ∧ VR G r v := by
  have hk := ti_kd hti
  unfold indexV at h
  split at h
  · rename_i s hkd
    rw [hkd] at hk
    simp only [kdSays] at hk
    obtain ⟨b, rfl, hb⟩ := hx.p_inv.str_inv
    split at h
    · rename_i i hi
      obtain ⟨⟨k, rfl⟩, hlt⟩ := below_inv hi hy
      simp only [Option.map_eq_some_iff] at h
      obtain ⟨u, hu, rfl⟩ := h
      subst hb
      have hlt' : i < b.size := by rw [size_data]; exact hlt
      have hg : b[i]? = some u := by
        rw [ByteArray.getElem?_lt' b i hlt']
        rw [List.getElem?_eq_getElem hlt] at hu
        rw [← hu]
        rfl
      refine ⟨.int .u8 u.toNat, ?_, .p (.int _ _)⟩
      unfold Instr.index
      simp [asIntOf, run_underlying hk, hg]
    · cases h
  · rename_i n esz ea cs hkd
    rw [hkd] at hk
    obtain ⟨e, hu, ⟨ie, hie, hsz⟩, hea, ⟨de, hde⟩⟩ := hk
    split at h
    · rename_i i hi
      obtain ⟨⟨k, rfl⟩, hlt⟩ := below_inv hi hy
      simp only [Option.map_eq_some_iff] at h
      obtain ⟨q, hq, rfl⟩ := h
      cases hx.p_inv with
      | @agg _ c hs h1 h2 =>
        rw [hea, ← hsz] at hq
        obtain ⟨v, hv, hqv⟩ := partP_sound ⟨hs, h2⟩ h1 hie hde hq w
        refine ⟨v, ?_, .p hqv⟩
        unfold Instr.index
        have hb : (0 : Int) ≤ (i : Int) ∧ (i : Int) < (n : Int) := by omega
        simp only [asIntOf, Sem.run_bind, Sem.run_pure, Result.andThen_ok, run_underlying hu, if_pos hb, run_sizeOf' w hie, Int.toNat_natCast, hv]
    · cases h
  · cases h

theorem indexAddrV_sound {t : TypeId} {ti : TI} (hti : tiOf P t = some ti) {x y : V} {r : V} (h : indexAddrV ti x y = some r) {G : Gh} {c d : Value} (hx : VR G x c) (hy : VR G y d) (w : World) :
    ∃ v, (Instr.indexAt t c d).run P w = .ok v w ∧ VR G r v := by
  have hk := ti_kd hti
  unfold indexAddrV at h
  split at h
  · rename_i e esz eb ea u8 sz ex l hkd
    rw [hkd] at hk
    obtain ⟨hu, ⟨ie, hie, hsz, -⟩, -, -⟩ := hk
    split at h
    · rename_i i hse hi
      have hse' := beq_eq hse
      subst hse'
      obtain ⟨⟨k, rfl⟩, hlt⟩ := below_inv hi hy
      simp only [Option.map_eq_some_iff] at h
      obtain ⟨q, hq, rfl⟩ := h
      have hb : (0 : Int) ≤ (i : Int) ∧ (i : Int) < (l.length : Int) := by omega
      cases hx.p_inv with
      | @sl _ _ _ b o cap f hc hex hsz' hC hR =>
        refine ⟨.pointer (some ⟨b, o + i * sz, none⟩), ?_, .p (.ep (f i) (fun j y hj => hC i q j y hq hj) (fun j y hj => hR i q j y hq hj))⟩
        unfold Instr.indexAt
        simp only [asIntOf, Sem.run_bind, Sem.run_pure, Result.andThen_ok, run_underlying hu, if_pos hb, run_sizeOf' w hie, hsz, Int.toNat_natCast, Addr.add_lit]
      | slNil => simp at hlt
    · cases h
  · rename_i e esz eb ea u8 id ver sz off len hkd
    rw [hkd] at hk
    obtain ⟨hu, ⟨ie, hie, hsz, -⟩, -, -⟩ := hk
    split at h
    · rename_i i hse hi
      have hse' := beq_eq hse
      subst hse'
      cases h
      obtain ⟨⟨k, rfl⟩, hlt⟩ := below_inv hi hy
      have hb : (0 : Int) ≤ (i : Int) ∧ (i : Int) < (len : Int) := by omega
      cases hx with
      | @arr _ _ _ _ _ b o bs cap hpl hlc hbb =>
        refine ⟨.pointer (some ⟨b, o + (off + i) * sz, none⟩), ?_, .ptr hpl⟩
        unfold Instr.indexAt
        simp only [asIntOf, Sem.run_bind, Sem.run_pure, Result.andThen_ok, run_underlying hu, if_pos hb, run_sizeOf' w hie, hsz, Int.toNat_natCast, Addr.add_lit]
        rw [Nat.add_mul, ← Nat.add_assoc]
    · cases h
  · rename_i n esz ea cs hkd
    rw [hkd] at hk
    obtain ⟨e, hu, ⟨ie, hie, hsz⟩, hea, -⟩ := hk
    split at h
    · rename_i i hi
      obtain ⟨⟨k, rfl⟩, hlt⟩ := below_inv hi hy
      have hb : (0 : Int) ≤ (i : Int) ∧ (i : Int) < (n : Int) := by omega
      simp only [Option.map_eq_some_iff] at h
      obtain ⟨q, hq, rfl⟩ := h
      cases hx.p_inv with
      | @ep _ b o f hC hR =>
        refine ⟨.pointer (some ⟨b, o + i * esz, none⟩), ?_, .p (.ep (fun j => f (i * esz + j)) (fun j y hj => ?_) (fun j y hj => hR _ y (cut_at hq hj).1))⟩
        · unfold Instr.indexAt
          simp only [asIntOf, Sem.run_bind, Sem.run_pure, Result.andThen_ok, run_underlying hu, if_pos hb, run_sizeOf' w hie, hsz, Int.toNat_natCast, Addr.add_lit, Instr.sureAddr]
        · rw [Nat.add_assoc]; exact hC _ y (cut_at hq hj).1
    · cases h
  · rename_i n esz ea id ver off hkd
    rw [hkd] at hk
    obtain ⟨e, hu, ⟨ie, hie, hsz⟩, hea, -⟩ := hk
    split at h
    · rename_i i hi
      obtain ⟨⟨k, rfl⟩, hlt⟩ := below_inv hi hy
      have hb : (0 : Int) ≤ (i : Int) ∧ (i : Int) < (n : Int) := by omega
      cases h
      cases hx with
      | @ptr _ _ _ b o bs hpl =>
        refine ⟨.pointer (some ⟨b, o + (off + i * esz), none⟩), ?_, .ptr hpl⟩
        unfold Instr.indexAt
        simp only [asIntOf, Sem.run_bind, Sem.run_pure, Result.andThen_ok, run_underlying hu, if_pos hb, run_sizeOf' w hie, hsz, Int.toNat_natCast, Addr.add_lit, Instr.sureAddr]
        rw [Nat.add_assoc]
    · cases h
  · cases h

theorem field_at {fs' : Array Field} {fs : List FI} (h : fisOf P fs'.toList = some fs) {j : Nat} {fi : FI} (hj : fs[j]? = some fi) :
    ∃ f i d, fs'[j]? = some f ∧ P.info? f.type = some i ∧ i.size = fi.size ∧ f.offset = fi.off ∧ aggOf P f.type = fi.agg ∧ P.underlying f.type = some d := by
  obtain ⟨f, hf, hfi⟩ := fi_at h j fi hj
  obtain ⟨i, d, h1, h2, h3, h4, h5⟩ := fi_parts hfi
  exact ⟨f, i, d, by simpa using hf, h1, h2, h3, h4, h5⟩

theorem fieldAddrV_sound {t : TypeId} {ti : TI} (hti : tiOf P t = some ti) {x : V} {j : Nat} {r : V} (h : fieldAddrV ti x j = some r) {G : Gh} {c : Value} (hx : VR G x c) (w : World) :
    ∃ v, (Instr.fieldAt t c j).run P w = .ok v w ∧ VR G r v := by
  have hk := ti_kd hti
  unfold fieldAddrV at h
  split at h
  · rename_i fs hkd
    rw [hkd] at hk
    obtain ⟨fs', hu, hfs⟩ := hk
    split at h
    · rename_i fi hfi
      obtain ⟨f, i, d, hf, hi, hsz, hoff, hag, hd⟩ := field_at hfs hfi
      split at h
      · cases h
      · rename_i hz
        have hne : ¬ i.size = 0 := by
          rw [hsz]; intro h0; rw [h0] at hz; cases hz
        split at h
        · simp only [Option.map_eq_some_iff] at h
          obtain ⟨q, hq, rfl⟩ := h
          cases hx.p_inv with
          | @ep _ b o g hC hR =>
            refine ⟨.pointer (some ⟨b, o + fi.off, none⟩), ?_, .p (.ep (fun j => g (fi.off + j)) (fun j y hj => by rw [Nat.add_assoc]; exact hC _ y (cut_at hq hj).1) (fun j y hj => hR _ y (cut_at hq hj).1))⟩
            unfold Instr.fieldAt
            simp only [Sem.run_bind, run_underlying hu, Result.andThen_ok, hf, Instr.sureAddr, Sem.run_pure, fieldPlace, run_sizeOf' w hi, if_neg hne, hoff, Addr.add_lit]
        · cases h
          cases hx with
          | @ptr _ _ _ b o bs hpl =>
            refine ⟨.pointer (some ⟨b, o + (_ + fi.off), none⟩), ?_, .ptr hpl⟩
            unfold Instr.fieldAt
            simp only [Sem.run_bind, run_underlying hu, Result.andThen_ok, hf, Instr.sureAddr, Sem.run_pure, fieldPlace, run_sizeOf' w hi, if_neg hne, hoff, Addr.add_lit]
            rw [Nat.add_assoc]
        · simp only [Option.map_eq_some_iff] at h
          obtain ⟨q, hq, rfl⟩ := h
          cases hx with
          | @ev _ b o g hC hR =>
            refine ⟨.pointer (some ⟨b, o + fi.off, none⟩), ?_, .ev (fun j => g (fi.off + j)) (fun j y hj => by rw [Nat.add_assoc]; exact hC _ y (cut_at hq hj).1) (fun j y hj => hR _ y (cut_at hq hj).1)⟩
            unfold Instr.fieldAt
            simp only [Sem.run_bind, run_underlying hu, Result.andThen_ok, hf, Instr.sureAddr, Sem.run_pure, fieldPlace, run_sizeOf' w hi, if_neg hne, hoff, Addr.add_lit]
        · cases h
    · cases h
  · cases h

theorem fieldV_sound {t : TypeId} {ti : TI} (hti : tiOf P t = some ti) {x : V} {j : Nat} {r : V} (h : fieldV ti x j = some r) {G : Gh} {c : Value} (hx : VR G x c) (w : World) :
    ∃ v, (Instr.field t c j).run P w = .ok v w ∧ VR G r v := by
  have hk := ti_kd hti
  unfold fieldV at h
  split at h
  · rename_i fs hkd
    rw [hkd] at hk
    obtain ⟨fs', hu, hfs⟩ := hk
    split at h
    · rename_i fi hfi
      obtain ⟨f, i, d, hf, hi, hsz, hoff, hag, hd⟩ := field_at hfs hfi
      split at h
      · simp only [Option.map_eq_some_iff] at h
        obtain ⟨q, hq, rfl⟩ := h
        cases hx.p_inv with
        | @agg _ c hs h1 h2 =>
          rw [← hag, ← hsz, ← hoff] at hq
          obtain ⟨v, hv, hqv⟩ := partP_sound ⟨hs, h2⟩ h1 hi hd hq w
          refine ⟨v, ?_, .p hqv⟩
          unfold Instr.field
          simp only [Sem.run_bind, run_underlying hu, Result.andThen_ok, hf, asAgg, Sem.run_pure, hv]
      · cases hx with
        | @agg _ c hs h1 h2 =>
          rw [← hag, ← hsz, ← hoff] at h
          obtain ⟨v, hv, hqv⟩ := partV_sound ⟨hs, h2⟩ h1 hi hd h w
          refine ⟨v, ?_, hqv⟩
          unfold Instr.field
          simp only [Sem.run_bind, run_underlying hu, Result.andThen_ok, hf, asAgg, Sem.run_pure, hv]
      · cases h
    · cases h
  · cases h

theorem extractV_sound {x : V} {j : Nat} {r : V} (h : extractV j x = some r) {G : Gh} {c : Value} (hx : VR G x c) (w : World) :
    ∃ v, (Instr.extract c j).run P w = .ok v w ∧ VR G r v := by
  unfold extractV at h
  split at h
  · simp only [Option.map_eq_some_iff] at h
    obtain ⟨q, hq, rfl⟩ := h
    cases hx.p_inv with
    | @tup _ c hs h2 =>
      have hlt : j < c.size := by rw [← hs]; exact (List.getElem?_eq_some_iff.1 hq).1
      have hc : c[j]? = some c[j] := Array.getElem?_eq_getElem hlt
      exact ⟨c[j], by simp [Instr.extract, hc], .p (h2 j q _ hq hc)⟩
  · cases hx with
    | @tup _ c hs h2 =>
      have hlt : j < c.size := by rw [← hs]; exact (List.getElem?_eq_some_iff.1 h).1
      have hc : c[j]? = some c[j] := Array.getElem?_eq_getElem hlt
      exact ⟨c[j], by simp [Instr.extract, hc], h2 j r _ h hc⟩
  · cases h

theorem lenV_sound {t : TypeId} {ti : TI} (hti : tiOf P t = some ti) {x : V} {n : Nat} (h : lenV ti x = some n) {G : Gh} {c : Value} (hx : VR G x c) (ts : Array TypeId) (ht : ts[0]? = some t) (ty : TypeId) (w : World) :
    (Builtin.len_ ts ty #[c]).run P w = .ok (.int .i64 n) w := by
  have hk := ti_kd hti
  unfold lenV at h
  split at h
  · obtain ⟨b, rfl, hb⟩ := hx.p_inv.str_inv
    split at h
    · rename_i hkd
      rw [hkd] at hk
      simp only [kdSays] at hk
      cases h
      have : (b.size : Int) = (‹List UInt8›.length : Int) := by rw [size_data, hb]
      simp [Builtin.len_, ht, run_underlying hk, goInt, this]
    · cases h
  · split at h
    · rename_i hkd
      rw [hkd] at hk
      obtain ⟨hu, -⟩ := hk
      cases h
      cases hx.p_inv <;> simp [Builtin.len_, ht, run_underlying hu, goInt]
    · cases h
  · split at h
    · rename_i hkd
      rw [hkd] at hk
      obtain ⟨hu, -⟩ := hk
      cases h
      cases hx.p_inv
      simp [Builtin.len_, ht, run_underlying hu, goInt]
    · cases h
  · split at h
    · rename_i hkd
      rw [hkd] at hk
      obtain ⟨hu, -⟩ := hk
      cases h
      cases hx
      simp [Builtin.len_, ht, run_underlying hu, goInt]
    · cases h
  · split at h
    · rename_i hkd
      rw [hkd] at hk
      obtain ⟨e, hu, -⟩ := hk
      cases h
      simp [Builtin.len_, ht, run_underlying hu, goInt]
    · cases h
  · split at h
    · rename_i hkd
      rw [hkd] at hk
      simp only [kdSays] at hk
      cases h
      cases hx.p_inv
      simp [Builtin.len_, ht, run_underlying hk, goInt]
    · cases h
  · cases h

theorem makeFuncV_sound {fn : Fn} {a b : List V} {r : V} (h : makeFuncV fn a b = some r) {G : Gh} {a' b' : Array Value} (ha : VRs G a a') (hb : VRs G b b') (w : World) :
    ∃ v, (Instr.makeFunc fn a' b').run P w = .ok v w ∧ VR G r v := by
  unfold makeFuncV at h
  split at h
  · split at h
    · rename_i x y h1 h2
      cases h
      have p1 := ha.toP h1
      have p2 := hb.toP h2
      exact ⟨_, rfl, .p (.fn p1.1 p2.1 p1.2 p2.2)⟩
    · cases h
      exact ⟨_, rfl, .fn ha.1 hb.1 ha.2 hb.2⟩
  · cases h
end Go.AX
