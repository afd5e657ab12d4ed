/-
  'AX' AND THE MODEL: a region.
-/
import Derived.Test.YtojpocfnjigmfaaDoorAX7
set_option linter.unusedVariables false
set_option linter.unusedSimpArgs false
namespace Go.AX
open Go
variable {P : Program}

theorem opRun_sound {cx : Cx} (hT : TOK P cx.T) {call : CallF} (hcall : CallOK P cx call) {h : Nat} {H H' : Hp} {ρ : Operand → V} {o : Oper} {v : V} (heq : opRun cx call h H ρ o = some (v, H')) {G : Gh} {w : World} (ok : GOK G w H) (gl : GlOK cx G)
    {a : Act} (hρ : ∀ x ∈ o.op.operands, VR G (ρ x) (a.eval x)) {next : Act → World → Prop} {Q : Exit → Act → World → Prop}
    (hnext : ∀ c G' w', VR G' v c → GOK G' w' H' → Ext H.length G H w G' H' w' → H.length ≤ H'.length → next (a.put o.dst c) w') : o.wp P a w next Q := by
  unfold opRun at heq
  split at heq
  · exact opV_sound hT hcall heq ok gl rfl hρ hnext
  · obtain ⟨G1, k1, k2, k3⟩ := freeze_sound (w := w) ρ o.op.operands.toList ok
    have hlen : ∀ (l : List Operand) (H : Hp), (l.foldl (fun H x => markCells H (ρ x)) H).length = H.length := by
      intro l
      induction l with
      | nil => intro H; rfl
      | cons x l ih => intro H; simp only [List.foldl_cons]; rw [ih, markCells_len]
    have hl := hlen o.op.operands.toList H
    refine opV_sound hT hcall heq k1 (gl.mono k2.mono) rfl (fun x hx => k3 x (by simpa using hx) _ (hρ x hx)) (fun c G' w' h1 h2 h3 h4 => hnext c G' w' h1 h2 (k2.chain h3 (by rw [hl]; exact Nat.le_refl _)) (by rw [← hl]; exact h4))

theorem builtin_zero {cx : Cx} {H H' : Hp} {b : Builtin} (hb : b = .len ∨ b = .min ∨ b = .max) {args : List V} {ts : Array TypeId} {v : V} (heq : builtinV cx H b args ts = some (v, H')) :
    H' = H ∧ ∀ H2, builtinV cx H2 b args ts = some (v, H2) := by
  rcases hb with rfl | rfl | rfl
  · unfold builtinV at heq ⊢
    cases args with
    | nil => simp at heq
    | cons x l =>
      cases l with
      | cons y l => simp at heq
      | nil =>
        simp only at heq ⊢
        split at heq
        · split at heq
          · cases heq; exact ⟨rfl, fun H2 => by simp_all⟩
          · cases heq
        · cases heq
  · unfold builtinV at heq ⊢
    simp only [Option.map_eq_some_iff] at heq ⊢
    obtain ⟨r, hr, he⟩ := heq
    cases he
    exact ⟨rfl, fun H2 => ⟨_, hr, rfl⟩⟩
  · unfold builtinV at heq ⊢
    simp only [Option.map_eq_some_iff] at heq ⊢
    obtain ⟨r, hr, he⟩ := heq
    cases he
    exact ⟨rfl, fun H2 => ⟨_, hr, rfl⟩⟩

theorem cls_zero {cx : Cx} {call : CallF} {h : Nat} {H H' : Hp} {ρ : Operand → V} {o : Oper} {v : V} (hc : cls h o.op = 0) (heq : opRun cx call h H ρ o = some (v, H')) :
    H' = H ∧ ∀ H2, opRun cx call h H2 ρ o = some (v, H2) := by
  have h4 : h < 4 ∧ (∀ t x, o.op = .load t x → h = 2) ∧ (∀ c, o.op = .call c → (∀ f, c.callee = .value f → h = 0) ∧ (∀ b, c.callee = .builtin b → (h < 3 ∧ (b = .len ∨ b = .min ∨ b = .max)) ∨ (h = 2 ∧ b = .append)) ∧ (∀ r m, c.callee ≠ .invoke r m)) := by
    cases hop : o.op with
    | load t x =>
      rw [hop] at hc
      simp only [cls] at hc
      split at hc
      · split at hc
        · rename_i h2
          exact ⟨by omega, fun _ _ _ => h2, fun c he => by cases he⟩
        · cases hc
      · cases hc
    | call c =>
      rw [hop] at hc
      simp only [cls] at hc
      refine ⟨?_, fun _ _ he => (by cases he), fun c' he => ?_⟩
      · (repeat' split at hc) <;> first | omega | cases hc
      · cases he
        refine ⟨fun f hf => ?_, fun b hb => ?_, fun r m hr => ?_⟩
        · rw [hf] at hc
          simp only at hc
          split at hc
          · assumption
          · cases hc
        · rw [hb] at hc
          cases b
          all_goals first | (simp only at hc; (repeat' split at hc) <;> first | (exact .inl ⟨by assumption, .inl rfl⟩) | (exact .inl ⟨by assumption, .inr (.inl rfl)⟩) | (exact .inl ⟨by assumption, .inr (.inr rfl)⟩) | (exact .inr ⟨by assumption, rfl⟩) | cases hc) | cases hc
        · rw [hr] at hc
          cases hc
    | alloc t => rw [hop] at hc; simp only [cls] at hc; split at hc <;> cases hc
    | box t x =>
      rw [hop] at hc
      simp only [cls] at hc
      split at hc
      · exact ⟨by assumption, fun _ _ he => (by cases he), fun c he => (by cases he)⟩
      · cases hc
    | makeSlice t x y => rw [hop] at hc; simp only [cls] at hc; split at hc <;> cases hc
    | store t x y => rw [hop] at hc; cases hc
    | makeMap t x => rw [hop] at hc; cases hc
    | lookup t m k b => rw [hop] at hc; cases hc
    | mapUpdate t m k x => rw [hop] at hc; cases hc
    | _ =>
      rw [hop] at hc
      simp only [cls] at hc
      split at hc
      · exact ⟨by assumption, fun _ _ he => (by cases he), fun c he => (by cases he)⟩
      · cases hc
  have hb : Nat.ble 4 h = false := by
    cases hh : Nat.ble 4 h with
    | false => rfl
    | true => have := Nat.le_of_ble_eq_true hh; omega
  unfold opRun at heq ⊢
  simp only [hb] at heq ⊢
  cases hop : o.op with
  | call c =>
    obtain ⟨c1, c2, c3⟩ := h4.2.2 c hop
    rw [hop] at heq
    simp only [opV] at heq ⊢
    cases hcl : c.callee with
    | builtin b =>
      rw [hcl] at heq
      simp only at heq ⊢
      by_cases h2 : h = 2
      · subst h2
        simp only [pureB] at heq ⊢
        split at heq
        · cases heq
        · rename_i pl hpl
          split at heq
          · rename_i r H1 hr1
            split at heq
            · cases heq; exact ⟨rfl, fun H2 => rfl⟩
            · cases heq
          · cases heq
      · rcases c2 b hcl with ⟨h3, hbb⟩ | ⟨h3, -⟩
        · have h01 : h = 0 ∨ h = 1 := by omega
          rcases h01 with rfl | rfl
          · exact builtin_zero hbb heq
          · exact builtin_zero hbb heq
        · exact absurd h3 h2
    | value f =>
      have h0 := c1 f hcl
      subst h0
      rw [hcl] at heq
      simp only [callV] at heq ⊢
      split at heq
      · cases heq
      · rename_i q hq
        simp only [Option.map_eq_some_iff] at heq ⊢
        obtain ⟨r, hr, he⟩ := heq
        cases he
        exact ⟨rfl, fun H2 => ⟨_, hr, rfl⟩⟩
    | invoke r m => exact absurd hcl (c3 r m)
  | load t x =>
    have h2 := h4.2.1 t x hop
    subst h2
    rw [hop] at heq
    simp only [opV] at heq ⊢
    split at heq
    · simp only [Option.map_eq_some_iff] at heq ⊢
      obtain ⟨r, hr, he⟩ := heq
      cases he
      exact ⟨rfl, fun H2 => ⟨_, hr, rfl⟩⟩
    · cases heq
  | alloc t => rw [hop] at hc; simp only [cls] at hc; split at hc <;> cases hc
  | box t x =>
    rw [hop] at hc
    simp only [cls] at hc
    split at hc
    · split at hc
      · rename_i h2
        subst h2
        rw [hop] at heq
        simp only [opV] at heq ⊢
        split at heq
        · split at heq
          · cases heq; exact ⟨rfl, fun H2 => rfl⟩
          · cases heq
        · cases heq
      · cases hc
    · cases hc
  | store t x y => rw [hop] at hc; cases hc
  | makeMap t x => rw [hop] at hc; cases hc
  | lookup t m k b => rw [hop] at hc; cases hc
  | mapUpdate t m k x => rw [hop] at hc; cases hc
  | makeSlice t x y => rw [hop] at hc; simp only [cls] at hc; split at hc <;> cases hc
  | move x => rw [hop] at heq; simp only [opV] at heq ⊢; cases heq; exact ⟨rfl, fun H2 => rfl⟩
  | assign x => rw [hop] at heq; simp only [opV] at heq ⊢; cases heq; exact ⟨rfl, fun H2 => rfl⟩
  | pick c x y =>
    rw [hop] at heq
    simp only [opV] at heq ⊢
    split at heq
    · cases heq; exact ⟨rfl, fun H2 => rfl⟩
    · cases heq; exact ⟨rfl, fun H2 => rfl⟩
    · cases heq
  | unOp u t x =>
    rw [hop] at heq
    simp only [opV] at heq ⊢
    split at heq
    · simp only [Option.map_eq_some_iff] at heq ⊢
      obtain ⟨r, hr, he⟩ := heq
      cases he
      exact ⟨rfl, fun H2 => ⟨_, hr, rfl⟩⟩
    · cases heq
  | convert s d x =>
    rw [hop] at heq
    simp only [opV] at heq ⊢
    split at heq
    · split at heq
      · simp only [Option.map_eq_some_iff] at heq ⊢
        obtain ⟨r, hr, he⟩ := heq
        cases he
        exact ⟨rfl, fun H2 => ⟨_, hr, rfl⟩⟩
      · cases heq
    · cases heq
  | build t parts => rw [hop] at heq; simp only [opV] at heq ⊢; split at heq <;> first | (simp only [Option.map_eq_some_iff] at heq ⊢; obtain ⟨r, hr, he⟩ := heq; cases he; exact ⟨rfl, fun H2 => ⟨_, hr, rfl⟩⟩) | cases heq
  | buildSlice t n parts => rw [hop] at heq; simp only [opV] at heq ⊢; split at heq <;> first | (simp only [Option.map_eq_some_iff] at heq ⊢; obtain ⟨r, hr, he⟩ := heq; cases he; exact ⟨rfl, fun H2 => ⟨_, hr, rfl⟩⟩) | cases heq
  | nilCheck x => rw [hop] at heq; simp only [opV, Option.map_eq_some_iff] at heq ⊢; obtain ⟨r, hr, he⟩ := heq; cases he; exact ⟨rfl, fun H2 => ⟨_, hr, rfl⟩⟩
  | binOp b t x y t' => rw [hop] at heq; simp only [opV, Option.map_eq_some_iff] at heq ⊢; obtain ⟨r, hr, he⟩ := heq; cases he; exact ⟨rfl, fun H2 => ⟨_, hr, rfl⟩⟩
  | makeFunc fn x y => rw [hop] at heq; simp only [opV, Option.map_eq_some_iff] at heq ⊢; obtain ⟨r, hr, he⟩ := heq; cases he; exact ⟨rfl, fun H2 => ⟨_, hr, rfl⟩⟩
  | extract x i => rw [hop] at heq; simp only [opV, Option.map_eq_some_iff] at heq ⊢; obtain ⟨r, hr, he⟩ := heq; cases he; exact ⟨rfl, fun H2 => ⟨_, hr, rfl⟩⟩
  | slice t x l hh m => rw [hop] at heq; simp only [opV] at heq ⊢; split at heq <;> first | (simp only [Option.map_eq_some_iff] at heq ⊢; obtain ⟨r, hr, he⟩ := heq; cases he; exact ⟨rfl, fun H2 => ⟨_, hr, rfl⟩⟩) | cases heq
  | fieldAddr t x f => rw [hop] at heq; simp only [opV] at heq ⊢; split at heq <;> first | (simp only [Option.map_eq_some_iff] at heq ⊢; obtain ⟨r, hr, he⟩ := heq; cases he; exact ⟨rfl, fun H2 => ⟨_, hr, rfl⟩⟩) | cases heq
  | field t x f => rw [hop] at heq; simp only [opV] at heq ⊢; split at heq <;> first | (simp only [Option.map_eq_some_iff] at heq ⊢; obtain ⟨r, hr, he⟩ := heq; cases he; exact ⟨rfl, fun H2 => ⟨_, hr, rfl⟩⟩) | cases heq
  | indexAddr t x i => rw [hop] at heq; simp only [opV] at heq ⊢; split at heq <;> first | (simp only [Option.map_eq_some_iff] at heq ⊢; obtain ⟨r, hr, he⟩ := heq; cases he; exact ⟨rfl, fun H2 => ⟨_, hr, rfl⟩⟩) | cases heq
  | index t x i => rw [hop] at heq; simp only [opV] at heq ⊢; split at heq <;> first | (simp only [Option.map_eq_some_iff] at heq ⊢; obtain ⟨r, hr, he⟩ := heq; cases he; exact ⟨rfl, fun H2 => ⟨_, hr, rfl⟩⟩) | cases heq
  | _ => rw [hop] at heq; simp [opV] at heq

def lk : Ob → Ob
  | .arr v _ sz es => .arr v 0 sz es
  | ob => ob
theorem loadV_lk {ti : TI} {H H2 : Hp} {x r : V} (h : loadV ti H x = some r) (hs : ∀ id ver off, x = .ptr id ver off → (H2[id]?).map lk = (H[id]?).map lk) : loadV ti H2 x = some r := by
  unfold loadV at h ⊢
  split at h
  · exact h
  · exact h
  · rename_i id ver off
    have hs := hs id ver off rfl
    cases h1 : H[id]? with
    | none => rw [h1] at h; cases h
    | some ob =>
      rw [h1] at hs h
      cases h2 : H2[id]? with
      | none => rw [h2] at hs; cases hs
      | some ob2 =>
        rw [h2] at hs
        simp only [Option.map_some, Option.some.injEq] at hs
        cases ob <;> cases ob2 <;> simp only [lk, reduceCtorEq, Ob.box.injEq, Ob.arr.injEq, Ob.map.injEq] at hs
        · obtain ⟨rfl, rfl⟩ := hs; exact h
        · obtain ⟨rfl, -, rfl, rfl⟩ := hs; exact h
        · cases h
        · cases h
  · cases h
theorem ldH_at {h : Nat} {H H2 : Hp} {id : Nat} (hs : (H2[id]?).map lk = (H[id]?).map lk) : ((ldH h H2)[id]?).map lk = ((ldH h H)[id]?).map lk := by
  unfold ldH
  split
  · rfl
  · unfold boxes
    rw [List.getElem?_map, List.getElem?_map]
    cases h1 : H[id]? with
    | none =>
      rw [h1] at hs
      cases h2 : H2[id]? with
      | none => rfl
      | some ob2 => rw [h2] at hs; cases hs
    | some ob =>
      rw [h1] at hs
      cases h2 : H2[id]? with
      | none => rw [h2] at hs; cases hs
      | some ob2 =>
        rw [h2] at hs
        simp only [Option.map_some, Option.some.injEq] at hs ⊢
        cases ob <;> cases ob2 <;> simp only [lk, reduceCtorEq, Ob.box.injEq, Ob.arr.injEq, Ob.map.injEq] at hs ⊢
        exact hs
  · exact hs

theorem cls_one {cx : Cx} {call : CallF} {h : Nat} {H H' : Hp} {ρ : Operand → V} {o : Oper} {v : V} (hc : cls h o.op = 1) (heq : opRun cx call h H ρ o = some (v, H')) :
    H' = H ∧ ∃ t x, o.op = .load t x ∧ ∀ H2 : Hp, (∀ id ver off, ρ x = .ptr id ver off → (H2[id]?).map lk = (H[id]?).map lk) → opRun cx call h H2 ρ o = some (v, H2) := by
  cases hop : o.op with
  | load t x =>
    rw [hop] at hc
    simp only [cls] at hc
    split at hc
    · rename_i h4
      have hb : Nat.ble 4 h = false := by
        cases hh : Nat.ble 4 h with
        | false => rfl
        | true => have := Nat.le_of_ble_eq_true hh; omega
      unfold opRun at heq ⊢
      simp only [hb] at heq ⊢
      rw [hop] at heq
      simp only [opV] at heq
      split at heq
      · rename_i ti hti
        simp only [Option.map_eq_some_iff] at heq
        obtain ⟨r, hr, he⟩ := heq
        cases he
        refine ⟨rfl, t, x, rfl, fun H2 hs => ?_⟩
        have h2 : loadV ti (ldH h H2) (ρ x) = some v := loadV_lk hr (fun id ver off he => ldH_at (hs id ver off he))
        simp only [hop, opV, hti, h2, Option.map_some]
      · cases heq
    · cases hc
  | call c =>
    rw [hop] at hc
    simp only [cls] at hc
    repeat' split at hc
    all_goals cases hc
  | alloc t => rw [hop] at hc; simp only [cls] at hc; split at hc <;> cases hc
  | box t x => rw [hop] at hc; simp only [cls] at hc; (repeat' split at hc) <;> cases hc
  | makeSlice t x y => rw [hop] at hc; simp only [cls] at hc; split at hc <;> cases hc
  | store t x y => rw [hop] at hc; cases hc
  | makeMap t x => rw [hop] at hc; cases hc
  | lookup t m k b => rw [hop] at hc; cases hc
  | mapUpdate t m k x => rw [hop] at hc; cases hc
  | _ => rw [hop] at hc; simp only [cls] at hc; split at hc <;> cases hc

theorem cls_three {cx : Cx} {call : CallF} {h : Nat} {H H' : Hp} {ρ : Operand → V} {o : Oper} {v : V} (hc : cls h o.op = 3) (heq : opRun cx call h H ρ o = some (v, H')) : ∃ l, H' = H ++ l := by
  have h4 : ∀ {h : Nat}, h < 4 → Nat.ble 4 h = false := by
    intro h h4
    cases hh : Nat.ble 4 h with
    | false => rfl
    | true => have := Nat.le_of_ble_eq_true hh; omega
  unfold opRun at heq
  cases hop : o.op with
  | load t x => rw [hop] at hc; simp only [cls] at hc; repeat' split at hc
                all_goals cases hc
  | call c =>
    rw [hop] at hc
    simp only [cls] at hc
    split at hc
    · split at hc <;> cases hc
    · split at hc <;> cases hc
    · split at hc <;> cases hc
    · rename_i hcb
      split at hc
      · cases hc
      · split at hc
        · rename_i h3
          subst h3
          rw [h4 (by decide), hop] at heq
          simp only [opV, hcb] at heq
          split at heq
          · rename_i hfp
            rcases builtin_len heq with rfl | ⟨ti, s, x, hargs, hap⟩
            · exact ⟨[], by simp⟩
            · rw [hargs] at hfp
              unfold firstP at hfp
              split at hfp
              · rename_i e; cases e; exact append_make hap
              · cases hfp
          · cases heq
        · cases hc
    · cases hc
    · split at hc <;> cases hc
    · cases hc
  | alloc t =>
    rw [hop] at hc; simp only [cls] at hc
    split at hc
    · rename_i hh
      rw [h4 hh, hop] at heq
      simp only [opV, Option.map_eq_some_iff, newBox] at heq
      obtain ⟨ti, -, he⟩ := heq
      cases he
      exact ⟨[_], rfl⟩
    · cases hc
  | box t x =>
    rw [hop] at hc; simp only [cls] at hc
    split at hc
    · rename_i hh
      rw [h4 hh, hop] at heq
      simp only [opV, newBox] at heq
      split at heq
      · split at heq
        · split at heq
          · cases heq; exact ⟨[], by simp⟩
          · cases heq; exact ⟨[_], rfl⟩
        · cases heq
      · cases heq
    · cases hc
  | makeSlice t x y =>
    rw [hop] at hc; simp only [cls] at hc
    split at hc
    · rename_i hh
      rw [h4 hh, hop] at heq
      simp only [opV] at heq
      unfold makeSliceV at heq
      repeat' split at heq
      all_goals first | cases heq | skip
      all_goals exact ⟨[_], rfl⟩
    · cases hc
  | store t x y => rw [hop] at hc; cases hc
  | makeMap t x => rw [hop] at hc; cases hc
  | lookup t m k b => rw [hop] at hc; cases hc
  | mapUpdate t m k x => rw [hop] at hc; cases hc
  | _ => rw [hop] at hc; simp only [cls] at hc; split at hc <;> cases hc

theorem cls_le (h : Nat) (op : Op) : cls h op = 0 ∨ cls h op = 1 ∨ cls h op = 2 ∨ cls h op = 3 := by
  unfold cls
  repeat' split
  all_goals simp

def ER (G : Gh) (e : Env) (a : Act) : Prop := ∀ t, VR G (look e t) (a.tmps.getD t undef)

theorem ev_sound {cx : Cx} {G : Gh} (gl : GlOK cx G) {e : Env} {a : Act} {x : Operand} (h : ∀ t, x = .tmp t → VR G (look e t) (a.tmps.getD t undef)) : VR G (ev cx e x) (a.eval x) := by
  cases x with
  | tmp t => exact h t rfl
  | const v =>
    simp only [ev, Act.eval]
    split
    · rename_i x hx; exact .p (ofValue_sound hx)
    · exact .undef _
  | global g =>
    simp only [ev, Act.eval]
    split
    · rename_i cs hcs; exact .p (gl g cs hcs)
    · exact .undef _
  | func f => exact .p (.fn rfl rfl (by simp) (by simp))

theorem put_size (a : Act) (d : Option Nat) (v : Value) : (a.put d v).tmps.size = a.tmps.size := by
  cases d <;> simp [Act.put]
theorem put_defers (a : Act) (d : Option Nat) (v : Value) : (a.put d v).defers = a.defers := by
  cases d <;> rfl
theorem put_same {a : Act} {d : Nat} (v : Value) (h : d < a.tmps.size) : (a.put (some d) v).tmps.getD d undef = v := by
  simp [Act.put, h]
theorem put_other {a : Act} {d : Option Nat} {t : Nat} (v : Value) (h : d ≠ some t) : (a.put d v).tmps.getD t undef = a.tmps.getD t undef := by
  cases d with
  | none => rfl
  | some d =>
    have : d ≠ t := fun e => h (by rw [e])
    simp [Act.put, this]

theorem look_put (e : Env) (d : Option Nat) (v : V) (t : Nat) : look (putV e d v) t = if d = some t then v else look e t := by
  cases d with
  | none => simp [putV]
  | some d =>
    simp only [putV, look]
    by_cases h : d = t
    · subst h; simp [Nat.beq_refl]
    · have : Nat.beq d t = false := by
        cases hb : Nat.beq d t with
        | false => rfl
        | true => exact absurd (beq_eq hb) h
      simp [this, h]

theorem ER.put {G : Gh} {e : Env} {a : Act} (h : ER G e a) {d : Option Nat} {v : V} {c : Value} (hd : ∀ t, d = some t → t < a.tmps.size) (hv : VR G v c) : ER G (putV e d v) (a.put d c) := by
  intro t
  rw [look_put]
  split
  · rename_i hdt
    subst hdt
    rw [put_same c (hd t rfl)]
    exact hv
  · rename_i hdt
    rw [put_other c hdt]
    exact h t
theorem ER.mono {G G' : Gh} {e : Env} {a : Act} (h : ER G e a) (hv : ∀ v c, VR G v c → VR G' v c) : ER G' e a := fun t => hv _ _ (h t)

theorem wanted_sound {ops : Array Oper} {e : Env} {o : Oper} {b : Bool} (h : wantedV ops.toList e o = some b) {G : Gh} {a : Act}
    (hd : ∀ j want d, o.guard = some (j, want) → ((ops[j]?).bind (·.dst)) = some d → VR G (look e d) (a.tmps.getD d undef) ∧ d < a.tmps.size) : Region.wanted o (yielded ops a.tmps) = b := by
  unfold wantedV at h
  unfold Region.wanted
  split at h
  · rename_i hg
    cases h
    rw [hg]
  · rename_i j want hg
    rw [hg]
    simp only [Array.getElem?_toList] at h
    split at h
    · rename_i d op ty pos af gd hj
      have hjd : ((ops[j]?).bind (·.dst)) = some d := by rw [hj]; rfl
      obtain ⟨h1, h2⟩ := hd j want d hg hjd
      split at h
      · rename_i q hq
        cases h
        rw [hq] at h1
        have hv := h1.p_inv.bool_inv
        have hget : a.tmps[d]? = some (.bool q) := by
          rw [Array.getElem?_eq_getElem h2]
          have : a.tmps.getD d undef = a.tmps[d] := by simp [h2]
          rw [← this, hv]
        simp only [yielded, hjd, Option.bind_some, hget]
        cases q <;> cases want <;> rfl
      · cases h
    · cases h
end Go.AX
