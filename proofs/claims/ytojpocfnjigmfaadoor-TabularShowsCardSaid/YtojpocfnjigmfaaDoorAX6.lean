/-
  'AX' AND THE MODEL: one operation.
-/
import Derived.Test.YtojpocfnjigmfaaDoorAX5h
set_option linter.unusedVariables false
set_option linter.unusedSimpArgs false
namespace Go.AX
open Go
variable {P : Program}

def GlOK (cx : Cx) (G : Gh) : Prop := ∀ g cs, cx.gl g = some cs → PR G.C (.ep cs) (.pointer (some ⟨g, 0, none⟩))
theorem GlOK.mono {cx : Cx} {G G' : Gh} (h : GlOK cx G) (hC : ∀ b o v, G.C b o = some v → G'.C b o = some v) : GlOK cx G' := fun g cs hg => (h g cs hg).mono hC

def CallOK (P : Program) (cx : Cx) (call : CallF) : Prop := ∀ f args H r H', call f args H = some (r, H') →
  (∃ fn, P.funcs[f]? = some fn ∧ fn.name ≠ "runtime.NumGoroutine" ∧ fn.body.isSome = true) ∧
  ∀ G w c, GOK G w H → GlOK cx G → VRs G args c → Calls P f c w (fun e w' => ∃ v G', e = .returned v ∧ VR G' r v ∧ GOK G' w' H' ∧ Ext H.length G H w G' H' w' ∧ H.length ≤ H'.length)

theorem wp_value {o : Oper} {a : Act} {w w' : World} {c : Value} {next : Act → World → Prop} {Q : Exit → Act → World → Prop} (hrun : (execOp a.eval o).run P w = .ok (.value c) w') (hn : next (a.put o.dst c) w') : o.wp P a w next Q := by
  unfold Oper.wp
  rw [hrun, Oper.upon_value]
  exact hn
theorem wp_skipped {o : Oper} {a : Act} {w w' : World} {next : Act → World → Prop} {Q : Exit → Act → World → Prop} (hrun : (execOp a.eval o).run P w = .ok .skip w') (hn : next (a.put o.dst undef) w') : o.wp P a w next Q := by
  unfold Oper.wp
  rw [hrun, Oper.upon_skip]
  exact hn

theorem callee_inv {G : Gh} {v : V} {f : FuncId} {x y : List V} (h : callee v = some (f, x, y)) {c : Value} (hc : VR G v c) : ∃ a b, c = .func (.func f) a b ∧ VRs G x a ∧ VRs G y b := by
  unfold callee at h
  split at h
  · cases h
    cases hc.p_inv with
    | fn ha hb h1 h2 => exact ⟨_, _, rfl, PRs.toV ⟨ha, h1⟩, PRs.toV ⟨hb, h2⟩⟩
  · cases h
    cases hc with
    | fn ha hb h1 h2 => exact ⟨_, _, rfl, ⟨ha, h1⟩, ⟨hb, h2⟩⟩
  · cases h

theorem VRs.append {G : Gh} {l m : List V} {a b : Array Value} (h : VRs G l a) (k : VRs G m b) : VRs G (l ++ m) (a ++ b) := by
  refine ⟨by simp [h.1, k.1], fun j x v hx hv => ?_⟩
  rw [List.getElem?_append] at hx
  rw [Array.getElem?_append] at hv
  rw [h.1] at hx
  split at hx
  · rename_i hj
    rw [if_pos hj] at hv
    exact h.2 j x v hx hv
  · rename_i hj
    rw [if_neg hj] at hv
    exact k.2 _ x v hx hv

theorem VRs.map_eval {G : Gh} {ρ : Operand → V} {a : Act} {xs : Array Operand} (h : ∀ x ∈ xs, VR G (ρ x) (a.eval x)) : VRs G (xs.toList.map ρ) (xs.map a.eval) := by
  refine ⟨by simp, fun j x v hx hv => ?_⟩
  simp only [List.getElem?_map, Option.map_eq_some_iff, Array.getElem?_toList] at hx
  obtain ⟨y, hy, rfl⟩ := hx
  simp only [Array.getElem?_map, hy, Option.map_some, Option.some.injEq] at hv
  subst hv
  exact h y (Array.mem_of_getElem? hy)

theorem ok_none {G : Gh} {w : World} {H : Hp} (ok : GOK G w H) : GOK { C := G.C, pl := fun _ _ => none, mp := fun _ => none } w [] :=
  ⟨ok.stable, ok.one, by simp, by simp, fun _ _ _ => rfl, fun _ _ => rfl⟩

theorem not_owned_nil {G : Gh} {b : Nat} : ¬ Owned G [] b := by
  rintro ⟨id, ob, h, -⟩
  simp at h

theorem back {G G1 : Gh} {w w' : World} {H H1 : Hp} (ok : GOK G w H) (ok1 : GOK G1 w' H1) (e : Ext 0 { C := G.C, pl := fun _ _ => none, mp := fun _ => none } [] w G1 H1 w') :
    GOK { G with C := G1.C } w' H ∧ Ext H.length G H w { G with C := G1.C } H w' := by
  refine grow ok G1.C e.os e.tape e.output e.size (fun b hb => e.old b hb not_owned_nil) (fun b o hb => ?_) (fun b o v hb hv => ⟨ok1.stable b o v hv, ok1.one b o v hv⟩)
  cases h : G1.C b o with
  | none =>
    cases h' : G.C b o with
    | none => rfl
    | some v => rw [e.mono b o v h'] at h; cases h
  | some v =>
    rcases e.new b o v h with h1 | h1 | h1
    · exact h1.symm
    · omega
    · exact absurd h1 not_owned_nil

theorem run_v {s : Sem Value} {w w' : World} {c : Value} (h : s.run P w = .ok c w') : (do pure (Next.value (← s)) : Sem Next).run P w = .ok (.value c) w' := by
  simp [h]
theorem run_u {s : Sem Unit} {w w' : World} (h : s.run P w = .ok () w') : (do s; pure Next.skip : Sem Next).run P w = .ok .skip w' := by
  simp [h]

theorem opt_mem {x : Operand} {lo : Option Operand} (h : lo = some x) : x ∈ lo.toArray := by subst h; simp

theorem loadV_nil {ti : TI} {H : Hp} {x r : V} (h : loadV ti [] x = some r) : loadV ti H x = some r := by
  unfold loadV at h ⊢
  split at h
  · exact h
  · exact h
  · simp at h
  · cases h

theorem boxes_at {H : Hp} {id : Nat} {ob : Ob} (h : (boxes H)[id]? = some ob) : (∃ v cs, ob = .box v cs ∧ H[id]? = some (.box v cs)) ∨ ob = .dead := by
  unfold boxes at h
  rw [List.getElem?_map, Option.map_eq_some_iff] at h
  obtain ⟨o, ho, he⟩ := h
  split at he
  · exact .inl ⟨_, _, he.symm, ho⟩
  · exact .inr he.symm
theorem loadV_boxes {ti : TI} {H : Hp} {x r : V} (h : loadV ti (boxes H) x = some r) : loadV ti H x = some r := by
  unfold loadV at h ⊢
  split at h
  · exact h
  · exact h
  · rename_i id ver off
    split at h
    · rename_i v cs hid
      rcases boxes_at hid with ⟨v', cs', he, ho⟩ | he
      · cases he
        rw [ho]
        exact h
      · cases he
    · rename_i v f sz es hid
      rcases boxes_at hid with ⟨v', cs', he, ho⟩ | he <;> cases he
    · cases h
  · cases h
theorem append_len {ti : TI} {H H' : Hp} {s x r : V} (h : appendV ti H s x = some (r, H')) : H.length ≤ H'.length := by
  unfold appendV at h
  repeat' split at h
  all_goals first | cases h | skip
  all_goals simp
theorem append_make {ti : TI} {H H' : Hp} {y : Pv} {x r : V} (h : appendV ti H (.p y) x = some (r, H')) : ∃ l, H' = H ++ l := by
  unfold appendV at h
  repeat' split at h
  all_goals first | cases h | skip
  all_goals first | exact ⟨[_], rfl⟩ | exact ⟨[], (List.append_nil _).symm⟩ | (rename_i e _ _ _ _ _ _ _ _; cases e) | skip
  all_goals (exfalso; simp_all)

theorem builtin_len {cx : Cx} {H H' : Hp} {b : Builtin} {args : List V} {ts : Array TypeId} {v : V} (h : builtinV cx H b args ts = some (v, H')) : H' = H ∨ ∃ ti s x, args = [s, x] ∧ appendV ti H s x = some (v, H') := by
  unfold builtinV at h
  split at h
  · split at h
    · split at h
      · cases h; exact .inl rfl
      · cases h
    · cases h
  · simp only [Option.map_eq_some_iff] at h; obtain ⟨r, -, he⟩ := h; cases he; exact .inl rfl
  · simp only [Option.map_eq_some_iff] at h; obtain ⟨r, -, he⟩ := h; cases he; exact .inl rfl
  · split at h
    · split at h
      · exact .inr ⟨_, _, _, rfl, h⟩
      · exact .inr ⟨_, _, _, rfl, h⟩
      · cases h
    · cases h
  · cases h

theorem opV_sound {cx : Cx} (hT : TOK P cx.T) {call : CallF} (hcall : CallOK P cx call) {h : Nat} {H H' : Hp} {ρ : Operand → V} {op : Op} {v : V} (heq : opV cx call h H ρ op = some (v, H')) {G : Gh} {w : World} (ok : GOK G w H) (gl : GlOK cx G)
    {a : Act} {o : Oper} (ho : o.op = op) (hρ : ∀ x ∈ op.operands, VR G (ρ x) (a.eval x)) {next : Act → World → Prop} {Q : Exit → Act → World → Prop}
    (hnext : ∀ c G' w', VR G' v c → GOK G' w' H' → Ext H.length G H w G' H' w' → H.length ≤ H'.length → next (a.put o.dst c) w') : o.wp P a w next Q := by
  have same : ∀ (s : Sem Value), (execOp a.eval o = do pure (Next.value (← s))) → H' = H → (∃ c, s.run P w = .ok c w ∧ VR G v c) → o.wp P a w next Q := by
    rintro s hs rfl ⟨c, h1, h2⟩
    exact wp_value (by rw [hs]; exact run_v h1) (hnext c G w h2 ok (Ext.refl _ _ _ _) (Nat.le_refl _))
  have turn : ∀ (s : Sem Value), (execOp a.eval o = do pure (Next.value (← s))) → H.length ≤ H'.length → (∃ c w' G', s.run P w = .ok c w' ∧ VR G' v c ∧ GOK G' w' H' ∧ Ext H.length G H w G' H' w') → o.wp P a w next Q := by
    rintro s hs hl ⟨c, w', G', h1, h2, h3, h4⟩
    exact wp_value (by rw [hs]; exact run_v h1) (hnext c G' w' h2 h3 h4 hl)
  unfold opV at heq
  split at heq
  case h_1 x =>
    cases heq
    exact wp_value (c := a.eval x) (w' := w) (by unfold execOp; rw [ho]; rfl) (hnext _ G w (hρ x (by simp [Op.operands])) ok (Ext.refl _ _ _ _) (Nat.le_refl _))
  case h_2 x =>
    cases heq
    exact wp_value (c := a.eval x) (w' := w) (by unfold execOp; rw [ho]; rfl) (hnext _ G w (hρ x (by simp [Op.operands])) ok (Ext.refl _ _ _ _) (Nat.le_refl _))
  case h_3 c x y =>
    have hc := hρ c (by simp [Op.operands])
    split at heq
    · rename_i hcv
      cases heq
      rw [hcv] at hc
      refine wp_value (c := a.eval x) (w' := w) ?_ (hnext _ G w (hρ x (by simp [Op.operands])) ok (Ext.refl _ _ _ _) (Nat.le_refl _))
      unfold execOp; rw [ho]; simp [hc.p_inv.bool_inv, asBool]
    · rename_i hcv
      cases heq
      rw [hcv] at hc
      refine wp_value (c := a.eval y) (w' := w) ?_ (hnext _ G w (hρ y (by simp [Op.operands])) ok (Ext.refl _ _ _ _) (Nat.le_refl _))
      unfold execOp; rw [ho]; simp [hc.p_inv.bool_inv, asBool]
    · cases heq
  case h_4 t =>
    simp only [Option.map_eq_some_iff] at heq
    obtain ⟨ti, hti, he⟩ := heq
    obtain ⟨i, hi, hsz, hk, hag, -, hz⟩ := ti_parts (hT _ _ hti)
    obtain ⟨z, hz1, hz2, hz3⟩ := zero_sound hz G
    cases he
    obtain ⟨G', g1, g2, g3⟩ := box_sound ok (ti.zero.map .p) z.cells t hz2.1 (fun j y u hy hu => ⟨hz3 j u hu, hz2.2 j y u hy hu⟩)
    refine turn (Instr.alloc t true (.tuple #[])) (by unfold execOp; rw [ho]) (by simp [newBox]) ⟨_, _, G', ?_, g3, g1, g2⟩
    unfold Instr.alloc
    simp [zeroValue, run_typeInfo' w hi, hz1, newVar, newRow]
  case h_5 t x =>
    split at heq
    · rename_i ti hti
      split at heq
      · rename_i hcond
        simp only [Bool.and_eq_true] at hcond
        have hx := hρ x (by simp [Op.operands])
        obtain ⟨q1, q2⟩ := hx.cellsOf (beq_eq hcond.1) (Nat.le_of_ble_eq_true hcond.2)
        have hlen : (ρ x).cells.length = (a.eval x).cells.size := by rw [q1]; exact beq_eq hcond.1
        split at heq
        · cases heq
          obtain ⟨g1, g2⟩ := grow_stable ok (a.eval x).cells t (fun j v hj => by
            have hjl : j < (ρ x).cells.length := by rw [hlen]; exact (Array.getElem?_eq_some_iff.1 hj).1
            exact (q2 j _ v (List.getElem?_eq_getElem hjl) hj).1)
          have evp : ∀ {G : Gh} {cs : List V} {c : Value}, VR G (.ev cs) c → VR G (evOf cs) c := by
            intro G cs c h
            unfold evOf
            split
            · rename_i l hl
              have := allP_eq hl
              subst this
              cases h with
              | ev f h1 h2 =>
                exact .p (.ep f (fun j y hj => h1 j (.p y) (by simp [hj])) (fun j y hj => (h2 j (.p y) (by simp [hj])).p_inv))
            · exact h
          refine turn (Instr.box t (a.eval x)) (by unfold execOp; rw [ho]) (Nat.le_refl _) ⟨.pointer (some ⟨w.heap.size, 0, none⟩), _, _, ?_, ?_, g1, g2⟩
          · simp [Instr.box, newVar, newRow]
          · refine evp (.ev (fun j => ((a.eval x).cells[j]?).getD undef) (fun j y hj => ?_) (fun j y hj => ?_))
            · have hjl : j < (a.eval x).cells.size := by rw [← hlen]; exact (List.getElem?_eq_some_iff.1 hj).1
              simp [hjl]
            · have hjl : j < (a.eval x).cells.size := by rw [← hlen]; exact (List.getElem?_eq_some_iff.1 hj).1
              refine g2.vr ok ?_
              rw [Array.getElem?_eq_getElem hjl]
              exact (q2 j y _ hj (Array.getElem?_eq_getElem hjl)).2
        cases heq
        obtain ⟨G', g1, g2, g3⟩ := box_sound ok (ρ x).cells (a.eval x).cells t (by rw [q1]; exact beq_eq hcond.1) q2
        refine turn (Instr.box t (a.eval x)) (by unfold execOp; rw [ho]) (by simp [newBox]) ⟨_, _, G', ?_, g3, g1, g2⟩
        simp [Instr.box, newVar, newRow]
      · cases heq
    · cases heq
  case h_6 t parts =>
    split at heq
    · rename_i ti hti
      simp only [Option.map_eq_some_iff] at heq
      obtain ⟨r, hr, he⟩ := heq
      cases he
      refine same (Instr.build t (parts.map fun (i, x) => (i, a.eval x))) (by unfold execOp; rw [ho]) rfl ?_
      refine buildV_sound (hT _ _ hti) hr (by simp) (fun j x y hx hy => ?_) w
      simp only [List.getElem?_map, Option.map_eq_some_iff, Array.getElem?_toList] at hx
      obtain ⟨q, hq, rfl⟩ := hx
      simp only [Array.getElem?_map, hq, Option.map_some, Option.some.injEq] at hy
      subst hy
      exact ⟨rfl, hρ q.2 (by simp only [Op.operands, List.mem_toArray, List.mem_map]; exact ⟨q, by simpa using Array.mem_of_getElem? hq, rfl⟩)⟩
    · cases heq
  case h_7 t n parts =>
    split at heq
    · rename_i ti hti
      simp only [Option.map_eq_some_iff] at heq
      obtain ⟨r, hr, he⟩ := heq
      cases he
      refine turn (Instr.buildSlice t n (parts.map fun (i, x) => (i, a.eval x))) (by unfold execOp; rw [ho]) (Nat.le_refl _) ?_
      refine buildSliceV_sound (hT _ _ hti) hr ok (by simp) (fun j x y hx hy => ?_)
      simp only [List.getElem?_map, Option.map_eq_some_iff, Array.getElem?_toList] at hx
      obtain ⟨q, hq, rfl⟩ := hx
      simp only [Array.getElem?_map, hq, Option.map_some, Option.some.injEq] at hy
      subst hy
      exact ⟨rfl, hρ q.2 (by simp only [Op.operands, List.mem_toArray, List.mem_map]; exact ⟨q, by simpa using Array.mem_of_getElem? hq, rfl⟩)⟩
    · cases heq
  case h_8 t x =>
    split at heq
    · rename_i ti hti
      simp only [Option.map_eq_some_iff] at heq
      obtain ⟨r, hr, he⟩ := heq
      cases he
      have hr' : loadV ti H (ρ x) = some v := by
        by_cases h2 : h = 2
        · subst h2; exact loadV_nil hr
        · by_cases h3 : h = 3
          · subst h3; exact loadV_boxes hr
          · rw [ldH_ne h2 h3] at hr; exact hr
      exact same (Instr.loadAt t (a.eval x)) (by unfold execOp; rw [ho]) rfl (loadV_sound (hT _ _ hti) ok hr' (hρ x (by simp [Op.operands])))
    · cases heq
  case h_9 t x y =>
    split at heq
    · rename_i ti hti
      simp only [Option.map_eq_some_iff] at heq
      obtain ⟨r, hr, he⟩ := heq
      cases he
      obtain ⟨w', h1, h2, h3⟩ := storeV_sound (hT _ _ hti) ok hr (hρ x (by simp [Op.operands])) (hρ y (by simp [Op.operands]))
      have hlen : H.length ≤ H'.length := by
        have : ∀ {ti H x y r}, storeV ti H x y = some r → H.length = r.length := by
          intro ti H x y r h
          unfold storeV at h
          repeat' split at h
          all_goals first | cases h | skip
          all_goals simp
        rw [this hr]; exact Nat.le_refl _
      exact wp_skipped (w' := w') (by unfold execOp; rw [ho]; exact run_u h1) (hnext _ G w' (.undef _) h2 h3 hlen)
    · cases heq
  case h_10 x =>
    simp only [Option.map_eq_some_iff] at heq
    obtain ⟨r, hr, he⟩ := heq
    cases he
    have hx := hρ x (by simp [Op.operands])
    obtain ⟨rfl, hc⟩ := nilCheckV_sound hr hx
    refine wp_value (c := a.eval x) (w' := w) ?_ (hnext _ G w hx ok (Ext.refl _ _ _ _) (Nat.le_refl _))
    unfold execOp
    rw [ho]
    rcases hc with ⟨b, hb⟩ | ⟨f, b, c, hb⟩ <;> simp [hb]
  case h_11 op' t x y ty =>
    simp only [Option.map_eq_some_iff] at heq
    obtain ⟨r, hr, he⟩ := heq
    cases he
    exact same (do eqGuard op' t x y (a.eval x) (a.eval y); binOp op' t (a.eval x) (a.eval y)) (by unfold execOp; rw [ho]) rfl (binV_sound hT hr (hρ x (by simp [Op.operands])) (hρ y (by simp [Op.operands])) x y w)
  case h_12 op' t x =>
    have hx := hρ x (by simp [Op.operands])
    split at heq
    · rename_i q hq
      rw [hq] at hx
      simp only [Option.map_eq_some_iff] at heq
      obtain ⟨r, hr, he⟩ := heq
      cases he
      obtain ⟨c, h1, h2⟩ := unP_sound hr hx.p_inv w
      exact same (Op.unary op' (a.eval x)) (by unfold execOp; rw [ho]) rfl ⟨c, h1, .p h2⟩
    · cases heq
  case h_13 src dst x =>
    have hx := hρ x (by simp [Op.operands])
    split at heq
    · rename_i s d hs hd
      split at heq
      · rename_i q hq
        rw [hq] at hx
        simp only [Option.map_eq_some_iff] at heq
        obtain ⟨r, hr, he⟩ := heq
        cases he
        obtain ⟨c, w', G', h1, h2, h3, h4⟩ := convP_sound (hT _ _ hs) (hT _ _ hd) hr ok hx.p_inv
        exact turn (convert src dst (a.eval x)) (by unfold execOp; rw [ho]) (Nat.le_refl _) ⟨c, w', G', h1, .p h2, h3, h4⟩
      · cases heq
    · cases heq
  case h_14 fn first cap =>
    simp only [Option.map_eq_some_iff] at heq
    obtain ⟨r, hr, he⟩ := heq
    cases he
    exact same (Instr.makeFunc fn (first.map a.eval) (cap.map a.eval)) (by unfold execOp; rw [ho]) rfl (makeFuncV_sound hr (VRs.map_eval fun x hx => hρ x (by simp [Op.operands, hx])) (VRs.map_eval fun x hx => hρ x (by simp [Op.operands, hx])) w)
  case h_15 t l c =>
    split at heq
    · rename_i ti hti
      split at heq
      · rename_i e esz eb ea u8 hkd
        split at heq
        · rename_i te hte
          have hlen : H.length ≤ H'.length := by
            have : ∀ {ti te H l c r H'}, makeSliceV ti te H l c = some (r, H') → H.length ≤ H'.length := by
              intro ti te H l c r H' h
              unfold makeSliceV at h
              repeat' split at h
              all_goals first | cases h | skip
              all_goals simp
            exact this heq
          exact turn (Instr.makeSlice t (a.eval l) (a.eval c)) (by unfold execOp; rw [ho]) hlen (makeSliceV_sound (hT _ _ hti) (te := te) (fun e' _ _ _ _ he' => by rw [hkd] at he'; cases he'; exact hT _ _ hte) heq ok (hρ l (by simp [Op.operands])) (hρ c (by simp [Op.operands])))
        · cases heq
      · cases heq
    · cases heq
  case h_16 t x lo hi mx =>
    split at heq
    · rename_i ti hti
      simp only [Option.map_eq_some_iff] at heq
      obtain ⟨r, hr, he⟩ := heq
      cases he
      have hvo : ∀ (q : Option Operand), (∀ y, q = some y → y ∈ (Op.slice t x lo hi mx).operands) → VRo G (q.map ρ) (q.map a.eval) := by
        intro q hq
        cases q with
        | none => trivial
        | some y => exact hρ y (hq y rfl)
      exact same (Instr.sliceAt t (a.eval x) (lo.map a.eval) (hi.map a.eval) (mx.map a.eval)) (by unfold execOp; rw [ho]) rfl
        (sliceV_sound (hT _ _ hti) hr (hρ x (by simp [Op.operands])) (hvo lo fun y hy => by simp [Op.operands, hy]) (hvo hi fun y hy => by simp [Op.operands, hy]) (hvo mx fun y hy => by simp [Op.operands, hy]) w)
    · cases heq
  case h_17 t x f =>
    split at heq
    · rename_i ti hti
      simp only [Option.map_eq_some_iff] at heq
      obtain ⟨r, hr, he⟩ := heq
      cases he
      exact same (Instr.fieldAt t (a.eval x) f) (by unfold execOp; rw [ho]) rfl (fieldAddrV_sound (hT _ _ hti) hr (hρ x (by simp [Op.operands])) w)
    · cases heq
  case h_18 t x f =>
    split at heq
    · rename_i ti hti
      simp only [Option.map_eq_some_iff] at heq
      obtain ⟨r, hr, he⟩ := heq
      cases he
      exact same (Instr.field t (a.eval x) f) (by unfold execOp; rw [ho]) rfl (fieldV_sound (hT _ _ hti) hr (hρ x (by simp [Op.operands])) w)
    · cases heq
  case h_19 t x i =>
    split at heq
    · rename_i ti hti
      simp only [Option.map_eq_some_iff] at heq
      obtain ⟨r, hr, he⟩ := heq
      cases he
      exact same (Instr.indexAt t (a.eval x) (a.eval i)) (by unfold execOp; rw [ho]) rfl (indexAddrV_sound (hT _ _ hti) hr (hρ x (by simp [Op.operands])) (hρ i (by simp [Op.operands])) w)
    · cases heq
  case h_20 t x i =>
    split at heq
    · rename_i ti hti
      simp only [Option.map_eq_some_iff] at heq
      obtain ⟨r, hr, he⟩ := heq
      cases he
      exact same (Instr.index t (a.eval x) (a.eval i)) (by unfold execOp; rw [ho]) rfl (indexV_sound (hT _ _ hti) hr (hρ x (by simp [Op.operands])) (hρ i (by simp [Op.operands])) w)
    · cases heq
  case h_21 x i =>
    simp only [Option.map_eq_some_iff] at heq
    obtain ⟨r, hr, he⟩ := heq
    cases he
    exact same (Instr.extract (a.eval x) i) (by unfold execOp; rw [ho]) rfl (extractV_sound hr (hρ x (by simp [Op.operands])) w)
  case h_22 t =>
    split at heq
    · cases heq
      obtain ⟨G', g1, g2, g3⟩ := newMap ok
      exact turn (Instr.makeMap t none) (by unfold execOp; rw [ho]; rfl) (by simp) ⟨_, _, G', rfl, g3, g1, g2⟩
    · cases heq
  case h_23 t m k b =>
    split at heq
    · rename_i te hte
      simp only [Option.map_eq_some_iff] at heq
      obtain ⟨r, hr, he⟩ := heq
      cases he
      exact same (Instr.lookup t (a.eval m) (a.eval k) b) (by unfold execOp; rw [ho]) rfl (lookupV_sound hT hte ok hr (hρ m (by simp [Op.operands])) (hρ k (by simp [Op.operands])))
    · cases heq
  case h_24 t m k x =>
    split at heq
    · rename_i te hte
      simp only [Option.map_eq_some_iff] at heq
      obtain ⟨r, hr, he⟩ := heq
      cases he
      obtain ⟨w', h1, h2, h3⟩ := mapUpdateV_sound hT hte ok hr (hρ m (by simp [Op.operands])) (hρ k (by simp [Op.operands])) (hρ x (by simp [Op.operands]))
      refine wp_skipped (w' := w') ?_ (hnext _ G w' (.undef _) h2 h3 (by
        unfold mapUpdateV at hr
        split at hr
        · split at hr
          · cases hr; simp
          · cases hr
        · cases hr))
      unfold execOp; rw [ho]
      exact run_u h1
    · cases heq
  case h_25 c =>
    have hargs : ∀ x ∈ c.args, VR G (ρ x) (a.eval x) := fun x hx => hρ x (by simp only [Op.operands, Call.operands, Array.mem_append]; exact .inr hx)
    have hvs : VRs G (c.args.toList.map ρ) (c.args.map a.eval) := VRs.map_eval hargs
    split at heq
    · -- a builtin
      rename_i b hcb
      have hex : ∀ (s : Sem Value), (∀ cs : Array Bool, builtin b c.argTypes o.type cs (c.args.map a.eval) = (do pure (Next.value (← s)))) → (execOp a.eval o = do pure (Next.value (← s))) := by
        intro s hs
        unfold execOp
        rw [ho]
        simp only [resolve, hcb, pure_bind, invoke]
        exact hs _
      have core : ∀ {H H' : Hp} {G : Gh} {v : V} (ok : GOK G w H) (hvs : VRs G (c.args.toList.map ρ) (c.args.map a.eval)), builtinV cx H b (c.args.toList.map ρ) c.argTypes = some (v, H') →
          ∃ u w' G', (execOp a.eval o).run P w = .ok (.value u) w' ∧ VR G' v u ∧ GOK G' w' H' ∧ Ext H.length G H w G' H' w' ∧ H.length ≤ H'.length := by
        intro H H' G v ok hvs heq
        have same : ∀ (s : Sem Value), (execOp a.eval o = do pure (Next.value (← s))) → H' = H → (∃ c, s.run P w = .ok c w ∧ VR G v c) →
            ∃ u w' G', (execOp a.eval o).run P w = .ok (.value u) w' ∧ VR G' v u ∧ GOK G' w' H' ∧ Ext H.length G H w G' H' w' ∧ H.length ≤ H'.length := by
          rintro s hs rfl ⟨c, h1, h2⟩
          exact ⟨c, w, G, by rw [hs]; exact run_v h1, h2, ok, Ext.refl _ _ _ _, Nat.le_refl _⟩
        have hl1 : ∀ x, c.args.toList.map ρ = [x] → ∃ y, c.args.map a.eval = #[y] ∧ VR G x y := by
          intro x hx
          have h1 := hvs.1
          rw [hx] at h1
          have hsz : (c.args.map a.eval).size = 1 := h1.symm
          refine ⟨(c.args.map a.eval)[0], ?_, hvs.2 0 x _ (by rw [hx]; rfl) (by simp [hsz])⟩
          apply Array.ext
          · simpa using hsz
          · intro j hj1 hj2
            have : j = 0 := by simp at hj2; exact hj2
            subst this
            rfl
        have hl2 : ∀ x1 x2, c.args.toList.map ρ = [x1, x2] → ∃ y1 y2, c.args.map a.eval = #[y1, y2] ∧ VR G x1 y1 ∧ VR G x2 y2 := by
          intro x1 x2 hx
          have h1 := hvs.1
          rw [hx] at h1
          have hsz : (c.args.map a.eval).size = 2 := h1.symm
          refine ⟨(c.args.map a.eval)[0], (c.args.map a.eval)[1], ?_, hvs.2 0 x1 _ (by rw [hx]; rfl) (by simp [hsz]), hvs.2 1 x2 _ (by rw [hx]; rfl) (by simp [hsz])⟩
          apply Array.ext
          · simpa using hsz
          · intro j hj1 hj2
            have : j = 0 ∨ j = 1 := by simp at hj2; omega
            rcases this with rfl | rfl <;> rfl
        unfold builtinV at heq
        split at heq
        · rename_i x hx _
          obtain ⟨y, hy, hxy⟩ := hl1 x hx
          split at heq
          · rename_i ti hti
            simp only [Option.bind_eq_some_iff] at hti
            obtain ⟨t, ht, hti⟩ := hti
            split at heq
            · rename_i n hn
              cases heq
              exact same (Builtin.len_ c.argTypes o.type (c.args.map a.eval)) (hex _ fun _ => rfl) rfl ⟨_, by rw [hy]; exact lenV_sound (hT _ _ hti) hn hxy c.argTypes ht o.type w, .p (.int _ _)⟩
            · cases heq
          · cases heq
        · simp only [Option.map_eq_some_iff] at heq
          obtain ⟨r, hr, he⟩ := heq
          cases he
          obtain ⟨u, h1, h2⟩ := min_sound (P := P) hr hvs c.argTypes o.type w
          exact same (Builtin.min_ c.argTypes o.type (c.args.map a.eval)) (hex _ fun _ => rfl) rfl ⟨u, h1, .p h2⟩
        · simp only [Option.map_eq_some_iff] at heq
          obtain ⟨r, hr, he⟩ := heq
          cases he
          obtain ⟨u, h1, h2⟩ := max_sound (P := P) hr hvs c.argTypes o.type w
          exact same (Builtin.max_ c.argTypes o.type (c.args.map a.eval)) (hex _ fun _ => rfl) rfl ⟨u, h1, .p h2⟩
        · rename_i s x hsx _
          obtain ⟨y1, y2, hy, h1, h2⟩ := hl2 s x hsx
          have happ : ∀ t u ti, c.argTypes[0]? = some t → c.argTypes[1]? = some u → cx.T t = some ti → noInt P u → appendV ti H s x = some (v, H') →
              ∃ u w' G', (execOp a.eval o).run P w = .ok (.value u) w' ∧ VR G' v u ∧ GOK G' w' H' ∧ Ext H.length G H w G' H' w' ∧ H.length ≤ H'.length := by
            intro t u ti ht hu hti hn hap
            obtain ⟨c', w', G', q1, q2, q3, q4⟩ := appendV_sound ht hu hn o.type (hT _ _ hti) ok hap h1 h2
            refine ⟨c', w', G', ?_, q2, q3, q4, append_len hap⟩
            rw [hex (Builtin.append_ c.argTypes o.type (c.args.map a.eval)) fun _ => rfl]
            refine run_v ?_
            rw [hy]
            exact q1
          split at heq
          · rename_i t u ht hu
            split at heq
            · rename_i hti htu
              have hk := ti_kd (hT _ _ htu)
              exact happ t u _ ht hu hti (.inl ⟨_, hk.1⟩) heq
            · rename_i hti htu
              have hk := ti_kd (hT _ _ htu)
              exact happ t u _ ht hu hti (.inr hk) heq
            · cases heq
          · cases heq
        · cases heq
      have plain : ∀ {v : V} {H' : Hp}, builtinV cx H b (c.args.toList.map ρ) c.argTypes = some (v, H') → (∀ c G' w', VR G' v c → GOK G' w' H' → Ext H.length G H w G' H' w' → H.length ≤ H'.length → next (a.put o.dst c) w') → o.wp P a w next Q := by
        intro v H' heq hnext
        obtain ⟨u, w', G', q1, q2, q3, q4, q5⟩ := core ok hvs heq
        exact wp_value q1 (hnext u G' w' q2 q3 q4 q5)
      split at heq
      · -- over plain values
        unfold pureB at heq
        split at heq
        · cases heq
        · rename_i pl hpl
          split at heq
          · rename_i r1 H1 hc1
            have hp0 : VRs { C := G.C, pl := fun _ _ => none, mp := fun _ => none } (c.args.toList.map ρ) (c.args.map a.eval) := by
              have := (hvs.toP hpl)
              rw [allP_eq hpl]
              exact PRs.toV this
            obtain ⟨u, w', G1, q1, q2, q3, q4, q5⟩ := core (ok_none ok) hp0 hc1
            split at heq
            · rename_i q hq
              cases heq
              obtain ⟨G2, k1, k2, k3⟩ := markCells_sound q3 r1
              have hu := k3 u q2
              rw [hq] at hu
              have e2 : Ext 0 { C := G.C, pl := fun _ _ => none, mp := fun _ => none } [] w G2 (markCells H1 r1) w' := (q4.weaken (Nat.zero_le _)).trans (k2.weaken (Nat.zero_le _))
              obtain ⟨b1, b2⟩ := back ok k1 e2
              exact wp_value q1 (hnext u { G with C := G2.C } w' (VR.p (G := { G with C := G2.C }) hu.p_inv) b1 b2 (Nat.le_refl _))
            · cases heq
          · cases heq
      · split at heq
        · exact plain heq hnext
        · cases heq
      · exact plain heq hnext
    · -- a function value
      rename_i fo hcf
      have hf := hρ fo (by simp [Op.operands, Call.operands, hcf])
      unfold callV at heq
      split at heq
      · cases heq
      · rename_i f x y hcal
        obtain ⟨fa, fb, hfe, hfa, hfb⟩ := callee_inv hcal hf
        have hall : VRs G (x ++ c.args.toList.map ρ ++ y) (fa ++ c.args.map a.eval ++ fb) := (hfa.append hvs).append hfb
        have enter : (∃ fn, P.funcs[f]? = some fn ∧ fn.name ≠ "runtime.NumGoroutine" ∧ fn.body.isSome = true) → (execOp a.eval o).run P w = .ok (.enter f (fa ++ c.args.map a.eval ++ fb)) w := by
          rintro ⟨fn, h1, h2, h3⟩
          have hb : fn.body.isNone = false := by cases h : fn.body <;> simp [h] at h3 ⊢
          unfold execOp
          rw [ho]
          simp only [resolve, hcf, hfe, Deferred.ofValue, pure_bind, invoke, callFunc, Sem.run_bind, run_program, Result.andThen_ok, h1]
          simp [h2, hb]
        have go : ∀ {R : Ending → World → Prop}, (∃ fn, P.funcs[f]? = some fn ∧ fn.name ≠ "runtime.NumGoroutine" ∧ fn.body.isSome = true) →
            Calls P f (fa ++ c.args.map a.eval ++ fb) w R → (∀ e w', R e w' → ∃ c, e = .returned c ∧ next (a.put o.dst c) w') → o.wp P a w next Q := by
          intro R hfn hc hR
          unfold Oper.wp
          rw [enter hfn, Oper.upon_enter]
          refine hc.mono fun e w' h => ?_
          obtain ⟨c, rfl, hn⟩ := hR e w' h
          exact hn
        split at heq
        · obtain ⟨hfn, hcc⟩ := hcall _ _ _ _ _ heq
          refine go hfn (hcc G w _ ok gl hall) ?_
          rintro e w' ⟨u, G', rfl, h1, h2, h3, h4⟩
          exact ⟨u, rfl, hnext u G' w' h1 h2 h3 h4⟩
        · simp only [Option.map_eq_some_iff] at heq
          obtain ⟨r, hr, he⟩ := heq
          cases he
          unfold pureCall at hr
          split at hr
          · cases hr
          · rename_i pl hpl
            split at hr
            · rename_i r1 H1 hc1
              obtain ⟨hfn, hcc⟩ := hcall _ _ _ _ _ hc1
              have hp0 : VRs { C := G.C, pl := fun _ _ => none, mp := fun _ => none } (x ++ c.args.toList.map ρ ++ y) (fa ++ c.args.map a.eval ++ fb) := by
                have := (hall.toP hpl)
                rw [allP_eq hpl]
                exact PRs.toV this
              refine go hfn (hcc _ w _ (ok_none ok) (gl : GlOK cx { C := G.C, pl := fun _ _ => none, mp := fun _ => none }) hp0) ?_
              rintro e w' ⟨u, G1, rfl, h1, h2, h3, h4⟩
              split at hr
              · rename_i q hq
                cases hr
                have fin : ∀ {G1 : Gh} {H1 : Hp}, GOK G1 w' H1 → Ext 0 { C := G.C, pl := fun _ _ => none, mp := fun _ => none } [] w G1 H1 w' → VR G1 r1 u → frzCells H1 r1 = .p q →
                    ∃ c, Ending.returned u = .returned c ∧ next (a.put o.dst c) w' := by
                  intro G1 H1 h2 h3 h1 hq
                  obtain ⟨G2, k1, k2, k3⟩ := markCells_sound h2 r1
                  have hu := k3 u h1
                  rw [hq] at hu
                  have e2 : Ext 0 { C := G.C, pl := fun _ _ => none, mp := fun _ => none } [] w G2 (markCells H1 r1) w' := (h3.weaken (Nat.zero_le _)).trans (k2.weaken (Nat.zero_le _))
                  obtain ⟨b1, b2⟩ := back ok k1 e2
                  exact ⟨u, rfl, hnext u { G with C := G2.C } w' (VR.p (G := { G with C := G2.C }) hu.p_inv) b1 b2 (Nat.le_refl _)⟩
                unfold frzD at hq
                split at hq
                · rename_i y hy
                  cases hq
                  exact fin h2 (h3.weaken (Nat.zero_le _)) h1 hy
                · obtain ⟨G2, k1, k2, -⟩ := hardV_sound 8 r1 h2
                  exact fin k1 ((h3.weaken (Nat.zero_le _)).trans (k2.weaken (Nat.zero_le _))) (k2.vr h2 h1) hq
              · cases hr
            · cases hr
    · cases heq
  case h_26 => cases heq
end Go.AX
