/-
  'AX' AND THE MODEL: operators, conversions, slices, indexes.
-/
import Derived.Test.YtojpocfnjigmfaaDoorAX4
set_option linter.unusedVariables false
set_option linter.unusedSimpArgs false
namespace Go.AX
open Go
variable {P : Program}

def TOK (P : Program) (T : TypeId → Option TI) : Prop := ∀ t i, T t = some i → tiOf P t = some i

theorem binOp_eql_eq {op : BinOp} (h : op = .eql ∨ op = .neq) (t : TypeId) {u v : Value} (hu : ∀ k n, u ≠ .int k n) (hf : ∀ k n, u ≠ .float k n) (hc : ∀ k n m, u ≠ .complex k n m) (hs : ∀ s, u ≠ .string s) :
    binOp op t u v = if op = .eql then (do pure (.bool (← Op.equal t u v)) : Sem Value) else (do pure (.bool (!(← Op.equal t u v)))) := by
  rcases h with rfl | rfl
  · cases u <;> first | rfl | (exact absurd rfl (hu _ _)) | (exact absurd rfl (hf _ _)) | (exact absurd rfl (hc _ _ _)) | (exact absurd rfl (hs _))
  · cases u <;> first | rfl | (exact absurd rfl (hu _ _)) | (exact absurd rfl (hf _ _)) | (exact absurd rfl (hc _ _ _)) | (exact absurd rfl (hs _))

section
variable {t : TypeId} {e : TypeId} (w : World)
theorem eqIn_nils (h : P.underlying t = some (.slice e)) (d : Nat) : (Op.equalIn (d + 1) t (.slice none 0 0) (.slice none 0 0)).run P w = .ok true w := by simp [Op.equalIn, run_underlying h]
theorem eqIn_slNil (h : P.underlying t = some (.slice e)) (d : Nat) (a : Addr) (n c : Nat) : (Op.equalIn (d + 1) t (.slice (some a) n c) (.slice none 0 0)).run P w = .ok false w := by simp [Op.equalIn, run_underlying h]
theorem eqIn_nilSl (h : P.underlying t = some (.slice e)) (d : Nat) (a : Addr) (n c : Nat) : (Op.equalIn (d + 1) t (.slice none 0 0) (.slice (some a) n c)).run P w = .ok false w := by simp [Op.equalIn, run_underlying h]
theorem eqIn_nilp (h : P.underlying t = some (.pointer e)) (d : Nat) : (Op.equalIn (d + 1) t (.pointer none) (.pointer none)).run P w = .ok true w := by simp [Op.equalIn, run_underlying h]
theorem eqIn_ptrNil (h : P.underlying t = some (.pointer e)) (d : Nat) (a : Addr) : (Op.equalIn (d + 1) t (.pointer (some a)) (.pointer none)).run P w = .ok false w := by simp [Op.equalIn, run_underlying h]
theorem eqIn_nilPtr (h : P.underlying t = some (.pointer e)) (d : Nat) (a : Addr) : (Op.equalIn (d + 1) t (.pointer none) (.pointer (some a))).run P w = .ok false w := by simp [Op.equalIn, run_underlying h]
theorem eqIn_nilf {x y : Array TypeId} {z : Bool} (h : P.underlying t = some (.func x y z)) (d : Nat) : (Op.equalIn (d + 1) t .nilFunc .nilFunc).run P w = .ok true w := by simp [Op.equalIn, run_underlying h]
theorem eqIn_fnNil {x y : Array TypeId} {z : Bool} (h : P.underlying t = some (.func x y z)) (d : Nat) (f : Fn) (a b : Array Value) : (Op.equalIn (d + 1) t (.func f a b) .nilFunc).run P w = .ok false w := by simp [Op.equalIn, run_underlying h]
theorem eqIn_nilFn {x y : Array TypeId} {z : Bool} (h : P.underlying t = some (.func x y z)) (d : Nat) (f : Fn) (a b : Array Value) : (Op.equalIn (d + 1) t .nilFunc (.func f a b)).run P w = .ok false w := by simp [Op.equalIn, run_underlying h]
theorem eqIn_nilm {k : TypeId} (h : P.underlying t = some (.map k e)) (d : Nat) : (Op.equalIn (d + 1) t (.map none) (.map none)).run P w = .ok true w := by simp [Op.equalIn, run_underlying h]
end

theorem binP_sound {T : TypeId → Option TI} (hT : TOK P T) {t : TypeId} {op : BinOp} {x y r : Pv} (h : binP (T t) op x y = some r) {C : Nat → Nat → Option Value} {u v : Value} (hu : PR C x u) (hv : PR C y v) (X Y : Operand) (w : World) :
    ∃ c, (do eqGuard op t X Y u v; binOp op t u v : Sem Value).run P w = .ok c w ∧ PR C r c := by
  unfold binP at h
  split at h
  · rw [hu.int_inv, hv.int_inv]
    split at h
    · rename_i hk; subst hk; exact arith_sound h t X Y C w
    · cases h
  · obtain ⟨a, rfl, ha⟩ := hu.str_inv
    obtain ⟨b, rfl, hb⟩ := hv.str_inv
    exact strOp_sound ha hb h t X Y C w
  · rw [hu.bool_inv, hv.bool_inv]
    split at h
    · rename_i hti
      have hk := ti_kd (hT _ _ hti)
      simp only [kdSays] at hk
      refine eqn_sound h t X Y _ _ C w (fun op => by rw [eqGuard_at_bool]; rfl) (fun op ho => binOp_eql_eq ho t (by simp) (by simp) (by simp) (by simp)) ?_
      show (Op.equalIn (9999 + 1) t _ _).run P w = _
      exact run_equalIn_bool' w 9999 t _ _ hk
    · cases h
  · split at h
    · rename_i ks hti
      split at h
      · rename_i r' hr'
        obtain ⟨i, _, _, _, _, he, _⟩ := ti_parts (hT _ _ hti)
        simp only at he
        unfold eqOf at he
        split at he
        · rename_i fs hfs
          split at he
          · rename_i hh
            cases hu; cases hv
            rename_i c1 s1 o1 h1 c2 s2 o2 h2
            have hf : P.fieldsOf t = fs := by simp [Program.fieldsOf, hfs]
            refine eqn_sound h t X Y _ _ C w (fun op => run_eqGuard_agg w op t X Y c1 c2 hh.2) (fun op ho => binOp_eql_eq ho t (by simp) (by simp) (by simp) (by simp)) ?_
            show (Op.equalIn (9999 + 1) t _ _).run P w = _
            rw [run_equalIn_struct w 9999 t c1 c2 (by rw [hf]; exact hfs) hh.1, hf]
            refine run_eqFields C w 9998 c1 c2 fs.toList 0 ks _ _ _ he.symm ?_ ?_ hr'
            · intro j x hj
              have hl : j < c1.size := by rw [← o1]; exact (List.getElem?_eq_some_iff.1 hj).1
              exact ⟨c1[j], by simp [hl], h1 j x _ hj (by simp [hl])⟩
            · intro j x hj
              have hl : j < c2.size := by rw [← o2]; exact (List.getElem?_eq_some_iff.1 hj).1
              exact ⟨c2[j], by simp [hl], h2 j x _ hj (by simp [hl])⟩
          · cases he
        · cases he
      · cases h
    · cases h
  · split at h
    · rename_i hti
      obtain ⟨hk, _⟩ := ti_kd (hT _ _ hti)
      cases hu; cases hv
      refine eqn_sound h t X Y _ _ C w (fun op => by rw [eqGuard_at_slice]; rfl) (fun op ho => binOp_eql_eq ho t (by simp) (by simp) (by simp) (by simp)) ?_
      show (Op.equalIn (9999 + 1) t _ _).run P w = _
      exact eqIn_nils w hk 9999
    · cases h
  · split at h
    · rename_i hti
      obtain ⟨e, hk⟩ := ti_kd (hT _ _ hti)
      cases hu; cases hv
      refine eqn_sound h t X Y _ _ C w (fun op => by rw [eqGuard_at_pointer]; rfl) (fun op ho => binOp_eql_eq ho t (by simp) (by simp) (by simp) (by simp)) ?_
      show (Op.equalIn (9999 + 1) t _ _).run P w = _
      exact eqIn_nilp w hk 9999
    · cases h
  · split at h
    · rename_i hti
      obtain ⟨e1, e2, e3, hk⟩ := ti_kd (hT _ _ hti)
      cases hu; cases hv
      refine eqn_sound h t X Y _ _ C w (fun op => by rw [eqGuard_at_nilFunc]; rfl) (fun op ho => binOp_eql_eq ho t (by simp) (by simp) (by simp) (by simp)) ?_
      show (Op.equalIn (9999 + 1) t _ _).run P w = _
      exact eqIn_nilf w hk 9999
    · cases h
  · split at h
    · rename_i hti
      have hk := ti_kd (hT _ _ hti)
      simp only [kdSays] at hk
      cases hu; cases hv
      refine eqn_sound h t X Y _ _ C w (fun op => by rw [eqGuard_at_map]; rfl) (fun op ho => binOp_eql_eq ho t (by simp) (by simp) (by simp) (by simp)) ?_
      show (Op.equalIn (9999 + 1) t _ _).run P w = _
      exact eqIn_nilm w hk 9999
    · cases h
  · split at h
    · rename_i hti
      obtain ⟨hk, _⟩ := ti_kd (hT _ _ hti)
      cases hu; cases hv
      refine eqn_sound h t X Y _ _ C w (fun op => by rw [eqGuard_at_slice]; rfl) (fun op ho => binOp_eql_eq ho t (by simp) (by simp) (by simp) (by simp)) ?_
      show (Op.equalIn (9999 + 1) t _ _).run P w = _
      exact eqIn_slNil w hk 9999 _ _ _
    · cases h
  · split at h
    · rename_i hti
      obtain ⟨hk, _⟩ := ti_kd (hT _ _ hti)
      cases hu; cases hv
      refine eqn_sound h t X Y _ _ C w (fun op => by rw [eqGuard_at_slice]; rfl) (fun op ho => binOp_eql_eq ho t (by simp) (by simp) (by simp) (by simp)) ?_
      show (Op.equalIn (9999 + 1) t _ _).run P w = _
      exact eqIn_nilSl w hk 9999 _ _ _
    · cases h
  · split at h
    · rename_i hti
      obtain ⟨e1, e2, e3, hk⟩ := ti_kd (hT _ _ hti)
      cases hu; cases hv
      refine eqn_sound h t X Y _ _ C w (fun op => by rw [eqGuard_at_func]; rfl) (fun op ho => binOp_eql_eq ho t (by simp) (by simp) (by simp) (by simp)) ?_
      show (Op.equalIn (9999 + 1) t _ _).run P w = _
      exact eqIn_fnNil w hk 9999 _ _ _
    · cases h
  · split at h
    · rename_i hti
      obtain ⟨e1, e2, e3, hk⟩ := ti_kd (hT _ _ hti)
      cases hu; cases hv
      refine eqn_sound h t X Y _ _ C w (fun op => by rw [eqGuard_at_nilFunc]; rfl) (fun op ho => binOp_eql_eq ho t (by simp) (by simp) (by simp) (by simp)) ?_
      show (Op.equalIn (9999 + 1) t _ _).run P w = _
      exact eqIn_nilFn w hk 9999 _ _ _
    · cases h
  · cases h

theorem binV_sound {T : TypeId → Option TI} (hT : TOK P T) {t : TypeId} {op : BinOp} {x y r : V} (h : binV (T t) op x y = some r) {G : Gh} {u v : Value} (hu : VR G x u) (hv : VR G y v) (X Y : Operand) (w : World) :
    ∃ c, (do eqGuard op t X Y u v; binOp op t u v : Sem Value).run P w = .ok c w ∧ VR G r c := by
  unfold binV at h
  split at h
  · simp only [Option.map_eq_some_iff] at h
    obtain ⟨r', hr', rfl⟩ := h
    obtain ⟨c, h1, h2⟩ := binP_sound hT hr' hu.p_inv hv.p_inv X Y w
    exact ⟨c, h1, .p h2⟩
  · split at h
    · rename_i hti
      obtain ⟨e, hk⟩ := ti_kd (hT _ _ hti)
      simp only [Option.map_eq_some_iff] at h
      obtain ⟨r', hr', rfl⟩ := h
      cases hu; cases hv.p_inv
      refine Exists.imp (fun c hc => ⟨hc.1, VR.p hc.2⟩) (eqn_sound hr' t X Y _ _ G.C w (fun op => by rw [eqGuard_at_pointer]; rfl) (fun op ho => binOp_eql_eq ho t (by simp) (by simp) (by simp) (by simp)) ?_)
      show (Op.equalIn (9999 + 1) t _ _).run P w = _
      exact eqIn_ptrNil w hk 9999 _
    · cases h
  · split at h
    · rename_i hti
      obtain ⟨e, hk⟩ := ti_kd (hT _ _ hti)
      simp only [Option.map_eq_some_iff] at h
      obtain ⟨r', hr', rfl⟩ := h
      cases hv; cases hu.p_inv
      refine Exists.imp (fun c hc => ⟨hc.1, VR.p hc.2⟩) (eqn_sound hr' t X Y _ _ G.C w (fun op => by rw [eqGuard_at_pointer]; rfl) (fun op ho => binOp_eql_eq ho t (by simp) (by simp) (by simp) (by simp)) ?_)
      show (Op.equalIn (9999 + 1) t _ _).run P w = _
      exact eqIn_nilPtr w hk 9999 _
    · cases h
  · split at h
    · rename_i hti
      obtain ⟨hk, _⟩ := ti_kd (hT _ _ hti)
      simp only [Option.map_eq_some_iff] at h
      obtain ⟨r', hr', rfl⟩ := h
      cases hu; cases hv.p_inv
      refine Exists.imp (fun c hc => ⟨hc.1, VR.p hc.2⟩) (eqn_sound hr' t X Y _ _ G.C w (fun op => by rw [eqGuard_at_slice]; rfl) (fun op ho => binOp_eql_eq ho t (by simp) (by simp) (by simp) (by simp)) ?_)
      show (Op.equalIn (9999 + 1) t _ _).run P w = _
      exact eqIn_slNil w hk 9999 _ _ _
    · cases h
  · cases h

theorem unP_sound {op : UnOp} {x r : Pv} (h : unP op x = some r) {C : Nat → Nat → Option Value} {u : Value} (hu : PR C x u) (w : World) :
    ∃ c, (Op.unary op u).run P w = .ok c w ∧ PR C r c := by
  unfold unP at h
  split at h
  · cases h; rw [hu.int_inv]; exact ⟨_, by simp [Op.unary, Op.intArith] <;> rfl, by rw [wrapK_eq]; simpa using PR.int _ _⟩
  · cases h; rw [hu.bool_inv]; exact ⟨_, by simp [Op.unary] <;> rfl, .bool _⟩
  · cases h

theorem upTo_inv {G : Gh} {v : V} {n i : Nat} (h : upTo v n = some i) {c : Value} (hc : VR G v c) : (∃ k, c = .int k (i : Int)) ∧ i ≤ n := by
  unfold upTo at h
  split at h
  · split at h
    · rename_i hb; cases h; exact ⟨⟨_, hc.p_inv.int_inv⟩, Nat.le_of_ble_eq_true hb⟩
    · cases h
  · cases h
theorem below_inv {G : Gh} {v : V} {n i : Nat} (h : below v n = some i) {c : Value} (hc : VR G v c) : (∃ k, c = .int k (i : Int)) ∧ i < n := by
  unfold below at h
  split at h
  · split at h
    · rename_i hb; cases h; exact ⟨⟨_, hc.p_inv.int_inv⟩, Nat.le_of_ble_eq_true hb⟩
    · cases h
  · cases h
def VRo (G : Gh) : Option V → Option Value → Prop
  | some v, some c => VR G v c
  | none, none => True
  | _, _ => False
theorem run_sliceBound_ok {k : IntKind} {i y : Nat} (h : i ≤ y) (code : BoundsCode) (w : World) : (Instr.sliceBound (.int k (i : Int)) y code).run P w = .ok i w := by
  have := run_sliceBound (P := P) w k (i : Int) y code (by omega) (by omega)
  simpa using this
theorem bounds_sound {G : Gh} {len cap : Nat} {lo hi mx : Option V} {l h : Nat} {m : Option Nat} (hb : bounds len lo hi mx = some (l, h, m)) (hlc : len ≤ cap)
    {lo' hi' mx' : Option Value} (h1 : VRo G lo lo') (h2 : VRo G hi hi') (h3 : VRo G mx mx') (b : Bool) (w : World) :
    (Instr.sliceBounds b len cap lo' hi' mx').run P w = .ok (l, h, m.getD cap) w ∧ l ≤ h ∧ h ≤ len ∧ (∀ x, m = some x → h ≤ x ∧ x ≤ len) ∧ (m = none ↔ mx = none) := by
  unfold bounds at hb
  split at hb
  · cases hb
  rename_i m' hm
  split at hb
  · cases hb
  rename_i h' hh
  split at hb
  · cases hb
  rename_i l' hl
  cases hb
  have hM : (mx = none ∧ mx' = none ∧ m = none) ∨ (∃ v k, ∃ x : Nat, mx = some v ∧ mx' = some (.int k (x : Int)) ∧ m = some x ∧ x ≤ len) := by
    cases mx with
    | none => cases mx' with
      | none => simp [bMax] at hm; exact .inl ⟨rfl, rfl, hm.symm⟩
      | some c => exact h3.elim
    | some v => cases mx' with
      | none => exact h3.elim
      | some c =>
        simp only [bMax, Option.map_eq_some_iff] at hm
        obtain ⟨x, hx, rfl⟩ := hm
        obtain ⟨⟨k, rfl⟩, hle⟩ := upTo_inv hx h3
        exact .inr ⟨v, k, x, rfl, rfl, rfl, hle⟩
  have hL : (lo' = none ∧ l = 0) ∨ (∃ k, lo' = some (.int k (l : Int)) ∧ l ≤ h) := by
    cases lo with
    | none => cases lo' with
      | some c => exact h1.elim
      | none => simp [bLo] at hl; exact .inl ⟨rfl, hl.symm⟩
    | some v => cases lo' with
      | none => exact h1.elim
      | some c =>
        simp only [bLo] at hl
        obtain ⟨⟨k, rfl⟩, hle⟩ := upTo_inv hl h1
        exact .inr ⟨k, rfl, hle⟩
  have hH : (hi' = none ∧ mx = none ∧ h = len) ∨ (∃ k, hi' = some (.int k (h : Int)) ∧ h ≤ m.getD len) := by
    cases hi with
    | none => cases hi' with
      | some c => exact h2.elim
      | none => cases mx with
        | some v => simp [bHi] at hh
        | none => simp [bHi] at hh; exact .inl ⟨rfl, rfl, hh.symm⟩
    | some v => cases hi' with
      | none => exact h2.elim
      | some c =>
        simp only [bHi] at hh
        obtain ⟨⟨k, rfl⟩, hle⟩ := upTo_inv hh h2
        exact .inr ⟨k, rfl, hle⟩
  clear hm hh hl h1 h2 h3
  have hlh : l ≤ h := by rcases hL with ⟨_, rfl⟩ | ⟨_, _, h'⟩ <;> omega
  rcases hM with ⟨rfl, rfl, rfl⟩ | ⟨v, k, x, rfl, rfl, rfl, hx⟩
  · have hhl : h ≤ len := by rcases hH with ⟨_, _, rfl⟩ | ⟨_, _, h'⟩ <;> simp_all
    refine ⟨?_, hlh, hhl, by simp, by simp⟩
    have e2 : ∀ c, h ≤ cap := fun _ => by omega
    rcases hH with ⟨rfl, _, rfl⟩ | ⟨k2, rfl, _⟩ <;> rcases hL with ⟨rfl, rfl⟩ | ⟨k3, rfl, h3'⟩ <;> unfold Instr.sliceBounds <;>
      simp [run_sliceBound_ok (P := P) (w := w) (show h ≤ cap by omega), run_sliceBound_ok (P := P) (w := w) hlh]
  · have hhx : h ≤ x := by rcases hH with ⟨_, h', _⟩ | ⟨_, _, h'⟩ <;> simp_all
    refine ⟨?_, hlh, by omega, by simp; omega, by simp⟩
    rcases hH with ⟨_, h', _⟩ | ⟨k2, rfl, _⟩
    · cases h'
    · rcases hL with ⟨rfl, rfl⟩ | ⟨k3, rfl, h3'⟩ <;> unfold Instr.sliceBounds <;>
        simp [run_sliceBound_ok (P := P) (w := w) (show x ≤ cap by omega), run_sliceBound_ok (P := P) (w := w) hhx, run_sliceBound_ok (P := P) (w := w) hlh]
end Go.AX
