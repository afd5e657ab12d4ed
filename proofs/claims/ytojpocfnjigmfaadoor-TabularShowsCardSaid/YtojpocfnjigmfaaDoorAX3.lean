/-
  'AX' AND THE MODEL: the pure operations.
-/
import Derived.Test.YtojpocfnjigmfaaDoorAX2
import Derived.Laws.StructEq
import Derived.Laws.Slices
import Derived.Lib.ConvBytes
import Derived.Laws.BytesArg
set_option linter.unusedSimpArgs false
set_option linter.unusedVariables false
namespace Go.AX
open Go
variable {P : Program}

theorem ti_parts {t : TypeId} {ti : TI} (h : tiOf P t = some ti) : ∃ i, P.info? t = some i ∧ i.size = ti.size ∧ kdOf P t = some ti.kd ∧ ti.agg = aggOf P t ∧ ti.eq = eqOf P t ∧ zeroOf i = some ti.zero := by
  unfold tiOf at h
  split at h
  · rename_i i k hi hk
    split at h
    · rename_i z hz
      cases h
      exact ⟨i, hi, rfl, hk, rfl, rfl, hz⟩
    · cases h
  · cases h
theorem ti_zv {t : TypeId} {ti : TI} (h : tiOf P t = some ti) : ∃ i, P.info? t = some i ∧ ti.zv = i.zero.bind ofValue := by
  unfold tiOf at h
  split at h
  · rename_i i k hi hk
    split at h
    · cases h
      exact ⟨i, hi, rfl⟩
    · cases h
  · cases h
def kdSays (P : Program) (t : TypeId) : Kd → Prop
  | .bool => P.underlying t = some .bool
  | .int k => P.underlying t = some (.int k)
  | .str => P.underlying t = some .string
  | .ptr => ∃ e, P.underlying t = some (.pointer e)
  | .func => ∃ a b c, P.underlying t = some (.func a b c)
  | .map k e => P.underlying t = some (.map k e)
  | .other => True
  | .slice e esz eb eagg u8 => P.underlying t = some (.slice e) ∧ (∃ i, P.info? e = some i ∧ i.size = esz ∧ i.bytes = eb ∧ ∃ z, i.zero = some z ∧ z.cells.size = esz) ∧ eagg = aggOf P e ∧ (u8 = true → P.underlying e = some (.int .u8))
  | .array n esz eagg => ∃ e, P.underlying t = some (.array n e) ∧ (∃ i, P.info? e = some i ∧ i.size = esz) ∧ eagg = aggOf P e ∧ (∃ d, P.underlying e = some d)
  | .struct fs => ∃ fs', P.underlying t = some (.struct fs') ∧ fisOf P fs'.toList = some fs
theorem kd_says {t : TypeId} {k : Kd} (h : kdOf P t = some k) : kdSays P t k := by
  unfold kdOf at h
  split at h
  · cases h; assumption
  · cases h; assumption
  · cases h; assumption
  · cases h; exact ⟨_, by assumption⟩
  · cases h; exact ⟨_, _, _, by assumption⟩
  · cases h; assumption
  · rename_i e hu
    split at h
    · rename_i i hi
      split at h
      · rename_i z hz
        split at h
        · rename_i hzs
          cases h
          refine ⟨hu, ⟨i, hi, rfl, rfl, z, hz, hzs⟩, rfl, fun h8 => ?_⟩
          split at h8
          · assumption
          · cases h8
        · cases h
      · cases h
    · cases h
  · rename_i n e hu
    split at h
    · rename_i i d hi hd
      cases h
      exact ⟨e, hu, ⟨i, hi, rfl⟩, rfl, ⟨d, hd⟩⟩
    · cases h
  · rename_i fs hu
    simp only [Option.map_eq_some_iff] at h
    obtain ⟨l, hl, rfl⟩ := h
    exact ⟨fs, hu, hl⟩
  · cases h; trivial
  · cases h
theorem ti_kd {t : TypeId} {ti : TI} (h : tiOf P t = some ti) : kdSays P t ti.kd := by
  obtain ⟨i, _, _, hk, _⟩ := ti_parts h
  exact kd_says hk
theorem fi_at : ∀ {l : List Field} {fs : List FI}, fisOf P l = some fs → ∀ (j : Nat) fi, fs[j]? = some fi → ∃ f, l[j]? = some f ∧ fiOf P f = some fi
  | [], fs, h, j, fi, hj => by simp [fisOf] at h; subst h; simp at hj
  | f :: l, fs, h, j, fi, hj => by
    simp only [fisOf] at h
    split at h
    · rename_i x r hx hr
      cases h
      cases j with
      | zero => simp at hj; subst hj; exact ⟨f, rfl, hx⟩
      | succ j => simp at hj; exact fi_at hr j fi hj
    · cases h
theorem fi_parts {f : Field} {fi : FI} (h : fiOf P f = some fi) : ∃ i d, P.info? f.type = some i ∧ i.size = fi.size ∧ f.offset = fi.off ∧ aggOf P f.type = fi.agg ∧ P.underlying f.type = some d := by
  unfold fiOf at h
  split at h
  · rename_i i d hi hd
    cases h
    exact ⟨i, d, hi, rfl, rfl, rfl, hd⟩
  · cases h

section
variable (w : World)
theorem run_typeInfo' {t : TypeId} {i : TypeInfo} (h : P.info? t = some i) : (typeInfo t).run P w = .ok i w := by simp [typeInfo, h]
theorem run_sizeOf' {t : TypeId} {i : TypeInfo} (h : P.info? t = some i) : (sizeOf t).run P w = .ok i.size w := by simp [sizeOf, typeInfo, h]
theorem underlying_some {t : TypeId} (hk : (kdOf P t).isSome = true) : ∃ d, P.underlying t = some d := by
  unfold kdOf at hk
  split at hk <;> first | exact ⟨_, by assumption⟩ | cases hk
theorem run_isAgg' {t : TypeId} {d : TypeDesc} (h : P.underlying t = some d) : (isAgg t).run P w = .ok (aggOf P t) w := by
  unfold isAgg aggOf
  simp only [Sem.run_bind, run_underlying h, Result.andThen_ok, h]
  cases d <;> rfl
end

theorem wrap_small {k : IntKind} {n : Int} (s : Bool) (hs : k.signed = s) (N M : Int) (hN : (2 ^ k.bits : Int) = N) (hM : (2 ^ (k.bits - 1) : Int) = M) (hMN : N = 2 * M) (h : if s = true then -M ≤ n ∧ n < M else 0 ≤ n ∧ n < N) : k.wrap n = n := by
  unfold IntKind.wrap
  simp only [hN, hM, hs]
  cases s
  · simp at h ⊢
    exact Int.emod_eq_of_lt h.1 h.2
  · simp at h ⊢
    rcases Int.lt_or_le n 0 with h0 | h0
    · have he : n % N = n + N := by rw [← Int.add_emod_right]; exact Int.emod_eq_of_lt (by omega) (by omega)
      rw [he, if_pos (by omega)]; omega
    · rw [Int.emod_eq_of_lt h0 (by omega), if_neg (by omega)]
theorem wrapK_eq (k : IntKind) (n : Int) : wrapK k n = k.wrap n := by
  unfold wrapK
  split
  · rename_i h
    unfold inK at h
    split at h
    · have := Nat.le_of_ble_eq_true h; exact (wrap_small true rfl 18446744073709551616 9223372036854775808 rfl rfl (by decide) (by simp only [if_true, Int.ofNat_eq_natCast]; omega)).symm
    · have := Nat.le_of_ble_eq_true h; exact (wrap_small true rfl 18446744073709551616 9223372036854775808 rfl rfl (by decide) (by simp only [if_true, Int.ofNat_eq_natCast]; omega)).symm
    · have := Nat.le_of_ble_eq_true h; exact (wrap_small false rfl 256 128 rfl rfl (by decide) (by simp only [Bool.false_eq_true, if_false, Int.ofNat_eq_natCast]; omega)).symm
    · have := Nat.le_of_ble_eq_true h; exact (wrap_small false rfl 18446744073709551616 9223372036854775808 rfl rfl (by decide) (by simp only [Bool.false_eq_true, if_false, Int.ofNat_eq_natCast]; omega)).symm
    · have := Nat.le_of_ble_eq_true h; exact (wrap_small false rfl 4294967296 2147483648 rfl rfl (by decide) (by simp only [Bool.false_eq_true, if_false, Int.ofNat_eq_natCast]; omega)).symm
    · have := Nat.le_of_ble_eq_true h; exact (wrap_small true rfl 4294967296 2147483648 rfl rfl (by decide) (by simp only [if_true, Int.ofNat_eq_natCast]; omega)).symm
    · have := Nat.le_of_ble_eq_true h; exact (wrap_small true rfl 4294967296 2147483648 rfl rfl (by decide) (by simp only [if_true, Int.ofNat_eq_natCast]; omega)).symm
    · cases h
  · rfl

theorem cut_eq {α : Type} {l r : List α} {off n : Nat} (h : cut l off n = some r) : off + n ≤ l.length ∧ r = (l.drop off).take n := by
  unfold cut at h
  split at h
  · rename_i hb
    cases h
    exact ⟨Nat.le_of_ble_eq_true hb, rfl⟩
  · cases h
theorem cut_length {α : Type} {l r : List α} {off n : Nat} (h : cut l off n = some r) : r.length = n := by
  obtain ⟨h1, rfl⟩ := cut_eq h
  simp; omega
theorem cut_at {α : Type} {l r : List α} {off n : Nat} (h : cut l off n = some r) {j : Nat} {x : α} (hj : r[j]? = some x) : l[off + j]? = some x ∧ j < n := by
  obtain ⟨h1, rfl⟩ := cut_eq h
  rw [List.getElem?_take] at hj
  split at hj
  · rw [List.getElem?_drop] at hj; exact ⟨hj, by assumption⟩
  · cases hj
theorem run_part {t : TypeId} {i : TypeInfo} {d : TypeDesc} (hi : P.info? t = some i) (hd : P.underlying t = some d) (c : Array Value) (off : Nat) (w : World) :
    (part t c off).run P w = if aggOf P t = true then .ok (.agg (c.extract off (off + i.size))) w else match c[off]? with
      | some v => .ok v w
      | none => .halt (.stuck "part: no such cell") w := by
  unfold part
  simp only [Sem.run_bind, run_isAgg' w hd, Result.andThen_ok]
  split
  · simp [run_sizeOf' w hi]
  · split <;> simp_all
theorem oneCell_extract {c : Array Value} {a b : Nat} (h1 : ∀ (j : Nat) v, c[j]? = some v → v.oneCell' = true) : ∀ (j : Nat) v, (c.extract a b)[j]? = some v → v.oneCell' = true := by
  intro j v hv
  rw [Array.getElem?_extract] at hv
  split at hv
  · exact h1 _ v hv
  · cases hv

theorem partP_sound {C : Nat → Nat → Option Value} {cs : List Pv} {c : Array Value} (h : PRs C cs c) (h1 : ∀ (j : Nat) v, c[j]? = some v → v.oneCell' = true)
    {t : TypeId} {i : TypeInfo} {d : TypeDesc} (hi : P.info? t = some i) (hd : P.underlying t = some d) {off : Nat} {r : Pv} (hr : partP (aggOf P t) i.size off cs = some r) (w : World) :
    ∃ v, (part t c off).run P w = .ok v w ∧ PR C r v := by
  rw [run_part hi hd]
  unfold partP at hr
  split at hr
  · rename_i ha
    rw [if_pos ha]
    simp only [Option.map_eq_some_iff] at hr
    obtain ⟨x, hx, rfl⟩ := hr
    obtain ⟨hle, hx'⟩ := cut_eq hx
    have hl := cut_length hx
    refine ⟨_, rfl, .agg ?_ (oneCell_extract h1) ?_⟩
    · rw [hl, Array.size_extract]; rw [h.1] at hle; omega
    · intro j y v hy hv
      obtain ⟨hy', hj⟩ := cut_at hx hy
      rw [Array.getElem?_extract] at hv
      split at hv
      · exact h.2 _ y v hy' hv
      · cases hv
  · rename_i ha
    rw [if_neg (by simp [ha])]
    have hlt : off < cs.length := (List.getElem?_eq_some_iff.1 hr).1
    have hlt' : off < c.size := by rw [← h.1]; exact hlt
    have hc : c[off]? = some c[off] := Array.getElem?_eq_getElem hlt'
    rw [hc]
    exact ⟨_, rfl, h.2 off r _ hr hc⟩
theorem partV_sound {G : Gh} {cs : List V} {c : Array Value} (h : VRs G cs c) (h1 : ∀ (j : Nat) v, c[j]? = some v → v.oneCell' = true)
    {t : TypeId} {i : TypeInfo} {d : TypeDesc} (hi : P.info? t = some i) (hd : P.underlying t = some d) {off : Nat} {r : V} (hr : partV (aggOf P t) i.size off cs = some r) (w : World) :
    ∃ v, (part t c off).run P w = .ok v w ∧ VR G r v := by
  rw [run_part hi hd]
  unfold partV at hr
  split at hr
  · rename_i ha
    rw [if_pos ha]
    simp only [Option.map_eq_some_iff] at hr
    obtain ⟨x, hx, rfl⟩ := hr
    obtain ⟨hle, hx'⟩ := cut_eq hx
    have hl := cut_length hx
    refine ⟨_, rfl, VRs.agg ⟨?_, ?_⟩ (oneCell_extract h1)⟩
    · rw [hl, Array.size_extract]; rw [h.1] at hle; omega
    · intro j y v hy hv
      obtain ⟨hy', hj⟩ := cut_at hx hy
      rw [Array.getElem?_extract] at hv
      split at hv
      · exact h.2 _ y v hy' hv
      · cases hv
  · rename_i ha
    rw [if_neg (by simp [ha])]
    have hlt : off < cs.length := (List.getElem?_eq_some_iff.1 hr).1
    have hlt' : off < c.size := by rw [← h.1]; exact hlt
    have hc : c[off]? = some c[off] := Array.getElem?_eq_getElem hlt'
    rw [hc]
    exact ⟨_, rfl, h.2 off r _ hr hc⟩

theorem arith_sound {k : IntKind} {op : BinOp} {a b : Int} {r : Pv} (h : arith k op a b = some r) (t : TypeId) (x y : Operand) (C : Nat → Nat → Option Value) (w : World) :
    ∃ c, (do eqGuard op t x y (.int k a) (.int k b); binOp op t (.int k a) (.int k b) : Sem Value).run P w = .ok c w ∧ PR C r c := by
  rw [eqGuard_at_int]
  unfold arith at h
  split at h
  · cases h; exact ⟨_, by simp [binOp_add, Op.intArith] <;> rfl, by rw [wrapK_eq]; exact .int _ _⟩
  · cases h; exact ⟨_, by simp [binOp_sub, Op.intArith] <;> rfl, by rw [wrapK_eq]; exact .int _ _⟩
  · cases h; exact ⟨_, by simp [binOp_mul, Op.intArith] <;> rfl, by rw [wrapK_eq]; exact .int _ _⟩
  · split at h
    · cases h
    · rename_i hb; cases h; exact ⟨_, by simp [binOp_quo, Op.intDiv, hb] <;> rfl, by rw [wrapK_eq]; exact .int _ _⟩
  · split at h
    · cases h
    · rename_i hb; cases h; exact ⟨_, by simp [binOp_rem, Op.intDiv, hb] <;> rfl, .int _ _⟩
  · cases h; exact ⟨_, by simp [binOp_eql] <;> rfl, .bool _⟩
  · cases h; exact ⟨_, by simp [binOp_neq] <;> rfl, .bool _⟩
  · cases h; exact ⟨_, by simp [binOp_lss] <;> rfl, .bool _⟩
  · cases h; exact ⟨_, by simp [binOp_leq] <;> rfl, .bool _⟩
  · cases h; exact ⟨_, by simp [binOp_gtr] <;> rfl, .bool _⟩
  · cases h; exact ⟨_, by simp [binOp_geq] <;> rfl, .bool _⟩
  · cases h
theorem size_data (b : ByteArray) : b.size = b.data.toList.length := by show b.data.size = _; simp
theorem strOp_sound {op : BinOp} {a b : List UInt8} {a' b' : ByteArray} (ha : a'.data.toList = a) (hb : b'.data.toList = b) {r : Pv} (h : strOp op a b = some r)
    (t : TypeId) (x y : Operand) (C : Nat → Nat → Option Value) (w : World) :
    ∃ c, (do eqGuard op t x y (.string a') (.string b'); binOp op t (.string a') (.string b') : Sem Value).run P w = .ok c w ∧ PR C r c := by
  rw [eqGuard_at_string]
  have hop : binOp op t (.string a') (.string b') = Op.stringOp op a' b' := by cases op <;> simp [binOp]
  have e1 := ByteArray.toList_eq a'
  have e2 := ByteArray.toList_eq b'
  rw [ha] at e1; rw [hb] at e2
  simp only [hop]
  unfold strOp at h
  split at h
  · split at h
    · rename_i hl
      cases h
      have hl' := Nat.le_of_ble_eq_true hl
      refine ⟨.string (a' ++ b'), ?_, .str (by simp [ha, hb])⟩
      have : ¬ (((a'.size + b'.size : Nat) : Int) > 9223372036854775807) := by
        rw [size_data, size_data, ha, hb]; omega
      simp only [Op.stringOp, IntKind.max_i64, if_neg this]
      simp
    · cases h
  · cases h; exact ⟨_, by simp [Op.stringOp, e1, e2] <;> rfl, .bool _⟩
  · cases h; exact ⟨_, by simp [Op.stringOp, e1, e2] <;> rfl, .bool _⟩
  · cases h; exact ⟨_, by simp [Op.stringOp, e1, e2] <;> rfl, .bool _⟩
  · cases h; exact ⟨_, by simp [Op.stringOp, e1, e2] <;> rfl, .bool _⟩
  · cases h; exact ⟨_, by simp [Op.stringOp, e1, e2] <;> rfl, .bool _⟩
  · cases h; exact ⟨_, by simp [Op.stringOp, e1, e2] <;> rfl, .bool _⟩
  · cases h
theorem eqn_parts {op : BinOp} {r : Bool} {x : Pv} (h : eqn op r = some x) : (op = .eql ∧ x = .bool r) ∨ (op = .neq ∧ x = .bool (!r)) := by
  unfold eqn at h
  split at h
  · cases h; exact .inl ⟨rfl, rfl⟩
  · cases h; exact .inr ⟨rfl, rfl⟩
  · cases h
theorem eqn_sound {op : BinOp} {r : Bool} {x : Pv} (h : eqn op r = some x) (t : TypeId) (X Y : Operand) (u v : Value) (C : Nat → Nat → Option Value) (w : World)
    (hg : ∀ op, (eqGuard op t X Y u v).run P w = .ok () w) (hb : ∀ op, op = .eql ∨ op = .neq → binOp op t u v = if op = .eql then (do pure (.bool (← Op.equal t u v)) : Sem Value) else (do pure (.bool (!(← Op.equal t u v)))))
    (he : (Op.equal t u v).run P w = .ok r w) : ∃ c, (do eqGuard op t X Y u v; binOp op t u v : Sem Value).run P w = .ok c w ∧ PR C x c := by
  rcases eqn_parts h with ⟨rfl, rfl⟩ | ⟨rfl, rfl⟩
  · refine ⟨.bool r, ?_, .bool _⟩
    simp [hg, hb, he]
  · refine ⟨.bool (!r), ?_, .bool _⟩
    simp [hg, hb, he]
end Go.AX
