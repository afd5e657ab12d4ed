/-
  'AX' AND THE MODEL: the pure operations, part two.
-/
import Derived.Test.YtojpocfnjigmfaaDoorAX3
set_option linter.unusedVariables false
set_option linter.unusedSimpArgs false
namespace Go.AX
open Go
variable {P : Program}

theorem PR.int_inv {C : Nat → Nat → Option Value} {k : IntKind} {n : Int} {c : Value} (h : PR C (.int k n) c) : c = .int k n := by cases h; rfl
theorem PR.bool_inv {C : Nat → Nat → Option Value} {n : Bool} {c : Value} (h : PR C (.bool n) c) : c = .bool n := by cases h; rfl
theorem PR.str_inv {C : Nat → Nat → Option Value} {s : List UInt8} {c : Value} (h : PR C (.str s) c) : ∃ b : ByteArray, c = .string b ∧ b.data.toList = s := by cases h; exact ⟨_, rfl, by assumption⟩
theorem VR.p_inv {G : Gh} {x : Pv} {c : Value} (h : VR G (.p x) c) : PR G.C x c := by cases h; assumption

theorem run_eqFields (C : Nat → Nat → Option Value) (w : World) (d : Nat) (xs ys : Array Value) : ∀ (l : List Field) (i : Nat) (ks : List Nat) (a b : List Pv) (r : Bool),
    plainEqs P i l = some ks →
    (∀ (j : Nat) x, a[j]? = some x → ∃ u, xs[i + j]? = some u ∧ PR C x u) → (∀ (j : Nat) x, b[j]? = some x → ∃ u, ys[i + j]? = some u ∧ PR C x u) →
    eqCells ks a b = some r → (Op.eqFields (d + 1) xs ys l).run P w = .ok r w
  | [], i, ks, a, b, r, hl, ha, hb, h => by
    simp [plainEqs] at hl
    subst hl
    unfold eqCells at h
    split at h
    · cases h; simp [Op.eqFields]
    all_goals first | contradiction | cases h
  | f :: l, i, ks, a, b, r, hl, ha, hb, h => by
    simp only [plainEqs] at hl
    split at hl
    · rename_i k ks' hk hks
      split at hl
      · rename_i hf
        cases hl
        obtain ⟨hf1, hf3, hf4⟩ := hf
        obtain ⟨fi, hf3⟩ := Option.isSome_iff_exists.1 hf3
        have step : ∀ x y a' b' q r', a = x :: a' → b = y :: b' → aggOf P f.type = false → (∃ d, P.underlying f.type = some d) →
            (∀ u v, PR C x u → PR C y v → (Op.equalIn (d + 1) f.type u v).run P w = .ok q w) → eqCells ks' a' b' = some r' → r = (q && r') →
            (Op.eqFields (d + 1) xs ys (f :: l)).run P w = .ok r w := by
          intro x y a' b' q r' hx hy hag hdd he hr hrr
          subst hx; subst hy
          obtain ⟨u, hu, hxu⟩ := ha 0 x rfl
          obtain ⟨v, hv, hyv⟩ := hb 0 y rfl
          obtain ⟨du, hd⟩ := hdd
          simp only [Nat.add_zero] at hu hv
          have ih := run_eqFields C w d xs ys l (i + 1) ks' a' b' r' hks
            (fun j x hj => by rw [show i + 1 + j = i + (j + 1) by omega]; exact ha (j + 1) x (by simpa using hj))
            (fun j x hj => by rw [show i + 1 + j = i + (j + 1) by omega]; exact hb (j + 1) x (by simpa using hj)) hr
          have pa : (part f.type xs f.offset).run P w = .ok u w := by rw [run_part hf3 hd, if_neg (by simp [hag]), hf4, hu]
          have pb : (part f.type ys f.offset).run P w = .ok v w := by rw [run_part hf3 hd, if_neg (by simp [hag]), hf4, hv]
          rw [Op.eqFields, if_pos hf1]
          simp only [Sem.run_bind, pa, pb, he u v hxu hyv, Result.andThen_ok]
          cases q
          · simp [hrr]
          · simp [hrr, ih]
        unfold eqCells at h
        split at h
        · contradiction
        · obtain ⟨rfl, rfl⟩ := List.cons.inj ‹k :: ks' = 1 :: _›
          split at h
          · rename_i hkk
            subst hkk
            simp only [Option.map_eq_some_iff] at h
            obtain ⟨r', hr', rfl⟩ := h
            unfold plainEq at hk
            split at hk <;> first | (rename_i hu; exact step _ _ _ _ _ r' rfl rfl (by simp [aggOf, hu]) ⟨_, hu⟩ (fun u v h1 h2 => by rw [h1.int_inv, h2.int_inv]; exact run_equalIn_int w d f.type _ _ _ _ hu) hr' rfl) | (simp at hk)
          · cases h
        · obtain ⟨rfl, rfl⟩ := List.cons.inj ‹k :: ks' = 0 :: _›
          simp only [Option.map_eq_some_iff] at h
          obtain ⟨r', hr', rfl⟩ := h
          unfold plainEq at hk
          split at hk <;> first | (rename_i hu; exact step _ _ _ _ _ r' rfl rfl (by simp [aggOf, hu]) ⟨_, hu⟩ (fun u v h1 h2 => by rw [h1.bool_inv, h2.bool_inv]; exact run_equalIn_bool' w d f.type _ _ hu) hr' rfl) | (simp at hk)
        · obtain ⟨rfl, rfl⟩ := List.cons.inj ‹k :: ks' = 2 :: _›
          simp only [Option.map_eq_some_iff] at h
          obtain ⟨r', hr', rfl⟩ := h
          unfold plainEq at hk
          split at hk <;> first | (rename_i hu; exact step _ _ _ _ _ r' rfl rfl (by simp [aggOf, hu]) ⟨_, hu⟩ (fun u v h1 h2 => by
            obtain ⟨b1, rfl, e1⟩ := h1.str_inv
            obtain ⟨b2, rfl, e2⟩ := h2.str_inv
            rw [run_equalIn_string w d f.type _ _ hu, ByteArray.toList_eq, ByteArray.toList_eq, e1, e2]) hr' rfl) | (simp at hk)
        · cases h
      · cases hl
    · cases hl
end Go.AX
