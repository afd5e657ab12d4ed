/-
  'AX' AND THE MODEL: the order of a region's operations.
-/
import Derived.Test.YtojpocfnjigmfaaDoorAX6
set_option linter.unusedVariables false
set_option linter.unusedSimpArgs false
namespace Go.AX
open Go
variable {P : Program}

inductive Topo (ops : Array Oper) : List Nat → List Nat → Prop where
  | nil {X : List Nat} : Topo ops X []
  | cons {X : List Nat} {i : Nat} {rest : List Nat} {o : Oper} (ho : ops[i]? = some o) (hn : i ∉ X) (he : ∀ e ∈ o.after, Region.binds .any e = true → e.on ∈ X) (h : Topo ops (i :: X) rest) : Topo ops X (i :: rest)

theorem binds_any {e : Edge} (h : Region.binds .any e = true) (m : Region.Mode) : Region.binds m e = true := by
  obtain ⟨on, g⟩ := e
  cases g <;> first | rfl | (exact absurd h (by simp [Region.binds]; decide)) | (simp [Region.binds] at h)

theorem filter_lt {p q : Nat → Bool} {i : Nat} : ∀ {l : List Nat}, i ∈ l → p i = true → q i = false → (∀ x, q x = true → p x = true) → (l.filter q).length < (l.filter p).length
  | [], h, _, _, _ => by cases h
  | x :: l, h, hp, hq, hpq => by
    have hle : ∀ l : List Nat, (l.filter q).length ≤ (l.filter p).length := by
      intro l
      induction l with
      | nil => exact Nat.le_refl _
      | cons y l ih =>
        simp only [List.filter_cons]
        cases hy : q y with
        | true => simp [hpq y hy]; exact ih
        | false => cases p y <;> simp <;> omega
    rcases List.mem_cons.1 h with rfl | h
    · have := hle l
      simp [List.filter_cons, hp, hq]
      omega
    · have ih := filter_lt h hp hq hpq
      simp only [List.filter_cons]
      cases hy : q x with
      | true => simp [hpq x hy]; exact ih
      | false => cases p x <;> simp <;> omega

theorem getD_set {listed : Array Bool} {i j : Nat} (d : Bool) (h : i < listed.size) : (listed.setIfInBounds i true).getD j d = if j = i then true else listed.getD j d := by
  by_cases hj : j = i
  · subst hj; simp [h]
  · simp [hj, Ne.symm hj]

theorem go_topo {ops : Array Oper} {m : Region.Mode} {rk : Nat → Nat} (hedge : ∀ (i : Nat) o, ops[i]? = some o → ∀ e ∈ o.after, Region.binds m e = true → e.on < ops.size ∧ rk e.on < rk i) : ∀ (fuel t : Nat) (listed : Array Bool) (acc : List Nat),
    listed.size = ops.size → (∀ i, i < ops.size → (listed.getD i true = true ↔ i ∈ acc)) → (∀ i ∈ acc, i < ops.size) → ((List.range ops.size).filter fun i => !listed.getD i true).length ≤ fuel →
    ∃ rest, Region.linearise.go m ops fuel t listed acc = acc.reverse ++ rest ∧ Topo ops acc rest ∧ ∀ i, i < ops.size → i ∈ acc ∨ i ∈ rest
  | 0, t, listed, acc, hs, hl, hb, hf => by
    refine ⟨[], by simp [Region.linearise.go], .nil, fun i hi => .inl ?_⟩
    rw [← hl i hi]
    have h0 : (List.range ops.size).filter (fun i => !listed.getD i true) = [] := List.eq_nil_of_length_eq_zero (Nat.le_zero.1 hf)
    have := List.filter_eq_nil_iff.1 h0 i (List.mem_range.2 hi)
    simpa using this
  | fuel + 1, t, listed, acc, hs, hl, hb, hf => by
    unfold Region.linearise.go
    simp only
    generalize hrs : (List.range ops.size).filter (fun i => !listed.getD i true && ((ops[i]?).map (·.after.all fun e => !Region.binds m e || listed.getD e.on false)).getD false) = rs
    cases hp : rs[t % rs.length]? with
    | none =>
      -- nothing can be done: then all is done
      have hnil : rs = [] := by
        rcases Nat.eq_zero_or_pos rs.length with h | h
        · exact List.eq_nil_of_length_eq_zero h
        · rw [List.getElem?_eq_getElem (Nat.mod_lt _ h)] at hp; cases hp
      refine ⟨[], by simp, .nil, ?_⟩
      have hall : ∀ n i, rk i < n → i < ops.size → i ∈ acc := by
        intro n
        induction n with
        | zero => intro i hi; omega
        | succ n ih =>
          intro i hi hio
          rcases Nat.lt_or_ge (rk i) n with h | h
          · exact ih i h hio
          · have hin : rk i = n := by omega
            rw [hnil] at hrs
            have := List.filter_eq_nil_iff.1 hrs i (List.mem_range.2 hio)
            have hoi : ops[i]? = some ops[i] := Array.getElem?_eq_getElem hio
            cases hli : listed.getD i true with
            | true => exact (hl i hio).1 hli
            | false =>
              exfalso
              apply this
              simp only [hli, hoi, Option.map_some, Option.getD_some, Bool.not_false, Bool.true_and]
              rw [Array.all_eq_true']
              intro e he
              cases hbe : Region.binds m e with
              | false => rfl
              | true =>
              obtain ⟨h1, h2⟩ := hedge i _ hoi e he hbe
              have hm := (hl e.on (by omega)).2 (ih e.on (by omega) (by omega))
              have hlt : e.on < listed.size := by omega
              have q : ∀ d, listed.getD e.on d = listed[e.on] := fun d => by simp [hlt]
              rw [q] at hm ⊢
              rw [hm]
              simp
      exact fun i hi => .inl (hall (rk i + 1) i (by omega) hi)
    | some i =>
      have hmem : i ∈ rs := List.mem_of_getElem? hp
      rw [← hrs] at hmem
      obtain ⟨hir, hcond⟩ := List.mem_filter.1 hmem
      have hio := List.mem_range.1 hir
      have hoi : ops[i]? = some ops[i] := Array.getElem?_eq_getElem hio
      simp only [hoi, Option.map_some, Option.getD_some, Bool.and_eq_true, Bool.not_eq_true'] at hcond
      obtain ⟨hli, hed⟩ := hcond
      have hni : i ∉ acc := fun h => by rw [(hl i hio).2 h] at hli; cases hli
      have hg := fun j d => getD_set (listed := listed) (i := i) (j := j) d (by omega)
      obtain ⟨rest, h1, h2, h3⟩ := go_topo hedge fuel (t / rs.length) (listed.setIfInBounds i true) (i :: acc) (by simpa using hs)
        (fun j hj => by
          rw [hg]
          by_cases hji : j = i
          · subst hji; simp
          · rw [if_neg hji, hl j hj]; simp [hji])
        (fun j hj => by
          rcases List.mem_cons.1 hj with rfl | hj
          · exact hio
          · exact hb j hj)
        (by
          have := filter_lt (p := fun j => !listed.getD j true) (q := fun j => !(listed.setIfInBounds i true).getD j true) (l := List.range ops.size) (i := i) hir (by simp [hli]) (by simp [hg]) (fun x hx => by
            simp only [hg] at hx
            split at hx
            · cases hx
            · exact hx)
          omega)
      refine ⟨i :: rest, by simp only; rw [h1]; simp, .cons hoi hni (fun e he hbe => ?_) h2, fun j hj => ?_⟩
      · obtain ⟨e1, -⟩ := hedge i _ hoi e he (binds_any hbe m)
        have e2 := binds_any hbe m
        have := (Array.all_eq_true'.1 hed) e he
        rw [e2] at this
        simp only [Bool.not_true, Bool.false_or] at this
        refine (hl e.on (by omega)).1 ?_
        have hlt : e.on < listed.size := by omega
        have q : ∀ d, listed.getD e.on d = listed[e.on] := fun d => by simp [hlt]
        rw [q] at this ⊢
        exact this
      · rcases h3 j hj with h | h
        · rcases List.mem_cons.1 h with rfl | h
          · exact .inr (List.mem_cons_self)
          · exact .inl h
        · exact .inr (List.mem_cons_of_mem _ h)

theorem lin_topo {ops : Array Oper} {m : Region.Mode} {rk : Nat → Nat} (hedge : ∀ (i : Nat) o, ops[i]? = some o → ∀ e ∈ o.after, Region.binds m e = true → e.on < ops.size ∧ rk e.on < rk i) (t : Nat) :
    Topo ops [] (Region.linearise m ops t) ∧ ∀ i, i < ops.size → i ∈ Region.linearise m ops t := by
  obtain ⟨rest, h1, h2, h3⟩ := go_topo hedge ops.size t (Array.replicate ops.size false) [] (by simp) (fun i hi => by simp [Array.getD, hi]) (by simp) (by
    have := List.length_filter_le (fun i => !(Array.replicate ops.size false).getD i true) (List.range ops.size)
    simpa using this)
  unfold Region.linearise
  rw [h1]
  simp only [List.reverse_nil, List.nil_append]
  exact ⟨h2, fun i hi => by simpa using h3 i hi⟩

theorem schedule_topo {ops : Array Oper} (hedge : ∀ (i : Nat) o, ops[i]? = some o → ∀ e ∈ o.after, Region.binds .text e = true → e.on < i)
    (hgc : (∀ (i : Nat) o, ops[i]? = some o → ∀ e ∈ o.after, Region.binds .any e = true) ∨ ∃ rk : Nat → Nat, ∀ (i : Nat) o, ops[i]? = some o → ∀ e ∈ o.after, Region.binds .gc e = true → e.on < ops.size ∧ rk e.on < rk i) (mixed : Bool) (t : Nat) :
    Topo ops [] (Region.schedule mixed ops t) ∧ ∀ i, i < ops.size → i ∈ Region.schedule mixed ops t := by
  have text : ∀ (m : Region.Mode), (∀ e, Region.binds m e = true → Region.binds .text e = true) → ∀ (i : Nat) o, ops[i]? = some o → ∀ e ∈ o.after, Region.binds m e = true → e.on < ops.size ∧ id e.on < id i := fun m hm i o ho e he hb => by
    have h1 := hedge i o ho e he (hm e hb)
    have h2 := (Array.getElem?_eq_some_iff.1 ho).1
    exact ⟨by omega, h1⟩
  unfold Region.schedule
  split
  · exact lin_topo (text .any fun e h => binds_any h _) t
  · rename_i hd
    split
    · exact lin_topo (text .text fun e h => h) _
    · rcases hgc with hall | ⟨rk, hrk⟩
      · exfalso
        apply hd
        have : Region.departs ops = false := by
          unfold Region.departs
          cases h : ops.any (·.after.any fun e => !Region.binds .any e) with
          | false => rfl
          | true =>
            exfalso
            rw [Array.any_eq_true'] at h
            obtain ⟨o, ho, h⟩ := h
            rw [Array.any_eq_true'] at h
            obtain ⟨e, he, h⟩ := h
            obtain ⟨i, hi⟩ := Array.getElem?_of_mem ho
            rw [hall i o hi e he] at h
            cases h
        simp [this]
      · exact lin_topo hrk _

def bef (f : Nat → Nat) (s : Nat) (e : Edge) : Nat := match Region.binds .any e with
  | true => s ||| 2 ^ e.on ||| f e.on
  | false => s
theorem befores_len : ∀ (l : List Oper) (acc : List Nat), (befores l acc).length = acc.length + l.length
  | [], acc => by simp [befores]
  | o :: l, acc => by simp [befores, befores_len l]; omega
theorem befores_old : ∀ (l : List Oper) (acc : List Nat) (i : Nat), i < acc.length → (befores l acc).getD i 0 = acc.getD i 0
  | [], acc, i, h => rfl
  | o :: l, acc, i, h => by
    rw [befores, befores_old l _ i (by simp; omega)]
    simp [List.getD, List.getElem?_append, h]
theorem befores_at : ∀ (l : List Oper) (acc : List Nat) (m : Nat) (o : Oper), l[m]? = some o → (∀ e ∈ o.after, Region.binds .any e = true → e.on < acc.length + m) →
    (befores l acc).getD (acc.length + m) 0 = o.after.toList.foldl (bef fun k => (befores l acc).getD k 0) 0
  | [], acc, m, o, h, he => by simp at h
  | o' :: l, acc, 0, o, h, he => by
    simp at h
    subst h
    have key : ∀ (es : List Edge) (s : Nat), (∀ e ∈ es, Region.binds .any e = true → e.on < acc.length) → es.foldl (bef fun k => acc.getD k 0) s = es.foldl (bef fun k => (befores (o' :: l) acc).getD k 0) s := by
      intro es
      induction es with
      | nil => intro s _; rfl
      | cons e es ih =>
        intro s hs
        simp only [List.foldl_cons]
        rw [ih _ (fun e he => hs e (by simp [he]))]
        congr 1
        unfold bef
        split
        · rename_i hb
          simp only
          rw [befores_old (o' :: l) acc e.on (hs e (by simp) hb)]
        · rfl
    rw [← key _ _ (fun e h hb => by have := he e (by simpa using h) hb; simpa using this)]
    rw [befores, befores_old l _ _ (by simp)]
    simp [List.getD]
    rfl
  | o' :: l, acc, m + 1, o, h, he => by
    have := befores_at l (acc ++ [o'.after.toList.foldl (bef fun k => acc.getD k 0) 0]) m o (by simpa using h) (fun e h hb => by have := he e h hb; simp; omega)
    simp only [List.length_append, List.length_cons, List.length_nil, Nat.zero_add] at this
    rw [befores]
    rw [show acc.length + (m + 1) = acc.length + 1 + m by omega]
    exact this

theorem testBit_fold (f : Nat → Nat) : ∀ (es : List Edge) (s j : Nat), (es.foldl (bef f) s).testBit j = true → s.testBit j = true ∨ ∃ e ∈ es, Region.binds .any e = true ∧ (j = e.on ∨ (f e.on).testBit j = true)
  | [], s, j, h => .inl h
  | e :: es, s, j, h => by
    simp only [List.foldl_cons] at h
    rcases testBit_fold f es _ j h with h | ⟨e', he', h⟩
    · unfold bef at h
      split at h
      · rename_i hb
        simp only [Nat.testBit_or, Bool.or_eq_true] at h
        rcases h with (h | h) | h
        · exact .inl h
        · refine .inr ⟨e, by simp, hb, .inl ?_⟩
          rw [Nat.testBit_two_pow] at h
          exact (of_decide_eq_true h).symm
        · exact .inr ⟨e, by simp, hb, .inr h⟩
      · exact .inl h
    · exact .inr ⟨e', by simp [he'], h⟩

theorem ahead_done {ops : Array Oper} (hedge : ∀ (i : Nat) o, ops[i]? = some o → ∀ e ∈ o.after, Region.binds .text e = true → e.on < i) {X : List Nat}
    (hX : ∀ i ∈ X, ∀ j, ((befores ops.toList []).getD i 0).testBit j = true → j ∈ X) {i : Nat} {o : Oper} (ho : ops[i]? = some o) (he : ∀ e ∈ o.after, Region.binds .any e = true → e.on ∈ X) :
    ∀ j, ((befores ops.toList []).getD i 0).testBit j = true → j ∈ X := by
  intro j hj
  have hb := befores_at ops.toList [] i o (by simpa using ho) (fun e h hb => by simpa using hedge i o ho e h (binds_any hb _))
  simp only [List.length_nil, Nat.zero_add] at hb
  rw [hb] at hj
  rcases testBit_fold (fun k => (befores ops.toList []).getD k 0) _ _ _ hj with h | ⟨e, hem, hb', h⟩
  · simp at h
  · have hex := he e (by simpa using hem) hb'
    rcases h with rfl | h
    · exact hex
    · exact hX _ hex j h
end Go.AX
