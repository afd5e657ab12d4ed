import Derived.Test.YtojpocfnjigmfaaDoorE4d
import Derived.Test.YtojpocfnjigmfaaDoorF5
import Derived.Test.YtojpocfnjigmfaaDoorF6
import Derived.Test.YtojpocfnjigmfaaDoorG1
set_option maxRecDepth 10000
set_option linter.unusedSimpArgs false
set_option linter.unusedVariables false
namespace Go.Proofs.YtojpocfnjigmfaaDoor
open Go Go.AX
/-- The reader at the word that begins at a place or behind its blanks. -/
def rdP (text : List UInt8) (p : Nat) : Rd := stepF text ⟨0, p, [], 0, 0⟩
/-- What stands from a place on. -/
def At (text : List UInt8) (p : Nat) (s : List UInt8) : Prop := p ≤ text.length ∧ text.drop p = s
/-- Where a word may end. -/
def Bd : List UInt8 → Prop
  | [] => True
  | c :: _ => c = 32 ∨ c = 41 ∨ c = 44
theorem stepF_rd {text : List UInt8} {r : Rd} (he : r.e = 0) (hb : r.bad = 0) : stepF text r = rdP text r.next := by
  obtain ⟨a, n, w, e, b⟩ := r
  simp only at he hb
  subst he hb
  simp only [rdP, stepF, failF, ne_eq, not_true_eq_false, if_false]
theorem At.add {text : List UInt8} {p : Nat} {w s : List UInt8} (h : At text p (w ++ s)) : At text (p + w.length) s := by
  obtain ⟨h1, h2⟩ := h
  refine ⟨?_, ?_⟩
  · have := congrArg List.length h2
    simp only [List.length_drop, List.length_append] at this
    omega
  · rw [← List.drop_drop, h2, List.drop_left]
theorem At.one {text : List UInt8} {p : Nat} {c : UInt8} {s : List UInt8} (h : At text p (c :: s)) : At text (p + 1) s := At.add (w := [c]) h
theorem At.get {text : List UInt8} {p : Nat} {s : List UInt8} (h : At text p s) (k : Nat) : text[p + k]? = s[k]? := by
  rw [← h.2, List.getElem?_drop]
theorem At.len {text : List UInt8} {p : Nat} {s : List UInt8} (h : At text p s) : p + s.length = text.length := by
  have := congrArg List.length h.2
  have := h.1
  simp only [List.length_drop] at *
  omega
theorem runL_at {text : List UInt8} {p : Nat} {s : List UInt8} (f : UInt8 → Bool) (h : At text p s) : runL f text p = p + (s.takeWhile f).length := by
  rw [runL, h.2]
theorem take_while {f : UInt8 → Bool} {s : List UInt8} : ∀ {w : List UInt8}, (∀ c ∈ w, f c = true) → (∀ c t, s = c :: t → f c = false) → (w ++ s).takeWhile f = w
  | [], _, h => by
    cases s with
    | nil => rfl
    | cons c t => rw [List.nil_append, List.takeWhile_cons_of_neg (by rw [h c t rfl]; decide)]
  | a :: w, h1, h2 => by
    rw [List.cons_append, List.takeWhile_cons_of_pos (h1 a (by simp)), take_while (fun c hc => h1 c (by simp [hc])) h2]
theorem rd_blank {text : List UInt8} {p : Nat} {s : List UInt8} (h : At text p (32 :: s)) : rdP text p = rdP text (p + 1) := by
  have hg : text[p]? = some 32 := h.get 0
  have e : runL blank text p = runL blank text (p + 1) := by rw [runL_step hg, if_pos (by decide)]
  simp only [rdP, stepF, e, ne_eq, not_true_eq_false, if_false]
theorem rd_end {text : List UInt8} {p : Nat} (h : At text p []) : rdP text p = ⟨p, p, [], 0, 0⟩ := by
  have hl := h.len
  have e : runL blank text p = p := runL_end (by simp only [List.length_nil] at hl; omega)
  have e2 : text[p]? = none := by have := h.get 0; simpa using this
  simp only [rdP, stepF, e, e2, ne_eq, not_true_eq_false, if_false]
theorem rd_word {text : List UInt8} {p : Nat} {c : UInt8} {w s : List UInt8} (h : At text p ((c :: w) ++ s)) (hb : blank c = false) (hw : wordEnd text p c = some (p + (c :: w).length)) : rdP text p = ⟨p, p + (c :: w).length, c :: w, 0, 0⟩ := by
  have hg : text[p]? = some c := h.get 0
  have e : runL blank text p = p := by rw [runL_step hg, hb, if_neg (by decide)]
  have e3 : (text.drop p).take (p + (c :: w).length - p) = c :: w := by rw [h.2, Nat.add_sub_cancel_left, List.take_left]
  simp only [rdP, stepF, e, hg, hw, e3, ne_eq, not_true_eq_false, if_false]
theorem rd_sym {text : List UInt8} {p : Nat} {c : UInt8} {s : List UInt8} (h : At text p (c :: s)) (hc : c ∈ ([43, 45, 42, 33, 38, 124, 61, 40, 41, 44] : List UInt8)) : rdP text p = ⟨p, p + 1, [c], 0, 0⟩ := by
  refine rd_word (w := []) h ?_ ?_
  · revert c; intro c _ hc
    simp only [List.mem_cons, List.mem_nil_iff, or_false] at hc
    rcases hc with rfl | rfl | rfl | rfl | rfl | rfl | rfl | rfl | rfl | rfl <;> decide
  · simp only [List.mem_cons, List.mem_nil_iff, or_false] at hc
    rcases hc with rfl | rfl | rfl | rfl | rfl | rfl | rfl | rfl | rfl | rfl <;> rfl
theorem rd_less {text : List UInt8} {p : Nat} {s : List UInt8} (h : At text p (60 :: 32 :: s)) : rdP text p = ⟨p, p + 1, [60], 0, 0⟩ := by
  refine rd_word (w := []) h (by decide) ?_
  have hg := h.get 1
  simp only [List.getElem?_cons_succ, List.getElem?_cons_zero] at hg
  simp only [wordEnd, hg]
  rfl
theorem rd_most {text : List UInt8} {p : Nat} {s : List UInt8} (h : At text p (60 :: 61 :: s)) : rdP text p = ⟨p, p + 2, [60, 61], 0, 0⟩ := by
  refine rd_word (w := [61]) h (by decide) ?_
  have hg := h.get 1
  simp only [List.getElem?_cons_succ, List.getElem?_cons_zero] at hg
  simp only [wordEnd, hg]
  rfl
theorem rd_arg {text : List UInt8} {p : Nat} {d : UInt8} {s : List UInt8} (h : At text p (36 :: d :: s)) (hd : dg d.toNat = true) : rdP text p = ⟨p, p + 2, [36, d], 0, 0⟩ := by
  refine rd_word (w := [d]) h (by decide) ?_
  have hg := h.get 1
  simp only [List.getElem?_cons_succ, List.getElem?_cons_zero] at hg
  simp only [wordEnd, hg, isDg, hd]
  rfl
theorem bd_nm {s : List UInt8} (h : Bd s) : ∀ c t, s = c :: t → nm c = false := by
  rintro c t rfl
  rcases h with rfl | rfl | rfl <;> decide
theorem bd_dg {s : List UInt8} (h : Bd s) : ∀ c t, s = c :: t → (fun c : UInt8 => dg c.toNat) c = false := by
  rintro c t rfl
  rcases h with rfl | rfl | rfl <;> decide
theorem lt_blank {c : UInt8} (h : lt c.toNat = true) : blank c = false := by
  simp only [lt, Bool.and_eq_true, decide_eq_true_eq] at h
  simp only [blank, decide_eq_false_iff_not]
  omega
theorem dg_blank {c : UInt8} (h : dg c.toNat = true) : blank c = false := by
  simp only [dg, Bool.and_eq_true, decide_eq_true_eq] at h
  simp only [blank, decide_eq_false_iff_not]
  omega
theorem dg_lt {c : UInt8} (h : dg c.toNat = true) : lt c.toNat = false := by
  simp only [dg, Bool.and_eq_true, decide_eq_true_eq] at h
  simp only [lt, Bool.and_eq_false_iff, decide_eq_false_iff_not]
  omega
theorem rd_name {text : List UInt8} {p : Nat} {c : UInt8} {w s : List UInt8} (h : At text p ((c :: w) ++ s)) (hc : lt c.toNat = true) (hw : ∀ b ∈ w, nm b = true) (hs : ∀ c t, s = c :: t → nm c = false) : rdP text p = ⟨p, p + (c :: w).length, c :: w, 0, 0⟩ := by
  refine rd_word h (lt_blank hc) ?_
  rw [wordEnd, if_pos hc, runL_at nm h, take_while _ hs]
  intro b hb
  rcases List.mem_cons.1 hb with rfl | hb
  · simp only [nm, hc, Bool.true_or]
  · exact hw b hb
theorem rd_num {text : List UInt8} {p : Nat} {c : UInt8} {w s : List UInt8} (h : At text p ((c :: w) ++ s)) (hw : ∀ b ∈ c :: w, dg b.toNat = true) (hs : ∀ c t, s = c :: t → (fun c : UInt8 => dg c.toNat) c = false) : rdP text p = ⟨p, p + (c :: w).length, c :: w, 0, 0⟩ := by
  have hc := hw c (by simp)
  refine rd_word h (dg_blank hc) ?_
  rw [wordEnd, dg_lt hc, if_neg (by decide), if_pos hc, runL_at _ h, take_while hw hs]
/-! ### Numbers -/
theorem dec_dg : ∀ (n : Nat), ∀ b ∈ dec n, dg b.toNat = true := by
  intro n
  induction n using Nat.strongRecOn with
  | _ n ih =>
    intro b hb
    rw [dec] at hb
    have hd : ∀ k : Nat, k < 10 → dg ((UInt8.ofNat (48 + k)).toNat : Int) = true := by decide
    split at hb
    · rename_i h
      simp only [List.mem_singleton] at hb
      subst hb
      exact hd n h
    · rename_i h
      rcases List.mem_append.1 hb with hb | hb
      · exact ih (n / 10) (by omega) b hb
      · simp only [List.mem_singleton] at hb
        subst hb
        exact hd _ (by omega)
theorem dec_cons (n : Nat) : ∃ b w, dec n = b :: w := by
  rw [dec]
  split
  · exact ⟨_, _, rfl⟩
  · cases dec (n / 10) with
    | nil => exact ⟨_, _, rfl⟩
    | cons b w => exact ⟨_, _, rfl⟩
theorem dec_num : ∀ (n : Nat), n ≤ 1099511627776 → numF (dec n) = n := by
  intro n
  induction n using Nat.strongRecOn with
  | _ n ih =>
    intro hn
    have hd : ∀ k : Nat, k < 10 → ((UInt8.ofNat (48 + k)).toNat : Int) - 48 = k := by decide
    rw [dec]
    split
    · rename_i h
      simp only [numF, List.foldl_cons, List.foldl_nil, digF, hd n h]
      split <;> omega
    · rename_i h
      have := ih (n / 10) (by omega) (by omega)
      simp only [numF] at this
      simp only [numF, List.foldl_append, List.foldl_cons, List.foldl_nil, this, digF, hd (n % 10) (by omega)]
      split <;> omega
/-! ### Names -/
theorem rlt_lt (c : Int) : rlt c = lt c := rfl
theorem rdg_dg (c : Int) : rdg c = dg c := rfl
theorem name_cons {s : List UInt8} (h : nameF s = true) : ∃ c w, s = c :: w ∧ lt c.toNat = true ∧ (∀ b ∈ w, nm b = true) ∧ resv s = 0 := by
  cases s with
  | nil => cases h
  | cons c w =>
    simp only [nameF, Bool.and_eq_true, decide_eq_true_eq, Bool.not_eq_true', beq_eq_false_iff_ne, List.all_eq_true] at h
    obtain ⟨-, h1, h2, h3, h4, h5⟩ := h
    refine ⟨c, w, rfl, h4, fun b hb => ?_, ?_⟩
    · have := h5 b (by simp [hb])
      exact this
    · rw [resv, if_neg h1, if_neg h2, if_neg h3]
/-- The instructions that may be: an argument's number is below their number, an operator has none. -/
def okP (vs : List (List UInt8)) (args : Int) : T → Prop
  | .leaf i => (i.op = 1 ∧ -1099511627776 ≤ i.n ∧ i.n ≤ 1099511627776) ∨ (i.op = 2 ∧ 0 ≤ i.n ∧ i.n < vs.length) ∨ (i.op = 3 ∧ 0 ≤ i.n ∧ i.n < args)
  | .un i a => (i.op = 4 ∨ i.op = 5) ∧ i.n = 0 ∧ okP vs args a
  | .bin i a b => 6 ≤ i.op ∧ i.op ≤ 15 ∧ i.n = 0 ∧ okP vs args a ∧ okP vs args b
  | .tri i a b c => i.op = 16 ∧ i.n = 0 ∧ okP vs args a ∧ okP vs args b ∧ okP vs args c
/-- The levels of the grammar. -/
def fq : Nat → FuncId
  | 1 => 34
  | 2 => 69
  | 3 => 95
  | 4 => 102
  | 5 => 103
  | _ => 104
def lvQ (q : Nat) : Int := 48 + q
def onceQ : Nat → Bool
  | 3 => true
  | _ => false
theorem fq_chain {q : Nat} (h1 : 1 ≤ q) (h5 : q ≤ 5) {H0 H1 : Hp} (h : CV cx 68 [.ptr 0 0 0, .p (.int .u8 (lvQ q)), .p (.bool (onceQ q)), .fn (fq (q + 1)) [.ptr 0 0 0] []] H0 (.p (.tup [])) H1) : CV cx (fq q) [.ptr 0 0 0] H0 (.p (.tup [])) H1 := by
  have : q = 1 ∨ q = 2 ∨ q = 3 ∨ q = 4 ∨ q = 5 := by omega
  rcases this with rfl | rfl | rfl | rfl | rfl
  · exact any_hs h
  · exact all_hs h
  · exact cmp_hs h
  · exact sum_hs h
  · exact prod_hs h
/-- What comes next is a word, and no sign of a level or of a higher one. -/
def Good (text : List UInt8) (q p : Nat) : Prop := ∃ a n w, rdP text p = ⟨a, n, w, 0, 0⟩ ∧ n ≤ text.length ∧ ∀ k, q ≤ k → k ≤ 5 → opTo (lvQ k) w 16 = 0
theorem Good.mono {text : List UInt8} {q p : Nat} (h : Good text q p) : Good text (q + 1) p := by
  obtain ⟨a, n, w, h1, h2, h3⟩ := h
  exact ⟨a, n, w, h1, h2, fun k h4 h5 => h3 k (by omega) h5⟩
variable {text : List UInt8} {y : Pv} {args : Int}
theorem loop_good {q p : Nat} (h : Good text q p) (h5 : q ≤ 5) {once : Bool} {g : FuncId} {code : List Ins} : LoopRun (lvQ q) once g (Hs text y args code (rdP text p)) (Hs text y args code (rdP text p)) := by
  obtain ⟨a, n, w, h1, h2, h3⟩ := h
  have h0 := h3 q (Nat.le_refl _) h5
  exact loop_round (by rw [h1]) (fun _ => rfl) (fun hn => absurd (by rw [h1]; exact h0) hn)
theorem step_at (ht : text.length ≤ 1000000) {code : List Ins} {p a n : Nat} {w : List UInt8} (h : rdP text p = ⟨a, n, w, 0, 0⟩) (hn : n ≤ text.length) : CV cx 33 [.ptr 0 0 0] (Hs text y args code (rdP text p)) (.p (.tup [])) (Hs text y args code (rdP text n)) := by
  have hs := step_hs (y := y) (args := args) ht code (rdP text p) (by rw [h]; exact hn)
  rw [stepF_rd (by rw [h]) (by rw [h])] at hs
  rw [h] at hs ⊢
  exact hs
theorem want_at (ht : text.length ≤ 1000000) {code : List Ins} {p a n : Nat} {w : List UInt8} (h : rdP text p = ⟨a, n, w, 0, 0⟩) (hn : n ≤ text.length) : CV cx 107 [.ptr 0 0 0, .p (.str w)] (Hs text y args code (rdP text p)) (.p (.tup [])) (Hs text y args code (rdP text n)) := by
  have hs := want_hs (y := y) (args := args) ht code (rdP text p) (by rw [h]; exact hn)
  rw [stepF_rd (by rw [h]) (by rw [h])] at hs
  rw [h] at hs ⊢
  exact hs
/-- The function of a level reads a tree as it is shown there. -/
def PS (text : List UInt8) (y : Pv) (args : Int) (vs : List (List UInt8)) (t : T) (q : Nat) : Prop := ∀ (code : List Ins) (p : Nat) (post : List UInt8), At text p (heldF (plainF vs t) t.rank q ++ post) → Bd post → Good text q (p + (heldF (plainF vs t) t.rank q).length) → code.length + (codeT t).length ≤ 1000 →
  CV cx (fq q) [.ptr 0 0 0] (Hs text y args code (rdP text p)) (.p (.tup [])) (Hs text y args (code ++ codeT t) (rdP text (p + (heldF (plainF vs t) t.rank q).length)))
/-- The chain of a level reads a tree as it is shown there, and goes on. -/
def QS (text : List UInt8) (y : Pv) (args : Int) (vs : List (List UInt8)) (t : T) (q : Nat) : Prop := ∀ (code : List Ins) (p : Nat) (post : List UInt8) (H2 : Hp), At text p (heldF (plainF vs t) t.rank q ++ post) → Bd post → Good text (q + 1) (p + (heldF (plainF vs t) t.rank q).length) → code.length + (codeT t).length ≤ 1000 →
  LoopRun (lvQ q) (onceQ q) (fq (q + 1)) (Hs text y args (code ++ codeT t) (rdP text (p + (heldF (plainF vs t) t.rank q).length))) H2 →
  CV cx 68 [.ptr 0 0 0, .p (.int .u8 (lvQ q)), .p (.bool (onceQ q)), .fn (fq (q + 1)) [.ptr 0 0 0] []] (Hs text y args code (rdP text p)) (.p (.tup [])) H2
variable {vs : List (List UInt8)}
theorem held_ne {s : List UInt8} {k : Int} {q : Nat} (h : k ≠ q) : heldF s k ((q + 1 : Nat) : Int) = heldF s k q := by
  unfold heldF
  by_cases h1 : k < q
  · rw [if_pos h1, if_pos (by omega)]
  · rw [if_neg h1, if_neg (by omega)]
theorem PS.down {t : T} {q : Nat} (hne : t.rank ≠ q) (h : PS text y args vs t (q + 1)) : QS text y args vs t q := by
  intro code p post H2 ha hb hg hc hl
  have e := held_ne (s := plainF vs t) hne
  have h := h code p post
  rw [e] at h
  exact chain_start (h ha hb hg hc) hl
theorem QS.ps {t : T} {q : Nat} (h1 : 1 ≤ q) (h5 : q ≤ 5) (h : QS text y args vs t q) : PS text y args vs t q :=
  fun code p post ha hb hg hc => fq_chain h1 h5 (h code p post _ ha hb hg.mono hc (loop_good hg h5))
/-- The sign of an operator as it is read. -/
theorem sign_at {op : Int} (ho : 6 ≤ op ∧ op ≤ 15 ∧ op ≠ 9 ∧ op ≠ 10) {p : Nat} {s : List UInt8} (h : At text p (32 :: (sgnOf op.toNat ++ 32 :: s))) : ∃ k : Nat, rankF op 0 = k ∧ 1 ≤ k ∧ k ≤ 5 ∧ (∀ n, rankF op n = k) ∧ rdP text p = ⟨p + 1, p + 1 + (sgnOf op.toNat).length, sgnOf op.toNat, 0, 0⟩ ∧ opTo (lvQ k) (sgnOf op.toNat) 16 = op ∧ (∀ j, j ≠ k → j ≤ 5 → opTo (lvQ j) (sgnOf op.toNat) 16 = 0) := by
  have h1 := h.one
  rw [rd_blank h]
  have ho : op = 6 ∨ op = 7 ∨ op = 8 ∨ op = 11 ∨ op = 12 ∨ op = 13 ∨ op = 14 ∨ op = 15 := by omega
  have h0 : ∀ {j : Nat} {P : Nat → Prop}, P 0 → P 1 → P 2 → P 3 → P 4 → P 5 → j ≤ 5 → P j := by
    intro j P p0 p1 p2 p3 p4 p5 hj
    have : j = 0 ∨ j = 1 ∨ j = 2 ∨ j = 3 ∨ j = 4 ∨ j = 5 := by omega
    rcases this with rfl | rfl | rfl | rfl | rfl | rfl <;> assumption
  rcases ho with rfl | rfl | rfl | rfl | rfl | rfl | rfl | rfl
  · refine ⟨4, rfl, by decide, by decide, fun n => rfl, rd_sym h1 (by decide), rfl, fun j hj h5 => ?_⟩
    revert hj; exact h0 (P := fun j => j ≠ 4 → opTo (lvQ j) (sgnOf (6 : Int).toNat) 16 = 0) (fun _ => rfl) (fun _ => rfl) (fun _ => rfl) (fun _ => rfl) (fun h => absurd rfl h) (fun _ => rfl) h5
  · refine ⟨4, rfl, by decide, by decide, fun n => rfl, rd_sym h1 (by decide), rfl, fun j hj h5 => ?_⟩
    revert hj; exact h0 (P := fun j => j ≠ 4 → opTo (lvQ j) (sgnOf (7 : Int).toNat) 16 = 0) (fun _ => rfl) (fun _ => rfl) (fun _ => rfl) (fun _ => rfl) (fun h => absurd rfl h) (fun _ => rfl) h5
  · refine ⟨5, rfl, by decide, by decide, fun n => rfl, rd_sym h1 (by decide), rfl, fun j hj h5 => ?_⟩
    revert hj; exact h0 (P := fun j => j ≠ 5 → opTo (lvQ j) (sgnOf (8 : Int).toNat) 16 = 0) (fun _ => rfl) (fun _ => rfl) (fun _ => rfl) (fun _ => rfl) (fun _ => rfl) (fun h => absurd rfl h) h5
  · refine ⟨3, rfl, by decide, by decide, fun n => rfl, rd_less h1, rfl, fun j hj h5 => ?_⟩
    revert hj; exact h0 (P := fun j => j ≠ 3 → opTo (lvQ j) (sgnOf (11 : Int).toNat) 16 = 0) (fun _ => rfl) (fun _ => rfl) (fun _ => rfl) (fun h => absurd rfl h) (fun _ => rfl) (fun _ => rfl) h5
  · refine ⟨3, rfl, by decide, by decide, fun n => rfl, rd_most h1, rfl, fun j hj h5 => ?_⟩
    revert hj; exact h0 (P := fun j => j ≠ 3 → opTo (lvQ j) (sgnOf (12 : Int).toNat) 16 = 0) (fun _ => rfl) (fun _ => rfl) (fun _ => rfl) (fun h => absurd rfl h) (fun _ => rfl) (fun _ => rfl) h5
  · refine ⟨3, rfl, by decide, by decide, fun n => rfl, rd_sym h1 (by decide), rfl, fun j hj h5 => ?_⟩
    revert hj; exact h0 (P := fun j => j ≠ 3 → opTo (lvQ j) (sgnOf (13 : Int).toNat) 16 = 0) (fun _ => rfl) (fun _ => rfl) (fun _ => rfl) (fun h => absurd rfl h) (fun _ => rfl) (fun _ => rfl) h5
  · refine ⟨2, rfl, by decide, by decide, fun n => rfl, rd_sym h1 (by decide), rfl, fun j hj h5 => ?_⟩
    revert hj; exact h0 (P := fun j => j ≠ 2 → opTo (lvQ j) (sgnOf (14 : Int).toNat) 16 = 0) (fun _ => rfl) (fun _ => rfl) (fun h => absurd rfl h) (fun _ => rfl) (fun _ => rfl) (fun _ => rfl) h5
  · refine ⟨1, rfl, by decide, by decide, fun n => rfl, rd_sym h1 (by decide), rfl, fun j hj h5 => ?_⟩
    revert hj; exact h0 (P := fun j => j ≠ 1 → opTo (lvQ j) (sgnOf (15 : Int).toNat) 16 = 0) (fun _ => rfl) (fun h => absurd rfl h) (fun _ => rfl) (fun _ => rfl) (fun _ => rfl) (fun _ => rfl) h5
theorem held_same {s : List UInt8} {k : Int} {q : Int} (h : q ≤ k) : heldF s k q = s := by
  unfold heldF
  rw [if_neg (by omega)]
theorem bd_blank {s : List UInt8} : Bd (32 :: s) := .inl rfl
end Go.Proofs.YtojpocfnjigmfaaDoor
