import Derived.Test.YtojpocfnjigmfaaDoorG3
import Derived.Test.YtojpocfnjigmfaaDoorE9
set_option maxRecDepth 10000
set_option linter.unusedSimpArgs false
set_option linter.unusedVariables false
namespace Go.Proofs.YtojpocfnjigmfaaDoor
open Go Go.AX
variable {text : List UInt8} {y : Pv} {args : Int} {vs : List (List UInt8)}
/-- The reader behind a text that ends too early. -/
def errR (L : Nat) : Rd := ⟨L, L, [], 6, L⟩
/-- The function of a level, where a sign and nothing follows. -/
def ES (text : List UInt8) (y : Pv) (args : Int) (vs : List (List UInt8)) (t : T) (q : Nat) : Prop := ∀ (code : List Ins) (p : Nat), At text p (heldF (plainF vs t) t.rank q ++ [32, 43]) → code.length + (codeT t).length ≤ 1000 →
  ∃ c2 : List Ins, c2.length ≤ code.length + 2 * (codeT t).length ∧ CV cx (fq q) [.ptr 0 0 0] (Hs text y args code (rdP text p)) (.p (.tup [])) (Hs text y args c2 (errR text.length))
theorem es_four (ht : text.length ≤ 1000000) {t : T} (hA : AllS text y args vs t) : ES text y args vs t 4 := by
  intro code p hat hc
  have hq := hA.2 4 (by decide) (by decide) (fun h => by cases h) code p [32, 43]
  have hat1 := hat.add
  generalize p + (heldF (plainF vs t) t.rank ((4 : Nat) : Int)).length = p1 at hq hat1
  have r1 : rdP text p1 = ⟨p1 + 1, p1 + 1 + 1, [43], 0, 0⟩ := by rw [rd_blank hat1, rd_sym hat1.one (by decide)]
  have hat2 := hat1.one.one
  have hL : p1 + 1 + 1 = text.length := by have := hat2.len; simpa using this
  have r2 := rd_end hat2
  refine ⟨code ++ codeT t ++ [⟨6, 0⟩], by have := code_pos t; simp only [List.length_append, List.length_cons, List.length_nil]; omega, fq_chain (by decide) (by decide) (hq _ hat bd_blank ⟨_, _, _, r1, hat2.1, fun k h1 h5 => by
    have : k = 5 := by omega
    subst this; rfl⟩ hc ?_)⟩
  have hf : failF (p1 + 1 + 1) 6 ⟨p1 + 1 + 1, p1 + 1 + 1, [], 0, 0⟩ = errR text.length := by rw [← hL]; rfl
  have hend : CV cx 106 [.ptr 0 0 0] (Hs text y args (code ++ codeT t) (rdP text (p1 + 1 + 1))) (.p (.tup [])) (Hs text y args (code ++ codeT t) (errR text.length)) := by
    have := atom_end (text := text) (y := y) (args := args) (code := code ++ codeT t) (r := rdP text (p1 + 1 + 1)) (by rw [r2]) (by rw [r2])
    rw [r2] at this ⊢
    simp only [hf] at this
    exact this
  have herr : ∀ c once g k, LoopRun (lvQ k) once g (Hs text y args c (errR text.length)) (Hs text y args c (errR text.length)) := fun c once g k => loop_err (show (6 : Int) ≠ 0 by decide)
  have hst := step_at (y := y) (args := args) ht (code := code ++ codeT t) r1 hat2.1
  have hsf : stepF text (rdP text p1) = rdP text (p1 + 1 + 1) := by rw [stepF_rd (by rw [r1]) (by rw [r1]), r1]
  have hw : opTo (lvQ 4) (rdP text p1).word 16 = 6 := by rw [r1]; rfl
  refine loop_round (by rw [r1]) (fun h0 => by rw [hw] at h0; cases h0) (fun _ => ⟨code ++ codeT t, errR text.length, by simp only [List.length_append]; omega, ?_, ?_, (fun h => by cases h), fun _ => ?_⟩)
  · rw [hsf]; exact hst
  · rw [hsf]
    exact prod_hs (chain_start (one_atom (by rw [r2]; simp) (by rw [r2]; simp) hend) (herr _ _ _ 5))
  · rw [hw]; exact herr _ _ _ 4
theorem es_down {t : T} {q : Nat} (h1 : 1 ≤ q) (h5 : q ≤ 5) (hne : t.rank ≠ q) (h : ES text y args vs t (q + 1)) : ES text y args vs t q := by
  intro code p hat hc
  have e := held_ne (s := plainF vs t) hne
  have h := h code p
  rw [e] at h
  obtain ⟨c2, hc2, h⟩ := h hat hc
  exact ⟨c2, hc2, fq_chain h1 h5 (chain_start h (loop_err (show (6 : Int) ≠ 0 by decide)))⟩
theorem es_all {t : T} (h4 : ES text y args vs t 4) (h : ∀ q : Nat, 1 ≤ q → q < 4 → t.rank = q → ES text y args vs t q) : ∀ (d q : Nat), q + d = 4 → 1 ≤ q → ES text y args vs t q
  | 0, q, e, _ => by have : q = 4 := by omega
                     rw [this]; exact h4
  | d + 1, q, e, h1 => by
    by_cases hr : t.rank = q
    · exact h q h1 (by omega) hr
    · exact es_down h1 (by omega) hr (es_all h4 h d (q + 1) (by omega) (by omega))
theorem es_bin (ht : text.length ≤ 1000000) {i : Ins} {a b : T} (ho : 6 ≤ i.op ∧ i.op ≤ 15 ∧ i.op ≠ 9 ∧ i.op ≠ 10) (hn0 : i.n = 0) {k : Nat} (hk : rankF i.op i.n = k) (k1 : 1 ≤ k) (k3 : k < 4) (hA : AllS text y args vs a) (hb : ES text y args vs b (k + 1)) : ES text y args vs (.bin i a b) k := by
  intro code p hat hc
  have hr : (T.bin i a b).rank = k := hk
  have e2 : rankF i.op i.n + 1 = ((k + 1 : Nat) : Int) := by rw [hk]; rfl
  rw [hr, held_same (Int.le_refl _), plain_bin_eq ho, e2] at hat
  simp only [List.append_assoc, List.cons_append] at hat
  have hat1 := hat.add
  generalize hl : (leftF (rankF i.op i.n)) = lq at *
  have hat2 : At text (p + (heldF (plainF vs a) a.rank lq).length + (sgnOf i.op.toNat).length + 2) (heldF (plainF vs b) b.rank ((k + 1 : Nat) : Int) ++ [32, 43]) := by
    have := hat1.one.add.one
    have e : p + (heldF (plainF vs a) a.rank lq).length + 1 + (sgnOf i.op.toNat).length + 1 = p + (heldF (plainF vs a) a.rank lq).length + (sgnOf i.op.toNat).length + 2 := by omega
    rw [e] at this; exact this
  simp only [codeT, List.length_append, List.length_cons, List.length_nil] at hc
  obtain ⟨c2, hc2, hcb⟩ := hb (code ++ codeT a) _ hat2 (by simp only [List.length_append]; omega)
  simp only [List.length_append] at hc2
  refine ⟨c2 ++ [i], by simp only [codeT, List.length_append, List.length_cons, List.length_nil]; omega, ?_⟩
  have hgood := sign_good ho hat1 hk
  have hloop := bin_loop (y := y) (args := args) ht ho hn0 hk hat1 (code := code ++ codeT a) (c2 := c2) (r2 := errR text.length) (H2 := Hs text y args (c2 ++ [i]) (errR text.length)) (by omega) hcb (fun _ => rfl) (fun _ => loop_err (show (6 : Int) ≠ 0 by decide))
  by_cases h3 : k = 3
  · subst h3
    have e1 : lq = ((4 : Nat) : Int) := by rw [← hl, hk]; rfl
    subst e1
    exact fq_chain (by decide) (by decide) (chain_start (hA.1 4 (by decide) (by decide) code p _ hat bd_blank hgood (by omega)) hloop)
  · have e1 : lq = k := by rw [← hl, hk, leftF, if_neg (by omega)]
    subst e1
    exact fq_chain k1 (by omega) (hA.2 k k1 (by omega) (fun h => absurd h h3) code p _ _ hat bd_blank hgood (by omega) hloop)
theorem all_err (S : Sit text y args vs) : ∀ (t : T), okP vs args t → ∀ q, 1 ≤ q → q ≤ 4 → ES text y args vs t q
  | .leaf i, h, q, h1, h4 => es_all (es_four S.ht (all_shown S _ h)) (fun q _ h3 hr => by
      exfalso
      have hr : rankF i.op i.n = q := hr
      simp only [okP] at h
      unfold rankF at hr
      (repeat' split at hr) <;> omega) (4 - q) q (by omega) h1
  | .un i a, h, q, h1, h4 => es_all (es_four S.ht (all_shown S _ h)) (fun q _ h3 hr => by
      exfalso
      have hr : rankF i.op i.n = q := hr
      simp only [okP] at h
      unfold rankF at hr
      (repeat' split at hr) <;> omega) (4 - q) q (by omega) h1
  | .bin i a b, h, q, h1, h4 => es_all (es_four S.ht (all_shown S _ h)) (fun k k1 k3 hr => by
      have hA := all_shown S a h.2.2.2.1
      have hB := all_err S b h.2.2.2.2
      simp only [okP] at h
      have hr : rankF i.op i.n = k := hr
      have ho : 6 ≤ i.op ∧ i.op ≤ 15 ∧ i.op ≠ 9 ∧ i.op ≠ 10 := by
        refine ⟨h.1, h.2.1, ?_, ?_⟩
        · intro e; rw [e] at hr; simp [rankF] at hr; omega
        · intro e; rw [e] at hr; simp [rankF] at hr; omega
      exact es_bin S.ht ho h.2.2.1 hr k1 k3 hA (hB (k + 1) (by omega) (by omega))) (4 - q) q (by omega) h1
  | .tri i a b c, h, q, h1, h4 => es_all (es_four S.ht (all_shown S _ h)) (fun q _ h3 hr => by
      exfalso
      have hr : rankF i.op i.n = q := hr
      simp only [okP] at h
      unfold rankF at hr
      (repeat' split at hr) <;> omega) (4 - q) q (by omega) h1
theorem push_okP (i : Ins) (st : List T) (h0 : 0 ≤ takesF i.op) (h : takesF i.op ≤ st.length) (hn : namedF vs.length args i = true) (hok : ∀ t ∈ st, okP vs args t) : ∀ t ∈ pushT i st, okP vs args t := by
  have := takesF_le i.op
  have hk : takesF i.op = 0 ∨ takesF i.op = 1 ∨ takesF i.op = 2 ∨ takesF i.op = 3 := by omega
  have hop : takesF i.op = if 1 ≤ i.op ∧ i.op ≤ 3 then 0 else if i.op = 4 ∨ i.op = 5 then 1 else if 6 ≤ i.op ∧ i.op ≤ 15 then 2 else if i.op = 16 then 3 else -1 := rfl
  have hz : ¬ i.op ≤ 3 → i.n = 0 := by
    intro h3
    rw [namedF, if_neg (by omega), if_neg (by omega), if_neg (by omega)] at hn
    simpa using hn
  rcases hk with hk | hk | hk | hk
  · have h3 : 1 ≤ i.op ∧ i.op ≤ 3 := by
      rw [hk] at hop
      (repeat' split at hop) <;> omega
    have e : pushT i st = .leaf i :: st := by simp [pushT, hk]
    rw [e]
    intro t ht
    rcases List.mem_cons.1 ht with rfl | ht
    · simp only [okP]
      simp only [namedF] at hn
      (repeat' split at hn)
      · simp [valueF] at hn; left; omega
      · simp at hn; right; left; omega
      · simp at hn; right; right; omega
      · omega
    · exact hok t ht
  · have h3 : i.op = 4 ∨ i.op = 5 := by
      rw [hk] at hop
      (repeat' split at hop) <;> omega
    match st, h, hok with
    | [], h, _ => rw [hk] at h; simp at h
    | a :: r, h, hok =>
      have e : pushT i (a :: r) = .un i a :: r := by simp [pushT, hk]
      rw [e]
      intro t ht
      rcases List.mem_cons.1 ht with rfl | ht
      · exact ⟨h3, hz (by omega), hok a (by simp)⟩
      · exact hok t (by simp [ht])
  · have h3 : 6 ≤ i.op ∧ i.op ≤ 15 := by
      rw [hk] at hop
      (repeat' split at hop) <;> omega
    match st, h, hok with
    | [], h, _ => rw [hk] at h; simp at h
    | [a], h, _ => rw [hk] at h; simp at h
    | b :: a :: r, h, hok =>
      have e : pushT i (b :: a :: r) = .bin i a b :: r := by simp [pushT, hk]
      rw [e]
      intro t ht
      rcases List.mem_cons.1 ht with rfl | ht
      · exact ⟨h3.1, h3.2, hz (by omega), hok a (by simp), hok b (by simp)⟩
      · exact hok t (by simp [ht])
  · have h3 : i.op = 16 := by
      rw [hk] at hop
      (repeat' split at hop) <;> omega
    match st, h, hok with
    | [], h, _ => rw [hk] at h; simp at h
    | [a], h, _ => rw [hk] at h; simp at h
    | [b, a], h, _ => rw [hk] at h; simp at h
    | c :: b :: a :: r, h, hok =>
      have e : pushT i (c :: b :: a :: r) = .tri i a b c :: r := by simp [pushT, hk]
      rw [e]
      intro t ht
      rcases List.mem_cons.1 ht with rfl | ht
      · exact ⟨h3, hz (by omega), hok a (by simp), hok b (by simp), hok c (by simp)⟩
      · exact hok t (by simp [ht])
theorem bld_okP : ∀ (l : List Ins) (k : Nat) (st : List T), chk vs.length args st.length k l = (0, 0) → (∀ t ∈ st, okP vs args t) → ∀ t ∈ bld l st, okP vs args t
  | [], k, st, _, hok => hok
  | i :: l, k, st, h, hok => by
    obtain ⟨c1, c2, c3, c4⟩ := chk_step h
    rw [← push_len i st c1 c3] at c4
    rw [bld]
    exact bld_okP l (k + 1) (pushT i st) c4 (push_okP i st c1 c3 c2 hok)
/-- What is shown is a tree that has the code. -/
theorem show_tree {code : List Ins} (h : (showF code vs args).2 = 0) : ∃ t, okP vs args t ∧ codeT t = code ∧ code.length ≤ 31 ∧ (showF code vs args).1 = plainF vs t := by
  unfold showF at h ⊢
  split at h
  · rename_i hc
    rw [if_pos hc]
    have hc2 : chk vs.length args 0 0 code = (0, 0) ∧ code.length ≤ 31 := by
      unfold checkF at hc
      split at hc
      · cases hc
      · split at hc
        · cases hc
        · exact ⟨chk_zero _ _ _ _ _ hc, by omega⟩
    obtain ⟨t, ht⟩ := chk_end vs.length args code 0 [] hc2.1
    have hcode := bld_code code 0 [] hc2.1
    have hok := bld_okP (vs := vs) code 0 [] hc2.1 (fun t ht => by cases ht)
    rw [ht] at hcode hok ⊢
    refine ⟨t, hok t (by simp), ?_, hc2.2, rfl⟩
    simpa [codeS] using hcode
  · rename_i hc
    exact absurd h hc
theorem plain_short (hn : Named vs) (ha : args ≤ 10) : ∀ (t : T), okP vs args t → (plainF vs t).length ≤ 24 * (codeT t).length
  | .leaf i, h => by
    simp only [okP] at h
    simp only [plainF, codeT, List.length_cons, List.length_nil]
    split
    · split
      · have := dec_14 (n := (-i.n).toNat) (by omega); simp only [List.length_cons]; omega
      · have := dec_14 (n := (i.n).toNat) (by omega); omega
    · split
      · rename_i h2
        have : i.n.toNat < vs.length := by omega
        rw [List.getD_eq_getElem?_getD, List.getElem?_eq_getElem this, Option.getD_some]
        have := rname_big _ (hn _ _ (List.getElem?_eq_getElem this)).1
        omega
      · have := dec_20 (n := (i.n).toNat) (by omega); simp only [List.length_cons]; omega
  | .un i a, h => by
    have := plain_short hn ha a h.2.2
    have := held_len (plainF vs a) a.rank 6
    simp only [plainF, codeT, List.length_cons, List.length_append, List.length_nil]
    (repeat' split) <;> simp only [List.length_cons, List.length_append, List.length_nil] <;> omega
  | .bin i a b, h => by
    have := plain_short hn ha a h.2.2.2.1
    have := plain_short hn ha b h.2.2.2.2
    have := held_len (plainF vs a) a.rank (leftF (rankF i.op i.n))
    have := held_len (plainF vs b) b.rank (rankF i.op i.n + 1)
    have := sgn_len i.op.toNat (by have := h.2.1; omega)
    simp only [plainF, codeT, List.length_cons, List.length_append, List.length_nil]
    (repeat' split) <;> simp only [List.length_cons, List.length_append, List.length_nil] <;> omega
  | .tri i a b c, h => by
    have := plain_short hn ha a h.2.2.1
    have := plain_short hn ha b h.2.2.2.1
    have := plain_short hn ha c h.2.2.2.2
    simp only [plainF, codeT, List.length_cons, List.length_append, List.length_nil]; omega
/-- An expression and more behind it, up to the word behind. -/
theorem any_at (S : Sit text y args vs) {t : T} (hok : okP vs args t) {w : List UInt8} (hat : At text 0 (plainF vs t ++ w)) (hb : Bd w) (hg : Good text 1 (plainF vs t).length) (hc : (codeT t).length ≤ 31) :
    CV cx 34 [.ptr 0 0 0] (Hs text y args [] (rdP text 0)) (.p (.tup [])) (Hs text y args (codeT t) (rdP text (plainF vs t).length)) := by
  have hA := (all_shown S t hok).1 1 (by decide) (by decide) [] 0 w
  have e : heldF (plainF vs t) t.rank ((1 : Nat) : Int) = plainF vs t := held_same (rank_one t)
  rw [e, Nat.zero_add, List.nil_append] at hA
  exact hA hat hb hg (by simp only [List.length_nil]; omega)
theorem good_end {q p : Nat} (hat : At text p []) : Good text q p := ⟨p, p, [], rd_end hat, hat.1, fun k _ h5 => by
  have : k = 0 ∨ k = 1 ∨ k = 2 ∨ k = 3 ∨ k = 4 ∨ k = 5 := by omega
  rcases this with rfl | rfl | rfl | rfl | rfl | rfl <;> rfl⟩
theorem parse_back {code : List Ins} (z : Pv) (vars : List (List UInt8)) (hz : IsL 1 z) (hzl : elemsP z = vars.map .str) (h20 : vars.length ≤ 20) (hn : Named vars) (ha : args ≤ 10) (hs : (showF code vars args).2 = 0) :
    FV cx 14 [.p (.str (showF code vars args).1), .p z, .p (.int .i64 args)] (.tup [.sl 2 false (code.map Ins.pv), .int .i64 0, .int .i64 0]) := by
  obtain ⟨t, hok, hcode, h31, hsh⟩ := show_tree hs
  have hlen := plain_short hn ha t hok
  rw [hsh]
  subst hcode
  have S : Sit (plainF vars t) z args vars := ⟨by omega, hz, hzl, h20, hn, ha⟩
  have hat : At (plainF vars t) 0 (plainF vars t ++ []) := ⟨by omega, by rw [List.append_nil]; rfl⟩
  have hat2 : At (plainF vars t) (plainF vars t).length [] := by have := hat.add; rwa [Nat.zero_add] at this
  have hany := any_at S hok hat trivial (good_end hat2) h31
  rw [rd_end hat2] at hany
  have h1 := step_hs (y := z) (args := args) S.ht [] rd0 (by simp [rd0])
  have hp := code_pos t
  generalize codeT t = c at *
  cases c with
  | nil => simp at hp
  | cons i l => exact parse_ok (by omega) hz h1 hany rfl rfl (by simp only [List.length_cons] at h31; omega)
theorem good_word {p : Nat} {w : List UInt8} (hw : w ∈ wordsL) (hat : At text p w) : Bd w ∧ 2 ≤ w.length ∧ ∃ n wd, rdP text p = ⟨p + 1, n, wd, 0, 0⟩ ∧ n ≤ text.length ∧ ∀ k, 1 ≤ k → k ≤ 5 → opTo (lvQ k) wd 16 = 0 := by
  have hk : ∀ {P : Nat → Prop}, P 1 → P 2 → P 3 → P 4 → P 5 → ∀ k, 1 ≤ k → k ≤ 5 → P k := by
    intro P p1 p2 p3 p4 p5 k h1 h5
    have : k = 1 ∨ k = 2 ∨ k = 3 ∨ k = 4 ∨ k = 5 := by omega
    rcases this with rfl | rfl | rfl | rfl | rfl <;> assumption
  simp only [wordsL, List.mem_cons, List.mem_nil_iff, or_false] at hw
  rcases hw with rfl | rfl | rfl | rfl | rfl | rfl | rfl | rfl
  · exact ⟨bd_blank, by decide, _, _, by rw [rd_blank hat, rd_sym hat.one (by decide)], hat.one.one.1, hk (P := fun k => opTo (lvQ k) [41] 16 = 0) rfl rfl rfl rfl rfl⟩
  · exact ⟨bd_blank, by decide, _, _, by rw [rd_blank hat, rd_sym hat.one (by decide)], hat.one.one.1, hk (P := fun k => opTo (lvQ k) [44] 16 = 0) rfl rfl rfl rfl rfl⟩
  · exact ⟨bd_blank, by decide, _, _, by rw [rd_blank hat, rd_sym hat.one (by decide)], hat.one.one.1, hk (P := fun k => opTo (lvQ k) [40] 16 = 0) rfl rfl rfl rfl rfl⟩
  · exact ⟨bd_blank, by decide, _, _, by rw [rd_blank hat, rd_num (w := []) (s := []) hat.one (by decide) (fun c t h => by cases h)]; rfl, hat.one.one.1, hk (P := fun k => opTo (lvQ k) [49] 16 = 0) rfl rfl rfl rfl rfl⟩
  · exact ⟨bd_blank, by decide, _, _, by rw [rd_blank hat, rd_arg hat.one (by decide)], hat.one.one.one.1, hk (P := fun k => opTo (lvQ k) [36, 49] 16 = 0) rfl rfl rfl rfl rfl⟩
  · exact ⟨bd_blank, by decide, _, _, by rw [rd_blank hat, rd_sym hat.one (by decide)], hat.one.one.1, hk (P := fun k => opTo (lvQ k) [33] 16 = 0) rfl rfl rfl rfl rfl⟩
  · exact ⟨bd_blank, by decide, _, _, by rw [rd_blank hat, rd_name (w := []) (s := []) hat.one (by decide) (by decide) (fun c t h => by cases h)]; rfl, hat.one.one.1, hk (P := fun k => opTo (lvQ k) [97] 16 = 0) rfl rfl rfl rfl rfl⟩
  · exact ⟨bd_blank, by decide, _, _, by rw [rd_blank hat, rd_name (w := [105, 110]) (s := []) hat.one (by decide) (by decide) (fun c t h => by cases h)]; rfl, hat.one.one.one.one.1, hk (P := fun k => opTo (lvQ k) [109, 105, 110] 16 = 0) rfl rfl rfl rfl rfl⟩
theorem parse_less {code : List Ins} {more : Nat} (z : Pv) (vars : List (List UInt8)) (hz : IsL 1 z) (hzl : elemsP z = vars.map .str) (h20 : vars.length ≤ 20) (hn : Named vars) (hs : (showF code vars 3).2 = 0) (h19 : (showF code vars 3).1.length ≤ 1900) : ∃ q1 q2 : Pv,
      FV cx 14 [.p (.str ((showF code vars 3).1 ++ wordsL.getD (more % 8) [])), .p z, .p (.int .i64 3)] (.tup [q1, .int .i64 ((showF code vars 3).1.length + 1), .int .i64 6]) ∧
      FV cx 14 [.p (.str ((showF code vars 3).1 ++ [32, 43])), .p z, .p (.int .i64 3)] (.tup [q2, .int .i64 ((showF code vars 3).1.length + 2), .int .i64 6]) := by
  obtain ⟨t, hok, hcode, h31, hsh⟩ := show_tree hs
  rw [hsh] at h19 ⊢
  subst hcode
  refine ⟨.nils, .nils, ?_, ?_⟩
  · have hw : wordsL.getD (more % 8) [] ∈ wordsL := by
      have : more % 8 < wordsL.length := Nat.mod_lt _ (by decide)
      rw [List.getD_eq_getElem?_getD, List.getElem?_eq_getElem this, Option.getD_some]
      exact List.getElem_mem _
    have hw4 : (wordsL.getD (more % 8) []).length ≤ 4 := (show ∀ w ∈ wordsL, w.length ≤ 4 by decide) _ hw
    generalize wordsL.getD (more % 8) [] = w at *
    have hat : At (plainF vars t ++ w) 0 (plainF vars t ++ w) := ⟨Nat.zero_le _, rfl⟩
    have S : Sit (plainF vars t ++ w) z 3 vars := ⟨by rw [List.length_append]; omega, hz, hzl, h20, hn, by decide⟩
    have hat2 : At (plainF vars t ++ w) (plainF vars t).length w := by have := hat.add; rwa [Nat.zero_add] at this
    obtain ⟨hb, h2, n, wd, hr, hn', ho⟩ := good_word hw hat2
    have hany := any_at S hok hat hb ⟨_, _, _, hr, hn', ho⟩ h31
    rw [hr] at hany
    have h1 := step_hs (y := z) (args := 3) S.ht [] rd0 (by simp [rd0])
    exact parse_more (r2 := ⟨(plainF vars t).length + 1, n, wd, 0, 0⟩) (by rw [List.length_append]; omega) hz h1 hany rfl (by simp only [List.length_append]; omega)
  · have hat : At (plainF vars t ++ [32, 43]) 0 (plainF vars t ++ [32, 43]) := ⟨Nat.zero_le _, rfl⟩
    have hl : (plainF vars t ++ [32, 43]).length = (plainF vars t).length + 2 := by simp
    have S : Sit (plainF vars t ++ [32, 43]) z 3 vars := ⟨by rw [hl]; omega, hz, hzl, h20, hn, by decide⟩
    have he := all_err S t hok 1 (by decide) (by decide) [] 0
    have e : heldF (plainF vars t) t.rank ((1 : Nat) : Int) = plainF vars t := held_same (rank_one t)
    rw [e] at he
    obtain ⟨c2, -, he⟩ := he hat (by simp only [List.length_nil]; omega)
    have h1 := step_hs (y := z) (args := 3) S.ht [] rd0 (by simp [rd0])
    have := parse_err (code := c2) (r2 := errR (plainF vars t ++ [32, 43] : List UInt8).length) (by rw [hl]; omega) hz h1 he (show (6 : Int) ≠ 0 by decide)
    simp only [errR, hl] at this
    exact this
end Go.Proofs.YtojpocfnjigmfaaDoor
