import Derived.Test.YtojpocfnjigmfaaDoorG2
import Derived.Test.YtojpocfnjigmfaaDoorG1
set_option maxRecDepth 10000
set_option linter.unusedSimpArgs false
set_option linter.unusedVariables false
namespace Go.Proofs.YtojpocfnjigmfaaDoor
open Go Go.AX
variable {text : List UInt8} {y : Pv} {args : Int} {vs : List (List UInt8)}
theorem code_pos : ∀ (t : T), 1 ≤ (codeT t).length
  | .leaf _ => by simp [codeT]
  | .un _ _ => by simp [codeT]
  | .bin _ _ _ => by simp [codeT]; omega
  | .tri _ _ _ _ => by simp [codeT]; omega
theorem plain_bin_eq {i : Ins} {a b : T} (ho : 6 ≤ i.op ∧ i.op ≤ 15 ∧ i.op ≠ 9 ∧ i.op ≠ 10) : plainF vs (.bin i a b) = heldF (plainF vs a) a.rank (leftF (rankF i.op i.n)) ++ (32 :: (sgnOf i.op.toNat ++ 32 :: heldF (plainF vs b) b.rank (rankF i.op i.n + 1))) := by
  simp only [plainF]
  rw [if_neg ho.2.2.1, if_neg ho.2.2.2]
  simp only [List.append_assoc, List.cons_append, List.nil_append]
/-- Two operands with a sign between them, where several may follow: the right operand's function goes from the reader behind the sign to some reader; the loop goes on there. -/
theorem bin_loop (ht : text.length ≤ 1000000) {i : Ins} (ho : 6 ≤ i.op ∧ i.op ≤ 15 ∧ i.op ≠ 9 ∧ i.op ≠ 10) (hn0 : i.n = 0) {p : Nat} {s : List UInt8} {k : Nat} (hk : rankF i.op i.n = k) (h : At text p (32 :: (sgnOf i.op.toNat ++ 32 :: s))) {code c2 : List Ins} {r2 : Rd} {H2 : Hp} (hc : c2.length ≤ 1000000)
    (hb : CV cx (fq (k + 1)) [.ptr 0 0 0] (Hs text y args code (rdP text (p + (sgnOf i.op.toNat).length + 2))) (.p (.tup [])) (Hs text y args c2 r2))
    (h1 : onceQ k = true → Hs text y args (c2 ++ [i]) r2 = H2) (h2 : onceQ k = false → LoopRun (lvQ k) (onceQ k) (fq (k + 1)) (Hs text y args (c2 ++ [i]) r2) H2) :
    LoopRun (lvQ k) (onceQ k) (fq (k + 1)) (Hs text y args code (rdP text p)) H2 := by
  obtain ⟨k', e1, e2, e3, e4, e5, e6, e7⟩ := sign_at ho h
  have ek : k' = k := by have := e4 i.n; omega
  subst ek
  have hw : (rdP text p).word = sgnOf i.op.toNat := by rw [e5]
  have hie : (⟨i.op, 0⟩ : Ins) = i := by obtain ⟨a, b⟩ := i; simp only at hn0; subst hn0; rfl
  have hat : At text (p + 1 + (sgnOf i.op.toNat).length) (32 :: s) := (h.one).add
  have hst := step_at (y := y) (args := args) ht (code := code) e5 hat.1
  rw [rd_blank hat] at hst
  have en : p + 1 + (sgnOf i.op.toNat).length + 1 = p + (sgnOf i.op.toNat).length + 2 := by omega
  rw [en] at hst
  have hsf : stepF text (rdP text p) = rdP text (p + (sgnOf i.op.toNat).length + 2) := by
    rw [stepF_rd (by rw [e5]) (by rw [e5]), e5]
    simp only
    rw [rd_blank hat, en]
  refine loop_round (by rw [e5]) (fun h0 => ?_) (fun _ => ⟨c2, r2, hc, ?_, ?_, ?_, ?_⟩)
  · rw [hw, e6] at h0; omega
  · rw [hsf]; exact hst
  · rw [hsf]; exact hb
  · rw [hw, e6, hie]; exact h1
  · rw [hw, e6, hie]
    intro ho
    have := h2 ho
    exact this
theorem sign_good {op : Int} (ho : 6 ≤ op ∧ op ≤ 15 ∧ op ≠ 9 ∧ op ≠ 10) {p : Nat} {s : List UInt8} (h : At text p (32 :: (sgnOf op.toNat ++ 32 :: s))) {k : Nat} {n : Int} (hk : rankF op n = k) : Good text (k + 1) p := by
  obtain ⟨k', e1, e2, e3, e4, e5, e6, e7⟩ := sign_at ho h
  have ek : k' = k := by have := e4 n; omega
  subst ek
  exact ⟨_, _, _, e5, (h.one).add.1, fun j h1 h2 => e7 j (by omega) h2⟩
/-- A tree that is an operator's, where its level may have several. -/
theorem core_many (ht : text.length ≤ 1000000) {i : Ins} {a b : T} (ho : 6 ≤ i.op ∧ i.op ≤ 15 ∧ i.op ≠ 9 ∧ i.op ≠ 10) (hn0 : i.n = 0) {k : Nat} (hk : rankF i.op i.n = k) (h3 : k ≠ 3) (ha : QS text y args vs a k) (hb : PS text y args vs b (k + 1)) : QS text y args vs (.bin i a b) k := by
  intro code p post H2 hat hbd hg hc hl
  have hr : (T.bin i a b).rank = k := hk
  have e1 : leftF (rankF i.op i.n) = k := by rw [hk, leftF, if_neg (by omega)]
  have e2 : rankF i.op i.n + 1 = ((k + 1 : Nat) : Int) := by rw [hk]; rfl
  rw [hr, held_same (Int.le_refl _), plain_bin_eq ho, e1, e2] at hat hg hl
  simp only [List.append_assoc, List.cons_append] at hat
  have hat1 := hat.add
  have hat2 : At text (p + (heldF (plainF vs a) a.rank k).length + (sgnOf i.op.toNat).length + 2) (heldF (plainF vs b) b.rank ((k + 1 : Nat) : Int) ++ post) := by
    have := hat1.one.add.one
    have e : p + (heldF (plainF vs a) a.rank k).length + 1 + (sgnOf i.op.toNat).length + 1 = p + (heldF (plainF vs a) a.rank k).length + (sgnOf i.op.toNat).length + 2 := by omega
    rw [e] at this; exact this
  have hlen : p + (heldF (plainF vs a) a.rank k ++ (32 :: (sgnOf i.op.toNat ++ 32 :: heldF (plainF vs b) b.rank ((k + 1 : Nat) : Int)))).length = p + (heldF (plainF vs a) a.rank k).length + (sgnOf i.op.toNat).length + 2 + (heldF (plainF vs b) b.rank ((k + 1 : Nat) : Int)).length := by
    simp only [List.length_append, List.length_cons]; omega
  rw [hlen] at hg hl
  simp only [codeT, List.length_append, List.length_cons, List.length_nil] at hc
  refine ha code p _ H2 hat bd_blank (sign_good ho hat1 hk) (by omega) ?_
  refine bin_loop ht ho hn0 hk hat1 (c2 := code ++ codeT a ++ codeT b) (r2 := rdP text (p + (heldF (plainF vs a) a.rank k).length + (sgnOf i.op.toNat).length + 2 + (heldF (plainF vs b) b.rank ((k + 1 : Nat) : Int)).length)) (by simp only [List.length_append]; omega) ?_ (fun h => ?_) (fun _ => ?_)
  · exact hb _ _ post hat2 hbd hg (by simp only [List.length_append]; omega)
  · exfalso
    have : onceQ k = false := by unfold onceQ; split; exact absurd rfl h3; rfl
    rw [this] at h; cases h
  · simp only [codeT, List.append_assoc] at hl ⊢
    exact hl
/-- A comparison: one sign at most. -/
theorem core_once (ht : text.length ≤ 1000000) {i : Ins} {a b : T} (ho : 6 ≤ i.op ∧ i.op ≤ 15 ∧ i.op ≠ 9 ∧ i.op ≠ 10) (hn0 : i.n = 0) (hk : rankF i.op i.n = 3) (ha : PS text y args vs a 4) (hb : PS text y args vs b 4) : PS text y args vs (.bin i a b) 3 := by
  intro code p post hat hbd hg hc
  have hr : (T.bin i a b).rank = 3 := hk
  have e1 : leftF (rankF i.op i.n) = ((4 : Nat) : Int) := by rw [hk]; rfl
  have e2 : rankF i.op i.n + 1 = ((4 : Nat) : Int) := by rw [hk]; rfl
  rw [hr, held_same (by decide), plain_bin_eq ho, e1, e2] at hat hg ⊢
  simp only [List.append_assoc, List.cons_append] at hat
  have hat1 := hat.add
  have hat2 : At text (p + (heldF (plainF vs a) a.rank (4 : Nat)).length + (sgnOf i.op.toNat).length + 2) (heldF (plainF vs b) b.rank (4 : Nat) ++ post) := by
    have := hat1.one.add.one
    have e : p + (heldF (plainF vs a) a.rank (4 : Nat)).length + 1 + (sgnOf i.op.toNat).length + 1 = p + (heldF (plainF vs a) a.rank (4 : Nat)).length + (sgnOf i.op.toNat).length + 2 := by omega
    rw [e] at this; exact this
  have hlen : p + (heldF (plainF vs a) a.rank (4 : Nat) ++ (32 :: (sgnOf i.op.toNat ++ 32 :: heldF (plainF vs b) b.rank (4 : Nat)))).length = p + (heldF (plainF vs a) a.rank (4 : Nat)).length + (sgnOf i.op.toNat).length + 2 + (heldF (plainF vs b) b.rank (4 : Nat)).length := by
    simp only [List.length_append, List.length_cons]; omega
  rw [hlen] at hg ⊢
  simp only [codeT, List.length_append, List.length_cons, List.length_nil] at hc
  have hk' : rankF i.op i.n = (3 : Nat) := hk
  refine fq_chain (by decide) (by decide) (chain_start (ha code p _ hat bd_blank (sign_good ho hat1 hk') (by omega)) ?_)
  refine bin_loop ht ho hn0 hk' hat1 (c2 := code ++ codeT a ++ codeT b) (r2 := rdP text (p + (heldF (plainF vs a) a.rank (4 : Nat)).length + (sgnOf i.op.toNat).length + 2 + (heldF (plainF vs b) b.rank (4 : Nat)).length)) (by simp only [List.length_append]; omega) ?_ (fun _ => ?_) (fun h => by cases h)
  · exact hb _ _ post hat2 hbd hg.mono (by simp only [List.length_append]; omega)
  · simp only [codeT, List.append_assoc]
/-- A text in brackets. -/
theorem par_at (ht : text.length ≤ 1000000) {t : T} (h : PS text y args vs t 1) (hr : 1 ≤ t.rank) {code : List Ins} {p : Nat} {post : List UInt8} (hat : At text p (40 :: (plainF vs t ++ 41 :: post))) (hc : code.length + (codeT t).length ≤ 1000) :
    CV cx 104 [.ptr 0 0 0] (Hs text y args code (rdP text p)) (.p (.tup [])) (Hs text y args (code ++ codeT t) (rdP text (p + 1 + (plainF vs t).length + 1))) := by
  have r1 := rd_sym hat (by decide)
  have hat1 := hat.one
  have hat2 := hat1.add
  have r2 := rd_sym hat2 (by decide)
  have e : heldF (plainF vs t) t.rank ((1 : Nat) : Int) = plainF vs t := held_same hr
  have h := h code (p + 1) (41 :: post)
  rw [e] at h
  have h := h hat1 (.inr (.inl rfl)) ⟨_, _, _, r2, hat2.one.1, fun k h1 h5 => by
    have : k = 1 ∨ k = 2 ∨ k = 3 ∨ k = 4 ∨ k = 5 := by omega
    rcases this with rfl | rfl | rfl | rfl | rfl <;> rfl⟩ hc
  have hs := step_at (y := y) (args := args) ht (code := code) r1 hat1.1
  have hw := want_at (y := y) (args := args) ht (code := code ++ codeT t) r2 hat2.one.1
  exact one_atom (by rw [r1]; simp) (by rw [r1]; simp) (atom_par (by rw [r1]) (by rw [r1]) hs h hw)
theorem rank_one (t : T) : 1 ≤ t.rank := by
  unfold T.rank rankF
  (repeat' split) <;> omega
theorem rank_seven (t : T) : t.rank ≤ 7 := by
  unfold T.rank rankF
  (repeat' split) <;> omega
/-- All that is shown of a tree at the levels. -/
def AllS (text : List UInt8) (y : Pv) (args : Int) (vs : List (List UInt8)) (t : T) : Prop := (∀ q, 1 ≤ q → q ≤ 6 → PS text y args vs t q) ∧ ∀ q, 1 ≤ q → q ≤ 5 → (q = 3 → t.rank ≠ 3) → QS text y args vs t q
/-- From the highest level at which a tree stands without brackets to those below. -/
theorem downs {t : T} {k : Nat} (hk : k ≤ 6) (hr : ∀ q : Nat, q < k → t.rank ≠ q) (h : PS text y args vs t k) : ∀ (d q : Nat), q + d = k → 1 ≤ q → PS text y args vs t q ∧ (q < k → QS text y args vs t q)
  | 0, q, e, h1 => ⟨by have : q = k := by omega
                       rw [this]; exact h, fun h => by omega⟩
  | d + 1, q, e, h1 => by
    have := (downs hk hr h d (q + 1) (by omega) (by omega)).1
    have hq := PS.down (hr q (by omega)) this
    exact ⟨hq.ps h1 (by omega), fun _ => hq⟩
theorem all_high (ht : text.length ≤ 1000000) {t : T} (hr : 6 ≤ t.rank) (h : PS text y args vs t 6) : AllS text y args vs t :=
  ⟨fun q h1 h6 => (downs (Nat.le_refl _) (fun q hq => by omega) h (6 - q) q (by omega) h1).1, fun q h1 h5 _ => (downs (Nat.le_refl _) (fun q hq => by omega) h (6 - q) q (by omega) h1).2 (by omega)⟩
theorem all_low (ht : text.length ≤ 1000000) {t : T} {k : Nat} (h1 : 1 ≤ k) (h5 : k ≤ 5) (hr : t.rank = k) (h : PS text y args vs t k) (hq : k ≠ 3 → QS text y args vs t k) : AllS text y args vs t := by
  have hd := downs (text := text) (y := y) (args := args) (vs := vs) (t := t) (k := k) (by omega) (fun q hq => by omega) h
  have h6 : PS text y args vs t 6 := by
    intro code p post hat hb hg hc
    have e : heldF (plainF vs t) t.rank ((6 : Nat) : Int) = 40 :: (plainF vs t ++ [41]) := by unfold heldF; rw [if_pos (by omega)]
    rw [e] at hat hg ⊢
    simp only [List.cons_append, List.append_assoc, List.nil_append] at hat
    have := par_at ht (hd (k - 1) 1 (by omega) (by omega)).1 (rank_one t) hat hc
    have e2 : p + (40 :: (plainF vs t ++ [41])).length = p + 1 + (plainF vs t).length + 1 := by simp only [List.length_cons, List.length_append, List.length_nil]; omega
    rw [e2]
    exact this
  have hu : ∀ (d q : Nat), q + d = 6 → k < q → PS text y args vs t q := by
    intro d
    induction d with
    | zero => intro q e _; have : q = 6 := by omega
              rw [this]; exact h6
    | succ d ih => intro q e hlt; exact (PS.down (by omega) (ih (q + 1) (by omega) (by omega))).ps (by omega) (by omega)
  refine ⟨fun q g1 g6 => ?_, fun q g1 g5 g3 => ?_⟩
  · by_cases hq : q ≤ k
    · exact (hd (k - q) q (by omega) g1).1
    · exact hu (6 - q) q (by omega) (by omega)
  · by_cases hlt : q < k
    · exact (hd (k - q) q (by omega) g1).2 hlt
    · by_cases he : q = k
      · subst he
        exact hq (fun h => g3 h (by omega))
      · exact PS.down (by omega) (hu (6 - (q + 1)) (q + 1) (by omega) (by omega))
/-- The names are names, each once; few arguments. -/
structure Sit (text : List UInt8) (y : Pv) (args : Int) (vs : List (List UInt8)) : Prop where
  ht : text.length ≤ 1000000
  hy : IsL 1 y
  hvl : elemsP y = vs.map .str
  h20 : vs.length ≤ 20
  hn : Named vs
  ha : args ≤ 10
theorem dec_one {n : Nat} (h : n < 10) : dec n = [UInt8.ofNat (48 + n)] := by rw [dec, if_pos h]
theorem leaf_six (S : Sit text y args vs) (i : Ins) (hok : okP vs args (.leaf i)) : PS text y args vs (.leaf i) 6 := by
  intro code p post hat hb hg hc
  have hr : (6 : Int) ≤ (T.leaf i).rank := by
    show 6 ≤ rankF i.op i.n
    simp only [okP] at hok
    unfold rankF
    (repeat' split) <;> omega
  rw [held_same (show ((6 : Nat) : Int) ≤ _ from hr)] at hat hg ⊢
  obtain ⟨op, n⟩ := i
  simp only [okP] at hok
  simp only [codeT, List.length_cons, List.length_nil] at hc
  show CV cx 104 _ _ _ _
  rcases hok with ⟨rfl, h1, h2⟩ | ⟨rfl, h1, h2⟩ | ⟨rfl, h1, h2⟩
  · by_cases h0 : n < 0
    · obtain ⟨m, hm⟩ : ∃ m : Nat, n = -(m : Int) := ⟨(-n).toNat, by omega⟩
      subst hm
      have hs : plainF vs (.leaf ⟨1, -(m : Int)⟩) = 45 :: dec m := by
        simp only [plainF]; rw [if_pos trivial, if_pos h0]
        have : (- -(m : Int)).toNat = m := by omega
        rw [this]
      rw [hs] at hat hg ⊢
      obtain ⟨b, w, hbw⟩ := dec_cons m
      have hd := dec_dg m
      have hnum := dec_num m (by omega)
      rw [List.cons_append] at hat
      have r1 := rd_sym hat (by decide)
      have hat1 := hat.one
      rw [hbw] at hat1 hd
      have r2 := rd_num hat1 hd (bd_dg hb)
      have hat2 := hat1.add
      have hst := step_at (y := y) (args := args) S.ht (code := code) r1 hat1.1
      have hnm := number_hs (y := y) (args := args) S.ht code (by omega) (rdP text (p + 1)) (by rw [r2]; exact hat2.1) (by rw [r2]; exact hd) (by rw [r2]; have := hat2.1; simp only; have := S.ht; omega) (by rw [r2]; simp only; rw [← hbw, hnum]; omega) p (-1) (.inr rfl)
      have hlen : p + (45 :: dec m).length = p + 1 + (b :: w).length := by rw [hbw]; simp only [List.length_cons]; omega
      rw [hlen]
      have e2 : (rdP text (p + 1)).word = dec m := by rw [r2, hbw]
      rw [e2, hnum, stepF_rd (by rw [r2]) (by rw [r2])] at hnm
      have e3 : (rdP text (p + 1)).next = p + 1 + (b :: w).length := by rw [r2]
      rw [e3] at hnm
      have e4 : (-1 : Int) * (m : Int) = -(m : Int) := by omega
      rw [e4] at hnm
      have e5 : (rdP text p).next = p + 1 := by rw [r1]
      have e6 : (rdP text p).at' = p := by rw [r1]
      have hg0 : text[(rdP text p).next]? = some b := by rw [e5]; exact hat1.get 0
      exact one_num (by rw [r1]) hg0 (hd b (by simp)) hst (by rw [e6]; exact hnm)
    · obtain ⟨m, rfl⟩ := Int.eq_ofNat_of_zero_le (by omega : 0 ≤ n)
      have hs : plainF vs (.leaf ⟨1, (m : Int)⟩) = dec m := by
        simp only [plainF]; rw [if_pos trivial, if_neg h0]; rfl
      rw [hs] at hat hg ⊢
      obtain ⟨b, w, hbw⟩ := dec_cons m
      have hd := dec_dg m
      have hnum := dec_num m (by omega)
      rw [hbw] at hat hd hg ⊢
      have r2 := rd_num hat hd (bd_dg hb)
      have hat2 := hat.add
      have e2 : (rdP text p).word = dec m := by rw [r2, hbw]
      have e3 : (rdP text p).next = p + (b :: w).length := by rw [r2]
      have e6 : (rdP text p).at' = p := by rw [r2]
      have hnm := number_hs (y := y) (args := args) S.ht code (by omega) (rdP text p) (by rw [r2]; exact hat2.1) (by rw [r2]; exact hd) (by rw [r2]; have := hat2.1; simp only; have := S.ht; omega) (by rw [e2, hnum]; omega) p 1 (.inl rfl)
      rw [e2, hnum, stepF_rd (by rw [r2]) (by rw [r2]), e3] at hnm
      have e4 : (1 : Int) * (m : Int) = (m : Int) := by omega
      rw [e4] at hnm
      have hb45 : ∀ c : UInt8, dg c.toNat = false → b :: w ≠ [c] := by
        intro c hc h
        have := hd b (by simp)
        rw [(List.cons.inj h).1, hc] at this
        cases this
      exact one_atom (by rw [r2]; exact hb45 45 (by decide)) (by rw [r2]; exact hb45 33 (by decide)) (atom_num (b := b) (w := w) (by rw [r2]) (by rw [r2]) (hd b (by simp)) (by rw [e6]; exact hnm))
  · obtain ⟨k, rfl⟩ := Int.eq_ofNat_of_zero_le h1
    have hk : k < vs.length := by omega
    have hs : plainF vs (.leaf ⟨2, k⟩) = vs[k] := by
      simp only [plainF]; rw [if_neg (by decide), if_pos trivial]
      simp only [Int.toNat_natCast]
      rw [List.getD_eq_getElem?_getD, List.getElem?_eq_getElem hk]; rfl
    rw [hs] at hat hg ⊢
    have hget : vs[k]? = some vs[k] := List.getElem?_eq_getElem hk
    obtain ⟨hnf, huniq⟩ := S.hn k _ hget
    obtain ⟨c, w, hcw, hlt, hnm, hrs⟩ := name_cons hnf
    generalize vs[k] = s at *
    subst hcw
    have r2 := rd_name hat hlt hnm (bd_nm hb)
    have hat2 := hat.add
    have e3 : (rdP text p).next = p + (c :: w).length := by rw [r2]
    have hname := name_hs (text := text) (args := args) S.ht S.hy vs S.hvl (by have := S.h20; omega) code (by omega) (rdP text p) (by rw [r2]; exact hat2.1) (c :: w) k hget (fun j hj h => by
      have := huniq j _ hj h
      simp at this)
    rw [stepF_rd (by rw [r2]) (by rw [r2]), e3] at hname
    have hb45 : ∀ d : UInt8, lt d.toNat = false → c :: w ≠ [d] := by
      intro d hd h
      rw [(List.cons.inj h).1, hd] at hlt
      cases hlt
    exact one_atom (by rw [r2]; exact hb45 45 (by decide)) (by rw [r2]; exact hb45 33 (by decide)) (atom_name (b := c) (w := w) (by rw [r2]) (by rw [r2]) hlt hrs hname)
  · obtain ⟨k, rfl⟩ := Int.eq_ofNat_of_zero_le h1
    have h10 := S.ha
    have hk : k < 10 := by omega
    have hs : plainF vs (.leaf ⟨3, k⟩) = [36, UInt8.ofNat (48 + k)] := by
      simp only [plainF]; rw [if_neg (by decide), if_neg (by decide)]
      simp only [Int.toNat_natCast]
      rw [dec_one hk]
    have hdk : ∀ k : Nat, k < 10 → dg ((UInt8.ofNat (48 + k)).toNat : Int) = true ∧ ((UInt8.ofNat (48 + k)).toNat : Int) - 48 = k := by decide
    obtain ⟨hd, he⟩ := hdk k hk
    rw [hs] at hat hg ⊢
    generalize UInt8.ofNat (48 + k) = b at *
    have r2 := rd_arg hat hd
    have hat2 := hat.add
    have hput := put_hs (text := text) (y := y) (args := args) code (by omega) (rdP text p) 3 k
    have hst := step_at (y := y) (args := args) S.ht (code := code ++ [⟨3, k⟩]) r2 hat2.1
    exact one_atom (by rw [r2]; simp) (by rw [r2]; simp) (atom_arg (by rw [r2]) (by rw [r2]) hd (by omega) (by rw [he]; exact hput) hst)
theorem shown_head (S : Sit text y args vs) : ∀ (t : T), okP vs args t → ¬ (t.ins.op = 1 ∧ 0 ≤ t.ins.n) → ∃ c w, heldF (plainF vs t) t.rank 6 = c :: w ∧ dg c.toNat = false := by
  intro t hok h
  by_cases hr : t.rank < 6
  · exact ⟨40, _, by unfold heldF; rw [if_pos hr], by decide⟩
  · rw [held_same (by omega)]
    cases t with
    | leaf i =>
      simp only [okP] at hok
      simp only [T.ins] at h
      rcases hok with ⟨h1, h2, h3⟩ | ⟨h1, h2, h3⟩ | ⟨h1, h2, h3⟩
      · simp only [plainF]; rw [if_pos h1, if_pos (by omega)]; exact ⟨_, _, rfl, by decide⟩
      · obtain ⟨k, hk⟩ := Int.eq_ofNat_of_zero_le h2
        have hlt : k < vs.length := by omega
        have hget : vs[k]? = some vs[k] := List.getElem?_eq_getElem hlt
        obtain ⟨hnf, -⟩ := S.hn k _ hget
        obtain ⟨c, w, hcw, hl, -, -⟩ := name_cons hnf
        simp only [plainF]; rw [if_neg (by omega), if_pos h1, hk]
        simp only [Int.toNat_natCast]
        rw [List.getD_eq_getElem?_getD, hget, Option.getD_some]
        refine ⟨c, w, hcw, ?_⟩
        simp only [lt, Bool.and_eq_true, decide_eq_true_eq] at hl
        simp only [dg, Bool.and_eq_false_iff, decide_eq_false_iff_not]
        omega
      · simp only [plainF]; rw [if_neg (by omega), if_neg (by omega)]; exact ⟨_, _, rfl, by decide⟩
    | un i a =>
      simp only [plainF]
      (repeat' split)
      · exact ⟨_, _, rfl, by decide⟩
      · exact ⟨_, _, rfl, by decide⟩
      · exact ⟨_, _, rfl, by decide⟩
    | bin i a b =>
      simp only [okP] at hok
      simp only [plainF]
      split
      · exact ⟨_, _, rfl, by decide⟩
      · split
        · exact ⟨_, _, rfl, by decide⟩
        · exfalso
          apply hr
          show rankF i.op i.n < 6
          unfold rankF
          (repeat' split) <;> omega
    | tri i a b c => exact ⟨105, _, rfl, by decide⟩
theorem un_six (S : Sit text y args vs) (i : Ins) (a : T) (hok : okP vs args (.un i a)) (hA : AllS text y args vs a) : PS text y args vs (.un i a) 6 := by
  intro code p post hat hb hg hc
  simp only [okP] at hok
  obtain ⟨ho, hn0, hoka⟩ := hok
  have hr : (T.un i a).rank = 6 := by
    show rankF i.op i.n = 6
    unfold rankF
    (repeat' split) <;> omega
  rw [hr, held_same (show ((6 : Nat) : Int) ≤ 6 by decide)] at hat hg ⊢
  obtain ⟨op, n⟩ := i
  simp only at ho hn0
  subst hn0
  simp only [codeT, List.length_append, List.length_cons, List.length_nil] at hc
  have hput := fun r => put_hs (text := text) (y := y) (args := args) (code ++ codeT a) (by simp only [List.length_append]; omega) r op 0
  have hcode : code ++ codeT (T.un ⟨op, 0⟩ a) = code ++ codeT a ++ [⟨op, 0⟩] := by simp only [codeT, List.append_assoc]
  rw [hcode]
  show CV cx 104 _ _ _ _
  have main : ∀ c : UInt8, (c = 45 ∧ op = 4 ∧ ¬ (a.ins.op = 1 ∧ 0 ≤ a.ins.n)) ∨ (c = 33 ∧ op = 5) → plainF vs (.un ⟨op, 0⟩ a) = c :: heldF (plainF vs a) a.rank 6 → CV cx 104 [.ptr 0 0 0] (Hs text y args code (rdP text p)) (.p (.tup [])) (Hs text y args (code ++ codeT a ++ [⟨op, 0⟩]) (rdP text (p + (plainF vs (.un ⟨op, 0⟩ a)).length))) := by
    intro c hc' hs
    rw [hs] at hat hg ⊢
    rw [List.cons_append] at hat
    have r1 := rd_sym hat (by rcases hc' with ⟨rfl, -⟩ | ⟨rfl, -⟩ <;> decide)
    have hat1 := hat.one
    have hst := step_at (y := y) (args := args) S.ht (code := code) r1 hat1.1
    have hlen : p + (c :: heldF (plainF vs a) a.rank 6).length = p + 1 + (heldF (plainF vs a) a.rank 6).length := by simp only [List.length_cons]; omega
    rw [hlen] at hg ⊢
    have h6 := hA.1 6 (by decide) (by decide) code (p + 1) post hat1 hb hg (by omega)
    refine one_sign ?_ hst h6 (hput _)
    rcases hc' with ⟨rfl, ho4, hnn⟩ | ⟨rfl, ho5⟩
    · refine .inl ⟨by rw [r1], ho4, fun b hb' => ?_⟩
      obtain ⟨d, w, hdw, hdg⟩ := shown_head S a hoka hnn
      have hg0 := hat1.get 0
      rw [hdw] at hg0
      have e5 : (rdP text p).next = p + 1 := by rw [r1]
      rw [e5] at hb'
      have : text[p + 1]? = some d := hg0
      rw [this] at hb'
      cases hb'
      exact hdg
    · exact .inr ⟨by rw [r1], ho5⟩
  rcases ho with h4 | h5
  · by_cases hbare : a.ins.op = 1 ∧ a.ins.n ≥ 0
    · have hs : plainF vs (.un ⟨op, 0⟩ a) = 45 :: 40 :: (plainF vs a ++ [41]) := by
        simp only [plainF]; rw [if_pos h4, if_pos hbare]; rfl
      rw [hs] at hat hg ⊢
      simp only [List.cons_append, List.append_assoc, List.nil_append] at hat
      have r1 := rd_sym hat (by decide)
      have hat1 := hat.one
      have hst := step_at (y := y) (args := args) S.ht (code := code) r1 hat1.1
      have hp := par_at S.ht (hA.1 1 (by decide) (by decide)) (rank_one a) (code := code) hat1 (by omega)
      have hlen : p + (45 :: 40 :: (plainF vs a ++ [41])).length = p + 1 + 1 + (plainF vs a).length + 1 := by simp only [List.length_cons, List.length_append, List.length_nil]; omega
      rw [hlen]
      refine one_sign (.inl ⟨by rw [r1], h4, fun b hb' => ?_⟩) hst hp (hput _)
      have e5 : (rdP text p).next = p + 1 := by rw [r1]
      rw [e5] at hb'
      have : text[p + 1]? = some 40 := hat1.get 0
      rw [this] at hb'
      cases hb'
      decide
    · exact main 45 (.inl ⟨rfl, h4, hbare⟩) (by simp only [plainF]; rw [if_pos h4, if_neg hbare])
  · exact main 33 (.inr ⟨rfl, h5⟩) (by simp only [plainF]; rw [if_neg (by omega)])
/-! ### Calls -/
theorem arg_at {t : T} (hA : AllS text y args vs t) {code : List Ins} {p : Nat} {c : UInt8} {s : List UInt8} (hc : c = 41 ∨ c = 44) (hat : At text p (plainF vs t ++ c :: s)) (hl : code.length + (codeT t).length ≤ 1000) :
    CV cx 34 [.ptr 0 0 0] (Hs text y args code (rdP text p)) (.p (.tup [])) (Hs text y args (code ++ codeT t) (rdP text (p + (plainF vs t).length))) := by
  have e : heldF (plainF vs t) t.rank ((1 : Nat) : Int) = plainF vs t := held_same (rank_one t)
  have h := hA.1 1 (by decide) (by decide) code p (c :: s)
  rw [e] at h
  have hat2 := hat.add
  have r2 := rd_sym hat2 (by rcases hc with rfl | rfl <;> decide)
  refine h hat (by rcases hc with rfl | rfl; exact .inr (.inl rfl); exact .inr (.inr rfl)) ⟨_, _, _, r2, hat2.one.1, fun k h1 h5 => ?_⟩ hl
  have : k = 1 ∨ k = 2 ∨ k = 3 ∨ k = 4 ∨ k = 5 := by omega
  rcases hc with rfl | rfl <;> rcases this with rfl | rfl | rfl | rfl | rfl <;> rfl
theorem comma_at (ht : text.length ≤ 1000000) {code : List Ins} {p : Nat} {s : List UInt8} (hat : At text p (44 :: 32 :: s)) : CV cx 107 [.ptr 0 0 0, .p (.str [44])] (Hs text y args code (rdP text p)) (.p (.tup [])) (Hs text y args code (rdP text (p + 2))) := by
  have h := want_at (y := y) (args := args) ht (code := code) (rd_sym hat (by decide)) hat.one.1
  rw [rd_blank hat.one] at h
  exact h
theorem close_at (ht : text.length ≤ 1000000) {code : List Ins} {p : Nat} {s : List UInt8} (hat : At text p (41 :: s)) : CV cx 107 [.ptr 0 0 0, .p (.str [41])] (Hs text y args code (rdP text p)) (.p (.tup [])) (Hs text y args code (rdP text (p + 1))) :=
  want_at ht (rd_sym hat (by decide)) hat.one.1
theorem open_at (ht : text.length ≤ 1000000) {code : List Ins} {p : Nat} {s : List UInt8} (hat : At text p (40 :: s)) : CV cx 107 [.ptr 0 0 0, .p (.str [40])] (Hs text y args code (rdP text p)) (.p (.tup [])) (Hs text y args code (rdP text (p + 1))) :=
  want_at ht (rd_sym hat (by decide)) hat.one.1
theorem bin_six (S : Sit text y args vs) (i : Ins) (a b : T) (ho : i.op = 9 ∨ i.op = 10) (hn0 : i.n = 0) (hA : AllS text y args vs a) (hB : AllS text y args vs b) : PS text y args vs (.bin i a b) 6 := by
  intro code p post hat hb hg hc
  have hr : (T.bin i a b).rank = 7 := by
    show rankF i.op i.n = 7
    unfold rankF
    (repeat' split) <;> omega
  rw [hr, held_same (show ((6 : Nat) : Int) ≤ 7 by decide)] at hat ⊢
  clear hg
  obtain ⟨op, n⟩ := i
  simp only at ho hn0
  subst hn0
  simp only [codeT, List.length_append, List.length_cons, List.length_nil] at hc
  have hcode : code ++ codeT (T.bin ⟨op, 0⟩ a b) = code ++ codeT a ++ codeT b ++ [⟨op, 0⟩] := by simp only [codeT, List.append_assoc]
  rw [hcode]
  obtain ⟨c1, c2, hw, hs⟩ : ∃ c1 c2 : UInt8, ((c1 = 105 ∧ c2 = 110 ∧ op = 9) ∨ (c1 = 97 ∧ c2 = 120 ∧ op = 10)) ∧ plainF vs (.bin ⟨op, 0⟩ a b) = [109, c1, c2] ++ 40 :: (plainF vs a ++ 44 :: 32 :: (plainF vs b ++ [41])) := by
    rcases ho with h | h
    · refine ⟨105, 110, .inl ⟨rfl, rfl, h⟩, ?_⟩
      simp only [plainF]; rw [if_pos h]; simp only [List.append_assoc, List.cons_append, List.nil_append]
    · refine ⟨97, 120, .inr ⟨rfl, rfl, h⟩, ?_⟩
      simp only [plainF]; rw [if_neg (by omega), if_pos h]; simp only [List.append_assoc, List.cons_append, List.nil_append]
  rw [hs] at hat ⊢
  rw [List.append_assoc] at hat
  simp only [List.cons_append, List.append_assoc, List.nil_append] at hat
  have r1 := rd_name (w := [c1, c2]) hat (by decide) (by intro b hb; simp only [List.mem_cons, List.mem_nil_iff, or_false] at hb; rcases hw with ⟨rfl, rfl, -⟩ | ⟨rfl, rfl, -⟩ <;> rcases hb with rfl | rfl <;> decide) (by intro c t h; cases h; decide)
  have hat1 : At text (p + 3) _ := At.add (w := [109, c1, c2]) hat
  have hat2 := hat1.one
  have hat3 := hat2.add
  have hat4 := hat3.one.one
  have hat5 := hat4.add
  have hst := step_at (y := y) (args := args) S.ht (code := code) r1 hat1.1
  have hfin : p + ([109, c1, c2] ++ 40 :: (plainF vs a ++ 44 :: 32 :: (plainF vs b ++ [41]))).length = p + 3 + 1 + (plainF vs a).length + 1 + 1 + (plainF vs b).length + 1 := by simp only [List.length_append, List.length_cons, List.length_nil]; omega
  rw [hfin]
  show CV cx 104 _ _ _ _
  refine one_atom (by rw [r1]; simp) (by rw [r1]; simp) (atom_call (op := op) (by rw [r1]) (by rw [r1]; rcases hw with ⟨rfl, rfl, h⟩ | ⟨rfl, rfl, h⟩; exact .inl ⟨rfl, h⟩; exact .inr (.inl ⟨rfl, h⟩)) ?_)
  exact call2_hs (by omega) hst (open_at S.ht hat1) (arg_at hA (.inr rfl) hat2 (by omega)) (comma_at S.ht hat3) (arg_at hB (.inl rfl) hat4 (by simp only [List.length_append]; omega)) (close_at S.ht hat5) (put_hs _ (by simp only [List.length_append]; omega) _ op 0)
theorem tri_six (S : Sit text y args vs) (i : Ins) (a b c : T) (ho : i.op = 16) (hn0 : i.n = 0) (hA : AllS text y args vs a) (hB : AllS text y args vs b) (hC : AllS text y args vs c) : PS text y args vs (.tri i a b c) 6 := by
  intro code p post hat hb hg hc
  have hr : (T.tri i a b c).rank = 7 := by
    show rankF i.op i.n = 7
    unfold rankF
    (repeat' split) <;> omega
  rw [hr, held_same (show ((6 : Nat) : Int) ≤ 7 by decide)] at hat ⊢
  clear hg
  obtain ⟨op, n⟩ := i
  simp only at ho hn0
  subst hn0 ho
  simp only [codeT, List.length_append, List.length_cons, List.length_nil] at hc
  have hcode : code ++ codeT (T.tri ⟨16, 0⟩ a b c) = code ++ codeT a ++ codeT b ++ codeT c ++ [⟨16, 0⟩] := by simp only [codeT, List.append_assoc]
  rw [hcode]
  have hs : plainF vs (.tri ⟨16, 0⟩ a b c) = [105, 102] ++ 40 :: (plainF vs a ++ 44 :: 32 :: (plainF vs b ++ 44 :: 32 :: (plainF vs c ++ [41]))) := by
    simp only [plainF, List.append_assoc, List.cons_append, List.nil_append]
  rw [hs] at hat ⊢
  rw [List.append_assoc] at hat
  simp only [List.cons_append, List.append_assoc, List.nil_append] at hat
  have r1 := rd_name (w := [102]) hat (by decide) (by intro b hb; simp only [List.mem_singleton] at hb; subst hb; decide) (by intro c t h; cases h; decide)
  have hat1 : At text (p + 2) _ := At.add (w := [105, 102]) hat
  have hat2 := hat1.one
  have hat3 := hat2.add
  have hat4 := hat3.one.one
  have hat5 := hat4.add
  have hat6 := hat5.one.one
  have hat7 := hat6.add
  have hst := step_at (y := y) (args := args) S.ht (code := code) r1 hat1.1
  have hfin : p + ([105, 102] ++ 40 :: (plainF vs a ++ 44 :: 32 :: (plainF vs b ++ 44 :: 32 :: (plainF vs c ++ [41])))).length = p + 2 + 1 + (plainF vs a).length + 1 + 1 + (plainF vs b).length + 1 + 1 + (plainF vs c).length + 1 := by simp only [List.length_append, List.length_cons, List.length_nil]; omega
  rw [hfin]
  show CV cx 104 _ _ _ _
  refine one_atom (by rw [r1]; simp) (by rw [r1]; simp) (atom_call (op := 16) (by rw [r1]) (by rw [r1]; exact .inr (.inr ⟨rfl, rfl⟩)) ?_)
  exact call3_hs hst (open_at S.ht hat1) (arg_at hA (.inr rfl) hat2 (by omega)) (comma_at S.ht hat3) (arg_at hB (.inr rfl) hat4 (by simp only [List.length_append]; omega)) (comma_at S.ht hat5) (arg_at hC (.inl rfl) hat6 (by simp only [List.length_append]; omega)) (close_at S.ht hat7) (put_hs _ (by simp only [List.length_append]; omega) _ 16 0)
/-- Every tree is read as it is shown. -/
theorem all_shown (S : Sit text y args vs) : ∀ (t : T), okP vs args t → AllS text y args vs t
  | .leaf i, h => all_high S.ht (by
      show 6 ≤ rankF i.op i.n
      simp only [okP] at h
      unfold rankF
      (repeat' split) <;> omega) (leaf_six S i h)
  | .un i a, h => all_high S.ht (by
      show 6 ≤ rankF i.op i.n
      simp only [okP] at h
      unfold rankF
      (repeat' split) <;> omega) (un_six S i a h (all_shown S a h.2.2))
  | .bin i a b, h => by
    have hA := all_shown S a h.2.2.2.1
    have hB := all_shown S b h.2.2.2.2
    simp only [okP] at h
    obtain ⟨h1, h2, hn0, -, -⟩ := h
    by_cases h9 : i.op = 9 ∨ i.op = 10
    · exact all_high S.ht (by
        show 6 ≤ rankF i.op i.n
        unfold rankF
        (repeat' split) <;> omega) (bin_six S i a b h9 hn0 hA hB)
    · have ho : 6 ≤ i.op ∧ i.op ≤ 15 ∧ i.op ≠ 9 ∧ i.op ≠ 10 := by omega
      obtain ⟨k, hk, k1, k5⟩ : ∃ k : Nat, rankF i.op i.n = k ∧ 1 ≤ k ∧ k ≤ 5 := by
        have : 1 ≤ rankF i.op i.n ∧ rankF i.op i.n ≤ 5 := by
          unfold rankF
          (repeat' split) <;> omega
        exact ⟨(rankF i.op i.n).toNat, by omega, by omega, by omega⟩
      by_cases h3 : k = 3
      · subst h3
        exact all_low S.ht (k := 3) (by decide) (by decide) hk (core_once S.ht ho hn0 hk (hA.1 4 (by decide) (by decide)) (hB.1 4 (by decide) (by decide))) (fun h => absurd rfl h)
      · by_cases ha3 : k = 3
        · exact absurd ha3 h3
        · have hq := core_many S.ht ho hn0 hk h3 (hA.2 k k1 k5 (fun h => absurd h h3)) (hB.1 (k + 1) (by omega) (by omega))
          exact all_low S.ht k1 k5 hk (hq.ps k1 k5) (fun _ => hq)
  | .tri i a b c, h => all_high S.ht (by
      show 6 ≤ rankF i.op i.n
      simp only [okP] at h
      unfold rankF
      (repeat' split) <;> omega) (tri_six S i a b c h.1 h.2.1 (all_shown S a h.2.2.1) (all_shown S b h.2.2.2.1) (all_shown S c h.2.2.2.2))
end Go.Proofs.YtojpocfnjigmfaaDoor
