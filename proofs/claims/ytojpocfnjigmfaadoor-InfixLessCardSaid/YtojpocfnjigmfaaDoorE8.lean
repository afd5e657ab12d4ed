import Derived.Test.YtojpocfnjigmfaaDoorE6d
set_option maxRecDepth 10000
set_option linter.unusedSimpArgs false
set_option linter.unusedVariables false
namespace Go.Proofs.YtojpocfnjigmfaaDoor
open Go Go.AX
def bareT : T → Bool
  | .leaf i => decide (i.op = 1) && decide (0 ≤ i.n)
  | _ => false
def pieceOf (vars : List (List UInt8)) (t : T) : Pv := pc (plainF vars t) (48 + t.rank) (bareT t)
theorem leaf_run {x : Pv} {vars : List (List UInt8)} (hx : IsL 1 x) (hl : elemsP x = vars.map .str) (i : Ins) (hok : okT vars (.leaf i)) : PV cx 26 [.p i.pv, .p x] (pieceOf vars (.leaf i)) := by
  obtain ⟨op, n⟩ := i
  simp only [okT] at hok
  rcases hok with ⟨rfl, h1, h2⟩ | ⟨rfl, h1, h2⟩ | ⟨rfl, h1, h2⟩
  · by_cases h0 : n < 0
    · obtain ⟨k, hk⟩ := Int.eq_ofNat_of_zero_le (show 0 ≤ -n by omega)
      have e : n = -(k : Int) := by omega
      subst e
      have := leaf_neg k (by omega) (by omega) x
      have e2 : pieceOf vars (.leaf ⟨1, -(k : Int)⟩) = pc (45 :: dec k) 54 false := by
        have e3 : (- -(k : Int)).toNat = k := by omega
        simp only [pieceOf, plainF, T.rank, T.ins, rankF, bareT, e3]
        rw [if_pos trivial, if_pos h0, if_neg (by decide), if_neg (by decide), if_neg (by decide), if_neg (by decide), if_neg (by decide), if_neg (by decide), if_pos ⟨trivial, h0⟩]
        have : decide ((0 : Int) ≤ -(k : Int)) = false := by simp only [decide_eq_false_iff_not]; omega
        rw [this]
        rfl
      rw [e2]
      exact this
    · obtain ⟨k, rfl⟩ := Int.eq_ofNat_of_zero_le (show 0 ≤ n by omega)
      have := leaf_pos k (by omega) x
      have e2 : pieceOf vars (.leaf ⟨1, k⟩) = pc (dec k) 55 true := by
        simp only [pieceOf, plainF, T.rank, T.ins, rankF, bareT, Int.toNat_natCast]
        rw [if_pos trivial, if_neg h0, if_neg (by decide), if_neg (by decide), if_neg (by decide), if_neg (by decide), if_neg (by decide), if_neg (by decide), if_neg (fun h => h0 h.2)]
        have : decide ((0 : Int) ≤ (k : Int)) = true := by simp only [decide_eq_true_eq]; omega
        rw [this]
        rfl
      rw [e2]
      exact this
  · obtain ⟨k, rfl⟩ := Int.eq_ofNat_of_zero_le h1
    have hk : k < vars.length := by omega
    have := leaf_var k x hx vars hl (vars.getD k []) (by rw [List.getD_eq_getElem?_getD, List.getElem?_eq_getElem hk]; rfl)
    have e2 : pieceOf vars (.leaf ⟨2, k⟩) = pc (vars.getD k []) 55 false := rfl
    rw [e2]
    exact this
  · obtain ⟨k, rfl⟩ := Int.eq_ofNat_of_zero_le h1
    have := leaf_arg k (by omega) x
    have e2 : pieceOf vars (.leaf ⟨3, k⟩) = pc (36 :: dec k) 55 false := rfl
    rw [e2]
    exact this
theorem held_shift (s : List UInt8) (r q : Int) : heldF s (48 + r) (48 + q) = heldF s r q := by
  unfold heldF
  by_cases h : r < q
  · rw [if_pos h, if_pos (by omega)]
  · rw [if_neg h, if_neg (by omega)]
theorem rank_pos (t : T) : 1 ≤ t.rank ∧ t.rank ≤ 7 := by
  unfold T.rank rankF
  (repeat' split) <;> omega
theorem bare_ins {vars : List (List UInt8)} {a : T} (hok : okT vars a) : bareT a = true ↔ (a.ins.op = 1 ∧ a.ins.n ≥ 0) := by
  cases a with
  | leaf i => simp [bareT, T.ins]
  | un i a => simp only [okT] at hok; simp only [bareT, T.ins]; constructor <;> intro h; cases h; omega
  | bin i a b => simp only [okT] at hok; simp only [bareT, T.ins]; constructor <;> intro h; cases h; omega
  | tri i a b c => simp only [okT] at hok; simp only [bareT, T.ins]; constructor <;> intro h; cases h; omega
/-- What 'Show' makes of a sign ahead. -/
theorem un_neg {vars : List (List UInt8)} (n : Int) (a : T) (hok : okT vars a) : plainF vars (.un ⟨4, n⟩ a) = 45 :: heldF (plainF vars a) (if bareT a = true then 0 else 48 + a.rank) 54 := by
  have e : plainF vars (.un ⟨4, n⟩ a) = if a.ins.op = 1 ∧ a.ins.n ≥ 0 then [45, 40] ++ plainF vars a ++ [41] else 45 :: heldF (plainF vars a) a.rank 6 := rfl
  rw [e]
  by_cases h : bareT a = true
  · rw [if_pos h, if_pos ((bare_ins hok).1 h)]
    rfl
  · rw [if_neg h, if_neg (fun h' => h ((bare_ins hok).2 h')), ← held_shift]
    rfl
theorem un_not {vars : List (List UInt8)} (n : Int) (a : T) : plainF vars (.un ⟨5, n⟩ a) = 33 :: heldF (plainF vars a) (48 + a.rank) 54 := by
  have e : plainF vars (.un ⟨5, n⟩ a) = 33 :: heldF (plainF vars a) a.rank 6 := rfl
  rw [e, ← held_shift]
  rfl
theorem lvl_rank : ∀ op : Nat, 6 ≤ op → op ≤ 15 → op ≠ 9 → op ≠ 10 → lvlOf op = 48 + rankF op 0 := by
  intro op h6 h15 h9 h10
  have hop : op = 6 ∨ op = 7 ∨ op = 8 ∨ op = 11 ∨ op = 12 ∨ op = 13 ∨ op = 14 ∨ op = 15 := by omega
  rcases hop with rfl | rfl | rfl | rfl | rfl | rfl | rfl | rfl <;> rfl
theorem rank_bin (op n : Int) (h : 6 ≤ op) : rankF op n = rankF op 0 := by
  unfold rankF
  (repeat' split) <;> omega
theorem bin_piece {vars : List (List UInt8)} (op : Nat) (n : Int) (a b : T) (h6 : 6 ≤ op) (h15 : op ≤ 15) (h9 : op ≠ 9) (h10 : op ≠ 10) :
    pc (heldF (plainF vars a) (48 + a.rank) (lvl' (lvlOf op)) ++ [32] ++ sgnOf op ++ [32] ++ heldF (plainF vars b) (48 + b.rank) (lvlOf op + 1)) (lvlOf op) false = pieceOf vars (.bin ⟨op, n⟩ a b) := by
  have e : plainF vars (.bin ⟨op, n⟩ a b) = heldF (plainF vars a) a.rank (leftF (rankF op n)) ++ [32] ++ sgnOf op ++ [32] ++ heldF (plainF vars b) b.rank (rankF op n + 1) := by
    simp only [plainF]
    rw [if_neg (by omega), if_neg (by omega)]
    rfl
  have er : (T.bin ⟨op, n⟩ a b).rank = rankF op 0 := by
    simp only [T.rank, T.ins]
    exact rank_bin _ _ (by omega)
  have el : lvl' (48 + rankF op 0) = 48 + leftF (rankF op 0) := by
    unfold lvl' leftF
    by_cases h : rankF op 0 = 3
    · rw [if_pos h, if_pos (by omega)]; rfl
    · rw [if_neg h, if_neg (by omega)]
  have e1 : 48 + rankF op 0 + 1 = 48 + (rankF op 0 + 1) := by omega
  rw [pieceOf, e, er, lvl_rank op h6 h15 h9 h10, el, held_shift, e1, held_shift, rank_bin (op : Int) n (by omega)]
  rfl
end Go.Proofs.YtojpocfnjigmfaaDoor
