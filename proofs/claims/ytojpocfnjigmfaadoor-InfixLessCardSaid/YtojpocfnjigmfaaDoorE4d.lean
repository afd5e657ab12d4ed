import Derived.Test.YtojpocfnjigmfaaDoorE3
set_option maxRecDepth 10000
set_option linter.unusedSimpArgs false
set_option linter.unusedVariables false
namespace Go.Proofs.YtojpocfnjigmfaaDoor
open Go Go.AX
/-- An expression as a tree. -/
inductive T where
  | leaf (i : Ins)
  | un (i : Ins) (a : T)
  | bin (i : Ins) (a b : T)
  | tri (i : Ins) (a b c : T)
def T.ins : T → Ins
  | .leaf i | .un i _ | .bin i _ _ | .tri i _ _ _ => i
def node (i : Ins) (kids : List Pv) : Pv := .agg [.int .i64 i.op, .int .i64 i.n, .sl 3 kids.isEmpty kids]
def T.pv : T → Pv
  | .leaf i => node i []
  | .un i a => node i [a.pv]
  | .bin i a b => node i [a.pv, b.pv]
  | .tri i a b c => node i [a.pv, b.pv, c.pv]
def rankF (op n : Int) : Int := if op = 15 then 1 else if op = 14 then 2 else if op = 11 ∨ op = 12 ∨ op = 13 then 3 else if op = 6 ∨ op = 7 then 4 else if op = 8 then 5 else if op = 4 ∨ op = 5 then 6 else if op = 1 ∧ n < 0 then 6 else 7
def T.rank (t : T) : Int := rankF t.ins.op t.ins.n
def leftF (k : Int) : Int := if k = 3 then 4 else k
def plainF (vars : List (List UInt8)) : T → List UInt8
  | .leaf i => if i.op = 1 then (if i.n < 0 then 45 :: dec (-i.n).toNat else dec i.n.toNat) else if i.op = 2 then vars.getD i.n.toNat [] else 36 :: dec i.n.toNat
  | .un i a => if i.op = 4 then (if a.ins.op = 1 ∧ a.ins.n ≥ 0 then [45, 40] ++ plainF vars a ++ [41] else 45 :: heldF (plainF vars a) a.rank 6) else 33 :: heldF (plainF vars a) a.rank 6
  | .bin i a b => if i.op = 9 then [109, 105, 110, 40] ++ plainF vars a ++ [44, 32] ++ plainF vars b ++ [41] else if i.op = 10 then [109, 97, 120, 40] ++ plainF vars a ++ [44, 32] ++ plainF vars b ++ [41]
    else heldF (plainF vars a) a.rank (leftF (rankF i.op i.n)) ++ [32] ++ sgnOf i.op.toNat ++ [32] ++ heldF (plainF vars b) b.rank (rankF i.op i.n + 1)
  | .tri _ a b c => [105, 102, 40] ++ plainF vars a ++ [44, 32] ++ plainF vars b ++ [44, 32] ++ plainF vars c ++ [41]
def okT (vars : List (List UInt8)) : T → Prop
  | .leaf i => (i.op = 1 ∧ -1099511627776 ≤ i.n ∧ i.n ≤ 1099511627776) ∨ (i.op = 2 ∧ 0 ≤ i.n ∧ i.n < vars.length) ∨ (i.op = 3 ∧ 0 ≤ i.n ∧ i.n < 9223372036854775808)
  | .un i a => (i.op = 4 ∨ i.op = 5) ∧ okT vars a
  | .bin i a b => 6 ≤ i.op ∧ i.op ≤ 15 ∧ okT vars a ∧ okT vars b
  | .tri i a b c => i.op = 16 ∧ okT vars a ∧ okT vars b ∧ okT vars c
def wt : T → Nat
  | .leaf _ => 140737488355328
  | .un _ a => wt a + 20
  | .bin _ a b => wt a + wt b + 20
  | .tri _ a b c => wt a + wt b + wt c + 20
theorem held_len (s : List UInt8) (k q : Int) : (heldF s k q).length ≤ s.length + 2 := by
  unfold heldF
  split
  · simp only [List.length_cons, List.length_append, List.length_nil]; omega
  · omega
theorem sgn_len : ∀ (op : Nat), op ≤ 15 → (sgnOf op).length ≤ 2 := by decide
theorem dec_14 {n : Nat} (h : n ≤ 1099511627776) : (dec n).length ≤ 14 := dec_short 13 n (by omega)
theorem plain_len {vars : List (List UInt8)} (hv : ∀ v ∈ vars, v.length ≤ 140737488355328) : ∀ (t : T), okT vars t → (plainF vars t).length ≤ wt t
  | .leaf i, h => by
    simp only [okT] at h
    simp only [plainF, wt]
    split
    · split
      · have := dec_14 (n := (-i.n).toNat) (by omega); simp only [List.length_cons]; omega
      · have := dec_14 (n := (i.n).toNat) (by omega); omega
    · split
      · rename_i h2
        have : i.n.toNat < vars.length := by omega
        rw [List.getD_eq_getElem?_getD, List.getElem?_eq_getElem this, Option.getD_some]
        exact hv _ (List.getElem_mem this)
      · have := dec_20 (n := (i.n).toNat) (by omega); simp only [List.length_cons]; omega
  | .un i a, h => by
    have := plain_len hv a h.2
    have := held_len (plainF vars a) a.rank 6
    simp only [plainF, wt]
    (repeat' split) <;> simp only [List.length_cons, List.length_append, List.length_nil] <;> omega
  | .bin i a b, h => by
    have := plain_len hv a h.2.2.1
    have := plain_len hv b h.2.2.2
    have := held_len (plainF vars a) a.rank (leftF (rankF i.op i.n))
    have := held_len (plainF vars b) b.rank (rankF i.op i.n + 1)
    have := sgn_len i.op.toNat (by have := h.2.1; omega)
    simp only [plainF, wt]
    (repeat' split) <;> simp only [List.length_cons, List.length_append, List.length_nil] <;> omega
  | .tri i a b c, h => by
    have := plain_len hv a h.2.1
    have := plain_len hv b h.2.2.1
    have := plain_len hv c h.2.2.2
    simp only [plainF, wt, List.length_cons, List.length_append, List.length_nil]; omega
theorem node_pv (t : T) : ∃ (l : List Pv), t.pv = .agg [.int .i64 t.ins.op, .int .i64 t.ins.n, .sl 3 l.isEmpty l] := by cases t <;> exact ⟨_, rfl⟩
end Go.Proofs.YtojpocfnjigmfaaDoor
