import Derived.Test.YtojpocfnjigmfaaDoorE6d
set_option maxRecDepth 10000
set_option linter.unusedSimpArgs false
set_option linter.unusedVariables false
namespace Go.Proofs.YtojpocfnjigmfaaDoor
open Go Go.AX
/-- The words that are put behind. -/
def wordsL : List (List UInt8) := [[32, 41], [32, 44], [32, 40], [32, 49], [32, 36, 49], [32, 33], [32, 97], [32, 109, 105, 110]]
/-- A tree's code, in the order in which it is pushed. -/
def codeT : T → List Ins
  | .leaf i => [i]
  | .un i a => codeT a ++ [i]
  | .bin i a b => codeT a ++ codeT b ++ [i]
  | .tri i a b c => codeT a ++ codeT b ++ codeT c ++ [i]
def codeS (st : List T) : List Ins := (st.reverse.map codeT).flatten
theorem push_code (i : Ins) (st : List T) (h0 : 0 ≤ takesF i.op) (h : takesF i.op ≤ st.length) : codeS (pushT i st) = codeS st ++ [i] := by
  have := takesF_le i.op
  have hk : takesF i.op = 0 ∨ takesF i.op = 1 ∨ takesF i.op = 2 ∨ takesF i.op = 3 := by omega
  rcases hk with hk | hk | hk | hk
  · simp [pushT, hk, codeS, codeT]
  · match st, h with
    | [], h => simp at h; omega
    | a :: r, _ => simp [pushT, hk, codeS, codeT]
  · match st, h with
    | [], h => simp at h; omega
    | [_], h => simp at h; omega
    | b :: a :: r, _ => simp [pushT, hk, codeS, codeT]
  · match st, h with
    | [], h => simp at h; omega
    | [_], h => simp at h; omega
    | [_, _], h => simp at h; omega
    | c :: b :: a :: r, _ => simp [pushT, hk, codeS, codeT]
theorem bld_code {vars args : Int} : ∀ (l : List Ins) (k : Nat) (st : List T), chk vars args st.length k l = (0, 0) → codeS (bld l st) = codeS st ++ l
  | [], k, st, _ => by simp [bld]
  | i :: l, k, st, h => by
    obtain ⟨c1, c2, c3, c4⟩ := chk_step h
    rw [← push_len i st c1 c3] at c4
    rw [bld, bld_code l (k + 1) (pushT i st) c4, push_code i st c1 c3]; simp
end Go.Proofs.YtojpocfnjigmfaaDoor
