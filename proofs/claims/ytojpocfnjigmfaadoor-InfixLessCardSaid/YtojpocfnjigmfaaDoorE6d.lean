import Derived.Test.YtojpocfnjigmfaaDoorE4d
set_option maxRecDepth 10000
set_option linter.unusedSimpArgs false
set_option linter.unusedVariables false
namespace Go.Proofs.YtojpocfnjigmfaaDoor
open Go Go.AX
/-! ### The stack -/
/-- An instruction on a stack (its top first). -/
def pushT (i : Ins) (st : List T) : List T :=
  if takesF i.op = 0 then .leaf i :: st
  else if takesF i.op = 1 then (match st with | a :: r => .un i a :: r | _ => st)
  else if takesF i.op = 2 then (match st with | b :: a :: r => .bin i a b :: r | _ => st)
  else (match st with | c :: b :: a :: r => .tri i a b c :: r | _ => st)
def bld : List Ins → List T → List T
  | [], st => st
  | i :: l, st => bld l (pushT i st)
def stL (st : List T) : List Pv := st.reverse.map T.pv
theorem push_split (i : Ins) (st : List T) (h0 : 0 ≤ takesF i.op) (h : takesF i.op ≤ st.length) : ∃ base kids : List Pv, (kids.length : Int) = takesF i.op ∧ stL st = base ++ kids ∧ stL (pushT i st) = base ++ [node i kids] ∧ base.length + kids.length = st.length := by
  have := takesF_le i.op
  have hk : takesF i.op = 0 ∨ takesF i.op = 1 ∨ takesF i.op = 2 ∨ takesF i.op = 3 := by omega
  rcases hk with hk | hk | hk | hk
  · exact ⟨stL st, [], by simp [hk], by simp, by simp [pushT, hk, stL, T.pv], by simp [stL]⟩
  · match st, h with
    | [], h => rw [hk] at h; simp at h
    | a :: r, h => exact ⟨stL r, [a.pv], by simp [hk], by simp [stL], by simp [pushT, hk, stL, T.pv], by simp [stL]⟩
  · match st, h with
    | [], h => rw [hk] at h; simp at h
    | [a], h => rw [hk] at h; simp at h
    | b :: a :: r, h => exact ⟨stL r, [a.pv, b.pv], by simp [hk], by simp [stL], by simp [pushT, hk, stL, T.pv], by simp [stL]⟩
  · match st, h with
    | [], h => rw [hk] at h; simp at h
    | [a], h => rw [hk] at h; simp at h
    | [b, a], h => rw [hk] at h; simp at h
    | c :: b :: a :: r, h => exact ⟨stL r, [a.pv, b.pv, c.pv], by simp [hk], by simp [stL], by simp [pushT, hk, stL, T.pv], by simp [stL]⟩
theorem chk_step {vars args row : Int} {k : Nat} {i : Ins} {l : List Ins} (h : chk vars args row k (i :: l) = (0, 0)) : 0 ≤ takesF i.op ∧ namedF vars args i = true ∧ takesF i.op ≤ row ∧ chk vars args (row + (1 - takesF i.op)) (k + 1) l = (0, 0) := by
  rw [chk] at h
  split at h
  · cases h
  · split at h
    · cases h
    · split at h
      · cases h
      · rename_i h1 h2 h3
        exact ⟨by omega, by cases hn : namedF vars args i <;> simp_all, by omega, h⟩
theorem push_len (i : Ins) (st : List T) (h0 : 0 ≤ takesF i.op) (h : takesF i.op ≤ st.length) : ((pushT i st).length : Int) = st.length + (1 - takesF i.op) := by
  obtain ⟨base, kids, h1, h2, h3, h4⟩ := push_split i st h0 h
  have := congrArg List.length h3
  simp [stL] at this
  omega
def wts (st : List T) : Nat := (st.map wt).sum
theorem push_ok (vars : List (List UInt8)) (args : Int) (ha : args < 9223372036854775808) (i : Ins) (st : List T) (h0 : 0 ≤ takesF i.op) (h : takesF i.op ≤ st.length) (hn : namedF vars.length args i = true) (hok : ∀ t ∈ st, okT vars t) : (∀ t ∈ pushT i st, okT vars t) ∧ wts (pushT i st) ≤ wts st + 140737488355328 := by
  have := takesF_le i.op
  have hk : takesF i.op = 0 ∨ takesF i.op = 1 ∨ takesF i.op = 2 ∨ takesF i.op = 3 := by omega
  have hop : takesF i.op = if 1 ≤ i.op ∧ i.op ≤ 3 then 0 else if i.op = 4 ∨ i.op = 5 then 1 else if 6 ≤ i.op ∧ i.op ≤ 15 then 2 else if i.op = 16 then 3 else -1 := rfl
  rcases hk with hk | hk | hk | hk
  · have h3 : 1 ≤ i.op ∧ i.op ≤ 3 := by
      rw [hk] at hop
      (repeat' split at hop) <;> omega
    have e : pushT i st = .leaf i :: st := by simp [pushT, hk]
    rw [e]
    refine ⟨fun t ht => ?_, by simp [wts, wt]; omega⟩
    rcases List.mem_cons.1 ht with rfl | ht
    · simp only [okT]
      simp only [namedF] at hn
      (repeat' split at hn)
      · simp [valueF] at hn; left; omega
      · simp at hn; right; left; omega
      · simp at hn; right; right; omega
      · omega
    · exact hok t ht
  · have h3 : i.op = 4 ∨ i.op = 5 := by
      rw [hk] at hop
      (repeat' split at hop) <;> omega
    match st, h, hok with
    | [], h, _ => rw [hk] at h; simp at h
    | a :: r, h, hok =>
      have e : pushT i (a :: r) = .un i a :: r := by simp [pushT, hk]
      rw [e]
      refine ⟨fun t ht => ?_, by simp [wts, wt]; omega⟩
      rcases List.mem_cons.1 ht with rfl | ht
      · exact ⟨h3, hok a (by simp)⟩
      · exact hok t (by simp [ht])
  · have h3 : 6 ≤ i.op ∧ i.op ≤ 15 := by
      rw [hk] at hop
      (repeat' split at hop) <;> omega
    match st, h, hok with
    | [], h, _ => rw [hk] at h; simp at h
    | [a], h, _ => rw [hk] at h; simp at h
    | b :: a :: r, h, hok =>
      have e : pushT i (b :: a :: r) = .bin i a b :: r := by simp [pushT, hk]
      rw [e]
      refine ⟨fun t ht => ?_, by simp [wts, wt]; omega⟩
      rcases List.mem_cons.1 ht with rfl | ht
      · exact ⟨h3.1, h3.2, hok a (by simp), hok b (by simp)⟩
      · exact hok t (by simp [ht])
  · have h3 : i.op = 16 := by
      rw [hk] at hop
      (repeat' split at hop) <;> omega
    match st, h, hok with
    | [], h, _ => rw [hk] at h; simp at h
    | [a], h, _ => rw [hk] at h; simp at h
    | [b, a], h, _ => rw [hk] at h; simp at h
    | c :: b :: a :: r, h, hok =>
      have e : pushT i (c :: b :: a :: r) = .tri i a b c :: r := by simp [pushT, hk]
      rw [e]
      refine ⟨fun t ht => ?_, by simp [wts, wt]; omega⟩
      rcases List.mem_cons.1 ht with rfl | ht
      · exact ⟨h3, hok a (by simp), hok b (by simp), hok c (by simp)⟩
      · exact hok t (by simp [ht])
end Go.Proofs.YtojpocfnjigmfaaDoor
