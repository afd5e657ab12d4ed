/-
  SLICES THAT GROW: what 'append' answers over lists that are not spelt out.
-/
import Derived.Test.YtojpocfnjigmfaaDoorAX18
namespace Go.AX
open Go
theorem ble_t {a b : Nat} (h : a ≤ b) : Nat.ble a b = true := Nat.ble_eq_true_of_le h
theorem roomy_t {n b : Nat} (hn : n ≤ 1000000000) (hb : b ≤ 1000) : roomy n b = true := by
  have h1 : n * b ≤ 1000000000 * 1000 := Nat.mul_le_mul hn hb
  simp only [roomy, ble_t (show n * b ≤ 70368744177664 by omega), ble_t (show n ≤ 70368744177664 by omega), Bool.and_true]
theorem allP_lift : ∀ (l : List Pv), allP (l.map V.p) = some l
  | [] => rfl
  | x :: l => by simp only [List.map_cons, allP, asP, allP_lift l]
theorem cut_all {α : Type} {l : List α} {n : Nat} (h : n = l.length) : cut l 0 n = some l := by
  subst h
  simp only [cut, Nat.zero_add, ble_t (Nat.le_refl l.length), List.drop_zero, List.take_length]
theorem cut_pre {α : Type} {l m : List α} {n : Nat} (h : n = l.length) : cut (l ++ m) 0 n = some l := by
  subst h
  simp only [cut, Nat.zero_add, ble_t (show l.length ≤ (l ++ m).length by simp), List.drop_zero, List.take_left]
theorem cut_mid {α : Type} {l m : List α} {o n : Nat} (h : o = l.length) (hn : n = m.length) : cut (l ++ m) o n = some m := by
  subst h hn
  simp only [cut, ble_t (show l.length + m.length ≤ (l ++ m).length by simp), List.drop_left, List.take_length]
def Sz (sz : Nat) (l : List Pv) : Prop := ∀ p ∈ l, p.cells.length = sz
theorem vcells (p : Pv) : (V.p p).cells.length = p.cells.length := by
  simp [V.cells]
theorem Sz.all {sz : Nat} {l : List Pv} (h : Sz sz l) : ((l.map V.p).all fun e => Nat.beq e.cells.length sz) = true := by
  rw [List.all_eq_true]
  intro v hv
  obtain ⟨p, hp, rfl⟩ := List.mem_map.1 hv
  rw [vcells, h p hp, Nat.beq_refl]
variable {e eb size sz : Nat} {ag u agg ex : Bool} {zero : List Pv} {zv : Option Pv} {eq : Option (List Nat)} {H : Hp}
theorem append_sl {l m : List Pv} (hm : m ≠ []) (h0 : 0 < sz) (hs : Sz sz m) (hn : l.length + m.length ≤ 1000000000) (hb : eb ≤ 1000) :
    appendV ⟨.slice e sz eb ag u, size, agg, zero, zv, eq⟩ H (.p (.sl sz true l)) (.p (.sl sz ex m)) = some (.arr H.length 0 sz 0 (l.length + m.length), H ++ [.arr 0 0 sz ((l ++ m).map .p)]) := by
  cases m with
  | nil => exact absurd rfl hm
  | cons a m =>
    have h1 := hs.all
    have h2 : Nat.blt 0 sz = true := by simpa using h0
    have hn' : l.length + (List.map V.p (a :: m)).length ≤ 1000000000 := by rw [List.length_map]; exact hn
    simp only [List.map_cons] at h1 hn'
    simp only [appendV, elems, List.map_cons, h1, h2, Bool.and_true, roomy_t hn' hb, Nat.beq_refl, List.map_append]
    simp
theorem append_nil {m : List Pv} (hm : m ≠ []) (h0 : 0 < sz) (hs : Sz sz m) (hn : m.length ≤ 1000000000) (hb : eb ≤ 1000) :
    appendV ⟨.slice e sz eb ag u, size, agg, zero, zv, eq⟩ H (.p .nils) (.p (.sl sz ex m)) = some (.arr H.length 0 sz 0 m.length, H ++ [.arr 0 0 sz (m.map .p)]) := by
  cases m with
  | nil => exact absurd rfl hm
  | cons a m =>
    have h1 := hs.all
    have h2 : Nat.blt 0 sz = true := by simpa using h0
    have hn' : (List.map V.p (a :: m)).length ≤ 1000000000 := by rw [List.length_map]; exact hn
    simp only [List.map_cons] at h1 hn'
    simp only [appendV, elems, List.map_cons, h1, h2, Bool.and_true, roomy_t hn' hb]
    simp
theorem append_arr {id ver off len fz : Nat} {es old : List V} {m : List Pv} (hm : m ≠ []) (h0 : 0 < sz) (hs : Sz sz m) (hH : H[id]? = some (.arr ver fz sz es)) (hc : cut es off len = some old) (hf : fz ≤ off + len) (hn : len + m.length ≤ 1000000000) (hb : eb ≤ 1000) :
    appendV ⟨.slice e sz eb ag u, size, agg, zero, zv, eq⟩ H (.arr id ver sz off len) (.p (.sl sz ex m)) = some (.arr id (ver + 1) sz 0 (len + m.length), H.set id (.arr (ver + 1) (fz - off) sz (old ++ m.map .p))) := by
  cases m with
  | nil => exact absurd rfl hm
  | cons a m =>
    have h1 := hs.all
    have h2 : Nat.blt 0 sz = true := by simpa using h0
    have hn' : len + (List.map V.p (a :: m)).length ≤ 1000000000 := by rw [List.length_map]; exact hn
    simp only [List.map_cons] at h1 hn'
    simp only [appendV, elems, List.map_cons, h1, h2, Bool.and_true, arrAt, hH, Nat.beq_refl, hc, ble_t hf, roomy_t hn' hb]
    simp
theorem frz_arr {id ver off len fz : Nat} {es : List V} {l : List Pv} (hH : H[id]? = some (.arr ver fz sz es)) (hc : cut es off len = some (l.map .p)) : frzCells H (.arr id ver sz off len) = .p (.sl sz false l) := by
  simp only [frzCells, frzAt, frz, elems, arrAt, hH, Nat.beq_refl, hc, allP_lift]
theorem mark_arr {id ver off len fz : Nat} {es : List V} (hH : H[id]? = some (.arr ver fz sz es)) : markCells H (.arr id ver sz off len) = H.set id (.arr ver (max fz (off + len)) sz es) := by
  simp only [markCells, markAt, mark, hH, Nat.beq_refl]
end Go.AX
namespace Go.AX
theorem low_map (n : Nat) (l : List Pv) : ((l.map V.p).all (lowV n)) = true := by
  rw [List.all_eq_true]
  intro v hv
  obtain ⟨p, _, rfl⟩ := List.mem_map.1 hv
  rfl
end Go.AX
namespace Go.AX
theorem LS : (∀ {α : Type} (a : α) (l : List α) (n : Nat), List.take (n + 1) (a :: l) = a :: List.take n l) ∧ (∀ {α : Type} (l : List α), List.take 0 l = []) ∧
    (∀ {α : Type} (a : α) (l : List α) (n : Nat), List.drop (n + 1) (a :: l) = List.drop n l) ∧ (∀ {α : Type} (l : List α), List.drop 0 l = l) ∧
    (∀ {α : Type} (a : α) (l m : List α), a :: l ++ m = a :: (l ++ m)) ∧ (∀ {α : Type} (l : List α), [] ++ l = l) ∧
    (∀ {α : Type} (a : α) (l : List α), (a :: l).length = l.length + 1) ∧ (∀ {α : Type}, ([] : List α).length = 0) ∧
    (∀ {α : Type} (a b : α) (l : List α), (a :: l).set 0 b = b :: l) ∧ (∀ {α : Type} (a b : α) (l : List α) (n : Nat), (a :: l).set (n + 1) b = a :: l.set n b) ∧
    (∀ {α β : Type} (f : α → β) (a : α) (l : List α), List.map f (a :: l) = f a :: List.map f l) ∧ (∀ {α β : Type} (f : α → β), List.map f [] = []) ∧
    (∀ {α : Type} (a : α) (l : List α), (a :: l)[0]? = some a) ∧ (∀ {α : Type} (a : α) (l : List α) (n : Nat), (a :: l)[n + 1]? = l[n]?) ∧
    (∀ {α β : Type} (f : α → β) (a : α), Option.map f (some a) = some (f a)) ∧ (∀ {α β : Type} (f : α → Option β) (a : α), Option.bind (some a) f = f a) ∧
    (∀ n : Nat, 0 + n = n) ∧ (∀ n : Nat, n + 0 = n) ∧ (∀ n : Nat, Nat.beq n n = true) ∧ (∀ b : Bool, (b && true) = b) ∧ (∀ b : Bool, (true && b) = b) ∧ (∀ b : Bool, (b && false) = false) ∧ (∀ b : Bool, (false && b) = false) ∧ (∀ n : Nat, (n : Int).toNat = n) := by
  refine ⟨fun _ _ _ => rfl, fun _ => rfl, fun _ _ _ => rfl, fun _ => rfl, fun _ _ _ => rfl, fun _ => rfl, fun _ _ => rfl, rfl, fun _ _ _ => rfl, fun _ _ _ _ => rfl, fun _ _ _ => rfl, fun _ => rfl, fun _ _ => rfl, fun _ _ _ => by simp, fun _ _ => rfl, fun _ _ => rfl, Nat.zero_add, fun _ => rfl, fun n => Nat.beq_refl n, Bool.and_true, Bool.true_and, Bool.and_false, Bool.false_and, fun _ => rfl⟩
end Go.AX
namespace Go.AX
open Go
variable {cx : Cx} {hs : List (Nat × Nat)} {ops rest : List Oper} {i d : Nat} {e : Env} {H : Hp} {K : Kt} {x y z : Operand} {v : V}
theorem F.pickT' {b : Bool} (hk : hintOf hs i = 0) (hz : evE cx e z = some (.p (.bool b))) (hb : b = true) (hx : evE cx e x = some v) (h : M cx hs ops (i + 1) rest ((d, v) :: e) H K) : Mg cx hs ops i (some d) (.pick z x y) rest e H K :=
  F.pickT hk (hb ▸ hz) hx h
theorem F.pickF' {b : Bool} (hk : hintOf hs i = 0) (hz : evE cx e z = some (.p (.bool b))) (hb : b = false) (hx : evE cx e y = some v) (h : M cx hs ops (i + 1) rest ((d, v) :: e) H K) : Mg cx hs ops i (some d) (.pick z x y) rest e H K :=
  F.pickF hk (hb ▸ hz) hx h
end Go.AX
namespace Go.AX
open Go
theorem R.unroll {cx : Cx} {fi : FnI} {base : Nat} {a : Code} {e : Env} {H : Hp} {Q : Qt} (h : R cx fi base a e H (seqQ (fun e H => R cx fi base (.loop a) e H Q) Q)) : R cx fi base (.loop a) e H Q := by
  obtain ⟨n, x, s, h1, h2⟩ := h.out
  refine ⟨?_⟩
  cases x with
  | norm =>
    obtain ⟨m, y, s', h3, h4⟩ := R.out h2
    refine ⟨max n m + 1, y, s', ?_, h4⟩
    simp only [exec, step, exec_mono (Nat.le_max_left n m) _ _ _ _ _ h1]
    exact exec_mono (Nat.le_max_right n m) _ _ _ _ _ h3
  | exit id => exact ⟨n + 1, _, s, by simp only [exec, step, h1], h2⟩
  | ret => exact ⟨n + 1, _, s, by simp only [exec, step, h1], h2⟩
end Go.AX
namespace Go.AX
theorem PC : (∀ s, Pv.cells (.str s) = [.str s]) ∧ (∀ k n, Pv.cells (.int k n) = [.int k n]) ∧ (∀ b, Pv.cells (.bool b) = [.bool b]) ∧ (∀ cs, Pv.cells (.agg cs) = cs) ∧ (∀ z x l, Pv.cells (.sl z x l) = [.sl z x l]) ∧ (Pv.cells .nils = [.nils]) ∧ (Pv.cells .nilp = [.nilp]) ∧ (Pv.cells .nilf = [.nilf]) ∧ (Pv.cells .nilm = [.nilm]) ∧ (Pv.cells .niface = [.niface]) ∧ (∀ f a b, Pv.cells (.fn f a b) = [.fn f a b]) :=
  ⟨fun _ => rfl, fun _ _ => rfl, fun _ => rfl, fun _ => rfl, fun _ _ _ => rfl, rfl, rfl, rfl, rfl, rfl, fun _ _ _ => rfl⟩
end Go.AX
