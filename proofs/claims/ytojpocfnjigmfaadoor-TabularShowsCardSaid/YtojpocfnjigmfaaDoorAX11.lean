/-
  WHAT A ROW's ARGUMENTS ARE, AS PLAIN VALUES: a reading of an argument as data gives a plain value of the type's shape.
-/
import Derived.Test.YtojpocfnjigmfaaDoorAX10
import Derived.ChangeArms
import Derived.ChangeOld
import Derived.OpenShut
namespace Go.AX
open Go

inductive Sh where
  | bool | int (k : IntKind) | str
  | slice (sz : Nat) (e : Sh)
  | struct (fs : List Sh)
def Sh.isS : Sh → Bool
  | .struct _ => true
  | _ => false
def allO {α : Type} : List (Option α) → Option (List α)
  | [] => some []
  | x :: l => match x, allO l with
    | some a, some r => some (a :: r)
    | _, _ => none
def tiles (P : Program) : Nat → List Field → Nat → Bool
  | o, [], n => Nat.beq o n
  | o, f :: l, n => Nat.beq f.offset o && tiles P (o + P.cellsOf f.type) l n
def shOf (P : Program) : Nat → TypeId → Option Sh
  | 0, _ => none
  | n + 1, t => match P.underlying t with
    | some .bool => some .bool
    | some (.int k) => some (.int k)
    | some .string => some .str
    | some (.slice e) => match shOf P n e with
      | some s => if 0 < P.cellsOf e then some (.slice (P.cellsOf e) s) else none
      | none => none
    | some (.struct fs) => if tiles P 0 fs.toList (P.cellsOf t) = true then (allO (fs.toList.map fun f => shOf P n f.type)).map .struct else none
    | some (.array k e) => match shOf P n e with
      | some s => if k * P.cellsOf e = P.cellsOf t then some (.struct (List.replicate k s)) else none
      | none => none
    | _ => none

inductive Fit {D : Type} : Sh → DataW D → List Pv → Prop
  | bool (b : Bool) : Fit .bool (.lit (.bool b)) [.bool b]
  | int (k : IntKind) (n : Int) (h : (Lit.int k n).wf = true) : Fit (.int k) (.lit (.int k n)) [.int k n]
  | str (s : List UInt8) (h : s.length ≤ maxLen) : Fit .str (.lit (.string s)) [.str s]
  | nils (sz : Nat) (e : Sh) : Fit (.slice sz e) .nil [.nils]
  | sl (sz : Nat) (e : Sh) (ds rest : List (DataW D)) (l : List Pv) (hl : ds.length = l.length) (hm : l.length ≤ maxLen)
      (h : ∀ (i : Nat) d x, ds[i]? = some d → l[i]? = some x → Fit e d x.cells) (hs : ∀ x ∈ l, x.cells.length = sz ∧ (e.isS = true → ∃ cs, x = .agg cs) ∧ (e.isS = false → x.cells = [x])) :
      Fit (.slice sz e) (.slice ds rest) [.sl sz false l]
  | struct (fs : List Sh) (ds : List (DataW D)) (parts : List (List Pv)) (h1 : ds.length = fs.length) (h2 : parts.length = fs.length)
      (h : ∀ (i : Nat) f d p, fs[i]? = some f → ds[i]? = some d → parts[i]? = some p → Fit f d p) : Fit (.struct fs) (.agg ds) parts.flatten

def C0 (w : World) : Nat → Nat → Option Value := fun b o => match w.cell? ⟨b, o, none⟩ with
  | some v => if v.oneCell' = true then some v else none
  | none => none

def PRl (C : Nat → Nat → Option Value) (xs : List Pv) (cs : List Value) : Prop := xs.length = cs.length ∧ ∀ (j : Nat) x v, xs[j]? = some x → cs[j]? = some v → PR C x v ∧ v.oneCell' = true

theorem PRl.one {C : Nat → Nat → Option Value} {x : Pv} {v : Value} (h : PR C x v) (h1 : v.oneCell' = true) : PRl C [x] [v] := by
  refine ⟨rfl, fun j y u hy hu => ?_⟩
  cases j with
  | zero => simp at hy hu; subst hy; subst hu; exact ⟨h, h1⟩
  | succ j => simp at hy

theorem pick {α : Type} {p : Nat → α → Prop} : ∀ (n : Nat), (∀ i, i < n → ∃ x, p i x) → ∃ l : List α, l.length = n ∧ ∀ (i : Nat) x, l[i]? = some x → p i x
  | 0, _ => ⟨[], rfl, fun i x h => by simp at h⟩
  | n + 1, h => by
    obtain ⟨l, h1, h2⟩ := pick n (fun i hi => h i (by omega))
    obtain ⟨y, hy⟩ := h n (by omega)
    refine ⟨l ++ [y], by simp [h1], fun i x hx => ?_⟩
    by_cases hi : i < l.length
    · rw [List.getElem?_append_left hi] at hx; exact h2 i x hx
    · rw [List.getElem?_append_right (by omega)] at hx
      have : i - l.length = 0 := by
        have := (List.getElem?_eq_some_iff.1 hx).1
        simp at this; omega
      rw [this] at hx
      simp at hx
      subst hx
      have e : i = n := by omega
      rw [e]; exact hy

theorem allO_get {α : Type} : ∀ {l : List (Option α)} {r : List α}, allO l = some r → r.length = l.length ∧ ∀ (i : Nat) x, r[i]? = some x → l[i]? = some (some x)
  | [], r, h => by simp [allO] at h; subst h; exact ⟨rfl, fun i x h => by simp at h⟩
  | a :: l, r, h => by
    simp only [allO] at h
    split at h
    · rename_i a' r' h1
      cases h
      obtain ⟨g1, g2⟩ := allO_get h1
      refine ⟨by simp [g1], fun i x hx => ?_⟩
      cases i with
      | zero => simpa using hx
      | succ i => simp at hx; simpa using g2 i x hx
    · cases h

theorem shOf_isS {P : Program} {n : Nat} {t : TypeId} {sh : Sh} (h : shOf P n t = some sh) : sh.isS = aggOf P t := by
  cases n with
  | zero => cases h
  | succ n =>
    unfold shOf at h
    unfold aggOf
    split at h
    · rename_i e; rw [e]; cases h; rfl
    · rename_i e; rw [e]; cases h; rfl
    · rename_i e; rw [e]; cases h; rfl
    · rename_i e; rw [e]
      split at h
      · split at h
        · cases h; rfl
        · cases h
      · cases h
    · rename_i e; rw [e]
      split at h
      · simp only [Option.map_eq_some_iff] at h; obtain ⟨x, -, rfl⟩ := h; rfl
      · cases h
    · rename_i e; rw [e]
      split at h
      · split at h
        · cases h; rfl
        · cases h
      · cases h
    · cases h

theorem Fit.single {D : Type} {sh : Sh} {d : DataW D} {xs : List Pv} (h : Fit sh d xs) (hs : sh.isS = false) : ∃ y, xs = [y] ∧ y.cells = [y] := by
  cases h with
  | bool b => exact ⟨_, rfl, rfl⟩
  | int k n h => exact ⟨_, rfl, rfl⟩
  | str s h => exact ⟨_, rfl, rfl⟩
  | nils sz e => exact ⟨_, rfl, rfl⟩
  | sl => exact ⟨_, rfl, rfl⟩
  | struct => cases hs

theorem PRl.flatten {C : Nat → Nat → Option Value} : ∀ (parts : List (List Pv)) (cs : List Value) (szs : List Nat), parts.length = szs.length → cs.length = szs.foldr (· + ·) 0 →
    (∀ (i : Nat) p, parts[i]? = some p → PRl C p ((cs.drop ((szs.take i).foldr (· + ·) 0)).take (szs.getD i 0))) → PRl C parts.flatten cs
  | [], cs, [], _, h, _ => by
    simp at h
    subst h
    exact ⟨rfl, fun j x v hx => by simp at hx⟩
  | [], _, _ :: _, h, _, _ => by simp at h
  | _ :: _, _, [], h, _, _ => by simp at h
  | p :: parts, cs, s :: szs, h1, h2, h => by
    have h0 := h 0 p rfl
    simp at h0
    simp only [List.foldr_cons] at h2
    have ih := PRl.flatten parts (cs.drop s) szs (by simpa using h1) (by simp [h2]) (fun i q hq => by
      have := h (i + 1) q (by simpa using hq)
      simpa [List.drop_drop, Nat.add_comm] using this)
    have hp : p.length = s := by
      have := h0.1
      simp at this
      omega
    refine ⟨by simp [List.length_append]; have := ih.1; simp at this; omega, fun j x v hx hv => ?_⟩
    simp only [List.flatten_cons] at hx
    by_cases hj : j < p.length
    · rw [List.getElem?_append_left hj] at hx
      refine h0.2 j x v hx ?_
      rw [List.getElem?_take, if_pos (by omega)]
      exact hv
    · rw [List.getElem?_append_right (by omega)] at hx
      refine ih.2 (j - p.length) x v hx ?_
      rw [List.getElem?_drop, ← hv]
      congr 1
      omega

theorem tiles_at {P : Program} : ∀ {l : List Field} {o n : Nat}, tiles P o l n = true → n = o + (l.map fun f => P.cellsOf f.type).foldr (· + ·) 0 ∧
    ∀ (i : Nat) f, l[i]? = some f → f.offset = o + ((l.map fun f => P.cellsOf f.type).take i).foldr (· + ·) 0
  | [], o, n, h => by
    simp only [tiles] at h
    exact ⟨by simp [← beq_eq h], fun i f hf => by simp at hf⟩
  | g :: l, o, n, h => by
    simp only [tiles, Bool.and_eq_true] at h
    obtain ⟨h1, h2⟩ := h
    have h1 := beq_eq h1
    obtain ⟨g1, g2⟩ := tiles_at h2
    refine ⟨by simp; omega, fun i f hf => ?_⟩
    cases i with
    | zero => simp at hf; subst hf; simpa using h1
    | succ i =>
      have := g2 i f (by simpa using hf)
      simp
      omega

section
variable {D : Type} {enc : TypeId × Value → D} {P : Program} {w : World} {base : Nat} {held : Bool}

theorem cells?_at {a : Addr} {n : Nat} {cs : List Value} (h : w.cells? base a n = some cs) : cs.length = n ∧ ∀ j, j < n → ∃ v, cs[j]? = some v ∧ w.cell? (a.add j) = some v := by
  unfold World.cells? at h
  split at h
  · refine ⟨by simpa using mapM_some_length h, fun j hj => ?_⟩
    have := mapM_some_get h j j (by simp [hj])
    have hl : cs.length = n := by simpa using mapM_some_length h
    exact ⟨cs[j]'(by omega), by simp, by rw [this]; simp⟩
  · cases h

theorem spot_none {a : Addr} {v : Value} (h : w.cell? a = some v) : a.spot = none := by
  unfold World.cell? at h
  split at h
  · split at h
    · cases h
    · rename_i hs; simpa using hs
  · cases h

theorem trod_plain : ∀ (n : Nat) (t : TypeId) (sh : Sh), shOf P n t = some sh → ∀ (fuel : Nat) (cs : List Value) (x : DataW D × List MemPlace),
    DataW.trod enc P w base (fun _ => true) held fuel t cs = some x → ∃ xs, Fit sh x.1 xs ∧ PRl (C0 w) xs cs
  | 0, _, _, h => by cases h
  | n + 1, t, sh, h => by
    intro fuel cs x hx
    unfold shOf at h
    split at h
    · rename_i e
      cases h
      obtain ⟨b, rfl, rfl⟩ := DataW.trod_bool e hx
      exact ⟨_, .bool b, .one (.bool b) rfl⟩
    · rename_i e
      cases h
      obtain ⟨k, rfl, rfl, hk⟩ := DataW.trod_int e hx
      exact ⟨_, .int _ k hk, .one (.int _ k) rfl⟩
    · rename_i e
      cases h
      obtain ⟨s, rfl, rfl, hs⟩ := DataW.trod_string e hx
      exact ⟨_, .str _ (by rw [Array.length_toList]; exact hs), .one (.str rfl) rfl⟩
    · rename_i e he
      split at h
      · rename_i s hs
        split at h
        · rename_i hz
          cases h
          have ih := trod_plain n e s hs
          rcases DataW.trod_slice he hx with ⟨rfl, rfl⟩ | ⟨a, len, cap, elems, rest, m, rfl, rfl, rfl, hb, hl, hm, hlen, hel, hsp, -⟩
          · exact ⟨_, .nils _ _, .one .nils rfl⟩
          · have each : ∀ i, i < len → ∃ y : Pv, ∃ d, (elems.map (·.1))[i]? = some d ∧ Fit s d y.cells ∧ (y.cells.length = P.cellsOf e ∧ (s.isS = true → ∃ cs, y = Pv.agg cs) ∧ (s.isS = false → y.cells = [y])) ∧
                ∃ cs, w.cells? base (a.add (i * P.cellsOf e)) (P.cellsOf e) = some cs ∧ PRl (C0 w) y.cells cs := by
              intro i hi
              have h1 := hel i hi
              rw [List.getElem?_eq_getElem (by omega), Option.bind_eq_some_iff] at h1
              obtain ⟨cs, h1, h2⟩ := h1
              obtain ⟨xs, h3, h4⟩ := ih m cs _ h2
              have hcl := (cells?_at h1).1
              cases hss : s.isS with
              | true =>
                refine ⟨.agg xs, elems[i].1, by simp [hlen, hi], h3, ⟨by show xs.length = _; rw [h4.1, hcl], (fun _ => ⟨xs, rfl⟩), (fun h => by cases h)⟩, cs, h1, h4⟩
              | false =>
                obtain ⟨y, rfl, hy⟩ := h3.single hss
                refine ⟨y, elems[i].1, by simp [hlen, hi], by rw [hy]; exact h3, ⟨by rw [hy, h4.1, hcl], (fun h => by cases h), (fun _ => hy)⟩, cs, h1, by rw [hy]; exact h4⟩
            obtain ⟨l, hll, hl2⟩ := pick len each
            refine ⟨[.sl (P.cellsOf e) false l], .sl _ _ _ _ l (by simp [hlen, hll]) (by omega) (fun i d x hd hx => ?_) (fun x hx => ?_), ?_⟩
            · obtain ⟨d', h1, h2, -⟩ := hl2 i x hx
              rw [hd] at h1
              cases h1
              exact h2
            · obtain ⟨i, hi, rfl⟩ := List.getElem_of_mem hx
              obtain ⟨-, -, -, h2, -⟩ := hl2 i _ (List.getElem?_eq_getElem hi)
              exact h2
            · refine .one ?_ rfl
              by_cases hc : cap = 0
              · have h0 : len = 0 := by omega
                subst hc; subst h0
                have : l = [] := List.length_eq_zero_iff.1 hll
                subst this
                exact .slNil
              · have hsp0 : a.spot = none := by
                  by_cases h0 : 0 < len
                  · have h1 := hel 0 h0
                    rw [List.getElem?_eq_getElem (by omega), Option.bind_eq_some_iff] at h1
                    obtain ⟨cs, h1, h2⟩ := h1
                    obtain ⟨v, -, hv⟩ := (cells?_at h1).2 0 hz
                    simp [Addr.add] at hv
                    exact spot_none hv
                  · obtain ⟨hr1, hr2⟩ := hsp rfl
                    have h1 := hr2 0 (by omega)
                    rw [List.getElem?_eq_getElem (by omega), Option.bind_eq_some_iff] at h1
                    obtain ⟨cs, h1, h2⟩ := h1
                    obtain ⟨v, -, hv⟩ := (cells?_at h1).2 0 hz
                    have h00 : len + 0 = 0 := by omega
                    rw [h00] at hv
                    simp [Addr.add] at hv
                    exact spot_none hv
                obtain ⟨b, o, sp⟩ := a
                simp at hsp0
                subst hsp0
                have key : ∀ (i : Nat) x (j : Nat) y, l[i]? = some x → x.cells[j]? = some y → ∃ v, w.cell? ⟨b, o + i * P.cellsOf e + j, none⟩ = some v ∧ v.oneCell' = true ∧ PR (C0 w) y v := by
                  intro i x j y hx hy
                  obtain ⟨-, -, -, ⟨hxl, -⟩, cs, h1, h2⟩ := hl2 i x hx
                  have hj : j < P.cellsOf e := by rw [← hxl]; exact (List.getElem?_eq_some_iff.1 hy).1
                  obtain ⟨v, g1, g2⟩ := (cells?_at h1).2 j hj
                  rw [Addr.add_lit, Addr.add_lit] at g2
                  obtain ⟨p1, p2⟩ := h2.2 j y v hy g1
                  exact ⟨v, g2, p2, p1⟩
                have := @PR.sl (C0 w) (P.cellsOf e) false l b o cap (fun i j => (w.cell? ⟨b, o + i * P.cellsOf e + j, none⟩).getD undef) (by omega) (fun h => by cases h)
                  (fun i x hx => by obtain ⟨-, -, -, ⟨h2, -⟩, -⟩ := hl2 i x hx; exact h2)
                  (fun i x j y hx hy => by
                    obtain ⟨v, h1, h2, -⟩ := key i x j y hx hy
                    simp only [C0, h1, h2, if_true, Option.getD_some])
                  (fun i x j y hx hy => by
                    obtain ⟨v, h1, h2, h3⟩ := key i x j y hx hy
                    simp only [h1, Option.getD_some]; exact h3)
                rw [hll] at this
                exact this
        · cases h
      · cases h
    · rename_i fs he
      split at h
      · rename_i ht
        simp only [Option.map_eq_some_iff] at h
        obtain ⟨shs, hsh, rfl⟩ := h
        obtain ⟨xs, m, rfl, rfl, hcl, hxl, hf⟩ := DataW.trod_struct he hx
        obtain ⟨hs1, hs2⟩ := allO_get hsh
        obtain ⟨t1, t2⟩ := tiles_at ht
        simp at hs1
        have each : ∀ i, i < fs.size → ∃ p, ∃ f s, fs[i]? = some f ∧ shs[i]? = some s ∧ (∀ d, (xs.map (·.1))[i]? = some d → Fit s d p) ∧ PRl (C0 w) p ((cs.drop f.offset).take (P.cellsOf f.type)) := by
          intro i hi
          have h1 := hf i fs[i] (by simp [hi])
          rw [List.getElem?_eq_getElem (by omega)] at h1
          have h2 := hs2 i (shs[i]'(by omega)) (List.getElem?_eq_getElem (by omega))
          simp only [List.getElem?_map, Option.map_eq_some_iff] at h2
          obtain ⟨f', g1, g2⟩ := h2
          have : f' = fs[i] := by
            have : fs.toList[i]? = some fs[i] := by simp [hi]
            rw [this] at g1; cases g1; rfl
          subst this
          obtain ⟨p, h3, h4⟩ := trod_plain n _ _ g2 m _ _ h1
          refine ⟨p, fs[i], shs[i]'(by omega), by simp [hi], List.getElem?_eq_getElem (by omega), fun d hd => ?_, h4⟩
          simp [List.getElem?_eq_getElem (show i < xs.length by omega)] at hd
          subst hd
          exact h3
        obtain ⟨parts, hp1, hp2⟩ := pick fs.size each
        refine ⟨parts.flatten, .struct shs _ parts (by simp [hxl, hs1]) (by omega) (fun i f d p hf' hd hp => ?_), PRl.flatten parts cs (fs.toList.map fun f => P.cellsOf f.type) (by simp [hp1]) (by rw [hcl]; omega) (fun i p hp => ?_)⟩
        · obtain ⟨f0, s0, -, h2, h3, -⟩ := hp2 i p hp
          rw [hf'] at h2
          cases h2
          exact h3 d hd
        · obtain ⟨f0, s0, h1, -, -, h4⟩ := hp2 i p hp
          have h1' : fs.toList[i]? = some f0 := by simpa using h1
          have := t2 i f0 h1'
          rw [Nat.zero_add] at this
          rw [← this]
          have e2 : (fs.toList.map fun f => P.cellsOf f.type).getD i 0 = P.cellsOf f0.type := by
            simp [List.getD_eq_getElem?_getD, h1]
          rw [e2]
          exact h4
      · cases h
    · rename_i k e he
      split at h
      · rename_i s hs
        split at h
        · rename_i hk
          cases h
          obtain ⟨xs, m, rfl, rfl, hcl, hxl, hf⟩ := DataW.trod_array he hx
          have each : ∀ i, i < k → ∃ p, (∀ d, (xs.map (·.1))[i]? = some d → Fit s d p) ∧ PRl (C0 w) p ((cs.drop (i * P.cellsOf e)).take (P.cellsOf e)) := by
            intro i hi
            have h1 := hf i hi
            rw [List.getElem?_eq_getElem (by omega)] at h1
            obtain ⟨p, h3, h4⟩ := trod_plain n _ _ hs m _ _ h1
            refine ⟨p, fun d hd => ?_, h4⟩
            simp [List.getElem?_eq_getElem (show i < xs.length by omega)] at hd
            subst hd
            exact h3
          obtain ⟨parts, hp1, hp2⟩ := pick k each
          have sum : ∀ m, (List.replicate m (P.cellsOf e)).foldr (· + ·) 0 = m * P.cellsOf e := by
            intro m
            induction m with
            | zero => simp
            | succ m ih => rw [List.replicate_succ, List.foldr_cons, ih, Nat.add_mul]; omega
          refine ⟨parts.flatten, .struct _ _ parts (by simp [hxl]) (by simp [hp1]) (fun i f d p hf' hd hp => ?_), PRl.flatten parts cs (List.replicate k (P.cellsOf e)) (by simp [hp1]) (by rw [hcl, sum, hk]) (fun i p hp => ?_)⟩
          · have := List.getElem?_eq_some_iff.1 hf'
            obtain ⟨h1, h2⟩ := this
            simp at h2
            subst h2
            exact (hp2 i p hp).1 d hd
          · have hi : i < k := by rw [← hp1]; exact (List.getElem?_eq_some_iff.1 hp).1
            have h4 := (hp2 i p hp).2
            rw [List.take_replicate, sum, Nat.min_eq_left (by omega)]
            have e2 : (List.replicate k (P.cellsOf e)).getD i 0 = P.cellsOf e := by
              simp [List.getD_eq_getElem?_getD, hi]
            rw [e2]
            exact h4
        · cases h
      · cases h
    · cases h
end
end Go.AX
