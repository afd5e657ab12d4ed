/-
  A ROW FROM A RUN: where the abstract call answers 'true' on every plain value that the arguments can be, the model's call returns true, and each argument reads as it read.
-/
import Derived.Test.YtojpocfnjigmfaaDoorAX11
import Derived.Carry
import Derived.ChangeSame
import Derived.RowKit
namespace Go.AX
open Go Go.ChangeShapes Go.WideShapes Go.RowKit

def FitAll {D : Type} : List Sh → List (DataW D) → List Pv → Prop
  | [], [], [] => True
  | s :: ss, d :: ds, x :: xs => Fit s d x.cells ∧ (match s.isS with | true => ∃ cs, x = .agg cs | false => x.cells = [x]) ∧ FitAll ss ds xs
  | _, _, _ => False

section
variable {D : Type} {enc : TypeId × Value → D} {P : Program} {w : World} {held : Bool}

theorem okWide_leaf {t : TypeId} {v : Value} {b : Nat} (hs : aggOf P t = false) {n : Nat} {sh : Sh} (hsh : shOf P n t = some sh) (h : Value.okWide P w .any b t v) : v.cells = #[v] := by
  cases n with
  | zero => cases hsh
  | succ n =>
    unfold shOf at hsh
    unfold aggOf at hs
    split at hsh
    · rename_i e; obtain ⟨x, rfl⟩ := okWide_bool e h; rfl
    · rename_i e; obtain ⟨x, rfl⟩ := okWide_int e h; rfl
    · rename_i e; obtain ⟨x, rfl⟩ := okWide_string e h; rfl
    · rename_i e; obtain ⟨a, l, c, rfl⟩ := okWide_slice e h; rfl
    · rename_i e; rw [e] at hs; cases hs
    · rename_i e; rw [e] at hs; cases hs
    · cases hsh

theorem okWide_agg {t : TypeId} {v : Value} {b : Nat} (hs : aggOf P t = true) (h : Value.okWide P w .any b t v) : ∃ cs, v = .agg cs := by
  unfold aggOf at hs
  unfold Value.okWide at h
  split at hs
  · rename_i e; rw [e] at h; obtain ⟨cs, h, -⟩ := h; exact ⟨cs, h⟩
  · rename_i e; rw [e] at h; obtain ⟨cs, h, -⟩ := h; exact ⟨cs, h⟩
  · cases hs

theorem args_plain {N : Nat} {b : Nat} : ∀ {ts : List TypeId} {shs : List Sh} {vs : List Value} {ds : List (DataW D)} {ps : List MemPlace}, allO (ts.map fun t => shOf P N t) = some shs →
    DataW.TrodAll enc P w 0 (fun _ => true) held ts vs ds ps → (∀ (j : Nat) t v, ts[j]? = some t → vs[j]? = some v → Value.okWide P w .any b t v) →
    ∃ xs, FitAll shs ds xs ∧ xs.length = vs.length ∧ ∀ (j : Nat) x v, xs[j]? = some x → vs[j]? = some v → PR (C0 w) x v
  | [], shs, vs, ds, ps, hs, h, _ => by
    obtain ⟨rfl, rfl, rfl⟩ := trodAll_nil h
    simp [allO] at hs
    subst hs
    exact ⟨[], trivial, rfl, fun j x v hx => by simp at hx⟩
  | t :: ts, shs, vs, ds, ps, hs, h, hv => by
    obtain ⟨v, vs, d, ds, p, q, rfl, rfl, rfl, h1, h2⟩ := trodAll_cons h
    simp only [List.map_cons, allO] at hs
    split at hs
    · rename_i s r hsh hr
      cases hs
      obtain ⟨xs, g1, g2, g3⟩ := args_plain hr h2 (fun j t' v' ht hv' => hv (j + 1) t' v' (by simpa using ht) (by simpa using hv'))
      obtain ⟨fuel, h1⟩ := h1
      obtain ⟨cs, f1, f2⟩ := trod_plain N t s hsh fuel _ _ h1
      have hok := hv 0 t v rfl rfl
      have his := shOf_isS hsh
      have : ∃ x : Pv, Fit s d x.cells ∧ (match s.isS with | true => ∃ cs, x = .agg cs | false => x.cells = [x]) ∧ PR (C0 w) x v := by
        cases hss : s.isS with
        | true =>
          rw [hss] at his
          obtain ⟨c, rfl⟩ := okWide_agg his.symm hok
          refine ⟨.agg cs, f1, ⟨cs, rfl⟩, .agg ?_ (fun j u hu => ?_) (fun j y u hy hu => ?_)⟩
          · have := f2.1
            simpa [Value.cells] using this
          · have hl := f2.1
            simp [Value.cells] at hl
            have hj := (Array.getElem?_eq_some_iff.1 hu).1
            exact (f2.2 j _ u (List.getElem?_eq_getElem (by omega)) (by simpa [Value.cells] using hu)).2
          · exact (f2.2 j y u hy (by simpa [Value.cells] using hu)).1
        | false =>
          rw [hss] at his
          obtain ⟨y, rfl, hy⟩ := f1.single hss
          have hc := okWide_leaf his.symm hsh hok
          rw [hc] at f2
          exact ⟨y, by rw [hy]; exact f1, hy, (f2.2 0 y v rfl rfl).1⟩
      obtain ⟨x, e1, e2, e3⟩ := this
      refine ⟨x :: xs, ⟨e1, e2, g1⟩, by simp [g2], fun j y u hy hu => ?_⟩
      cases j with
      | zero => simp at hy hu; subst hy; subst hu; exact e3
      | succ j => simp at hy hu; exact g3 j y u hy hu
    · cases hs

theorem args_back {W W' : World} (hl : laidOutB P = true) (hb : Below W.heap.size W W') : ∀ {ts : List TypeId} {vs : List Value} {ds : List (DataW D)} {ps : List MemPlace},
    (ts.all fun t => P.readableRec t && Nat.blt t P.types.size) = true → DataW.TrodAll enc P W 0 (fun _ => true) true ts vs ds ps →
    DataW.TrodAll enc P W' 0 (fun b => decide (b < W.heap.size)) true ts vs ds ps
  | [], vs, ds, ps, _, h => by
    obtain ⟨rfl, rfl, rfl⟩ := trodAll_nil h
    exact trodAll_mk0
  | t :: ts, vs, ds, ps, ht, h => by
    obtain ⟨v, vs, d, ds, p, q, rfl, rfl, rfl, h1, h2⟩ := trodAll_cons h
    simp only [List.all_cons, Bool.and_eq_true] at ht
    exact trodAll_cons_mk (Below.trod hl ht.1.1 (Nat.le_of_ble_eq_true ht.1.2) h1 hb (by obtain ⟨m, hm⟩ := h1; exact DataW.trod_lt m _ _ _ hm)) (args_back hl hb ht.2 h2)

def G0 (w : World) : Gh := { C := C0 w, pl := fun _ _ => none, mp := fun _ => none }
theorem G0_ok (w : World) : GOK (G0 w) w [] where
  stable b o v h := by
    simp only [G0, C0] at h
    split at h
    · rename_i u hu
      split at h
      · cases h; exact hu
      · cases h
    · cases h
  one b o v h := by
    simp only [G0, C0] at h
    split at h
    · split at h
      · rename_i h1; cases h; exact h1
      · cases h
    · cases h
  obs id ob h := by simp at h
  apart i j x y b h := by simp at h
  fresh id ver _ := rfl
  freshM id _ := rfl

theorem laid_plain {N : Nat} {laid : List (String × DataW Unit)} : ∀ {ps : List MemPlace}, DataW.LaidVars P w laid ps → ∀ n d, (n, d) ∈ laid → ∃ g t, P.globalNamed n = some g ∧ (P.globals[g]?).map (·.type) = some t ∧
    ∀ sh, shOf P N t = some sh → ∃ xs, Fit sh d xs ∧ PR (C0 w) (.ep xs) (.pointer (some ⟨g, 0, none⟩)) := by
  induction laid with
  | nil => intro ps _ n d h; simp at h
  | cons x r ih =>
    obtain ⟨n0, d0⟩ := x
    intro ps h n d hm
    obtain ⟨g, t, cs, fuel, p, q, h1, h2, h3, h4, h5, -⟩ := h
    rcases List.mem_cons.1 hm with e | hm
    · cases e
      refine ⟨g, t, h1, h2, fun sh hsh => ?_⟩
      obtain ⟨xs, f1, f2⟩ := trod_plain N t sh hsh fuel _ _ h4
      refine ⟨xs, f1, .ep (fun j => (w.cell? ⟨g, j, none⟩).getD undef) (fun j y hy => ?_) (fun j y hy => ?_)⟩
      · have hj : j < cs.toList.length := by rw [← f2.1]; exact (List.getElem?_eq_some_iff.1 hy).1
        obtain ⟨e1, e2⟩ := f2.2 j y _ hy (List.getElem?_eq_getElem hj)
        have hc := World.var?_cell h1 h3 j
        simp only [Nat.zero_add, C0, hc]
        simp at hj
        simp [hj] at e2 ⊢
        simpa using e2
      · have hj : j < cs.toList.length := by rw [← f2.1]; exact (List.getElem?_eq_some_iff.1 hy).1
        obtain ⟨e1, e2⟩ := f2.2 j y _ hy (List.getElem?_eq_getElem hj)
        have hc := World.var?_cell h1 h3 j
        simp at hj
        simp [hc, hj] at e1 ⊢
        exact e1
    · exact ih h5 n d hm

theorem contract_true {cx : Cx} (hcx : CxOK P cx) {f : FuncId} {fn : Func} {s : ChangeSpec} {W : World} {b : Nat} {args : Array Value} {ds gs : List (DataW D)} {before : List MemPlace} {N : Nat} {shs : List Sh} {tb : TypeId}
    (hl : laidOutB P = true) (hvars : s.vars = []) (hsh : allO (fn.params.toList.map fun t => shOf P N t) = some shs)
    (hread : (fn.params.toList.all fun t => P.readableRec t && Nat.blt t P.types.size) = true) (hres : fn.resultTypes = #[tb]) (hb : P.underlying tb = some .bool)
    (hspec : ∀ {ds : List (DataW D)} {xs : List Pv}, FitAll shs ds xs → s.fn D ds = { results := [.lit (.bool true)], args := ds })
    (hval : ∀ (j : Nat) t v, fn.params[j]? = some t → args[j]? = some v → Value.okWide P W .any b t v)
    (hW : DataW.Whole enc P fn.params.toList s.vars false W args.toList ds gs before) (hgl : GlOK cx (G0 W))
    (hrun : ∀ xs : List Pv, FitAll shs ds xs → ∃ n H', call cx n f (xs.map .p) [] = some (.p (.bool true), H')) :
    Calls P f args W fun e W' => ∃ v, e = .returned v ∧ s.post enc P fn false true false false W args v W' := by
  have hW' := hW
  obtain ⟨p, q, hA, hV, rfl, hfz, hnd⟩ := hW
  rw [hvars] at hV
  obtain ⟨rfl, rfl⟩ := trodVars_none hV
  obtain ⟨xs, h1, h2, h3⟩ := args_plain (b := b) hsh hA (fun j t v ht hv => hval j t v (by simpa using ht) (by simpa using hv))
  obtain ⟨n, H', hc⟩ := hrun xs h1
  have := (call_sound hcx n f _ _ _ _ hc).2 (G0 W) W args (G0_ok W) hgl ⟨by simp [h2], fun j x v hx hv => by
    simp only [List.getElem?_map, Option.map_eq_some_iff] at hx
    obtain ⟨y, hy, rfl⟩ := hx
    exact .p (h3 j y v hy (by simpa using hv))⟩
  refine this.mono fun e W' ⟨v, G', he, hr, _, hx, _⟩ => ?_
  have hv : v = .bool true := by
    cases hr with
    | p h => cases h; rfl
  subst hv
  have bel : Below W.heap.size W W' := ⟨hx.os, hx.tape, hx.output, hx.size, fun k hk => hx.old k hk (fun ⟨id, ob, h, _⟩ => by simp at h)⟩
  have hsp : s.fn D (ds ++ []) = { results := [.lit (.bool true)], args := ds } := by rw [List.append_nil]; exact hspec h1
  refine ⟨_, he, ds, [], _, [], p, [], hW', ?_, ?_, ?_, bel.frame _, fun h => by cases h⟩
  · rw [hsp, hres]
    exact trodAll_mk1 (shut_bool hb true)
  · rw [hsp]
    exact args_back hl bel hread hA
  · rw [hsp, hvars]
    rfl
end

def lookT : List (Nat × TI) → Nat → Option TI
  | [], _ => none
  | (k, x) :: l, t => match Nat.beq k t with
    | true => some x
    | false => lookT l t
def AllT (P : Program) : List (Nat × TI) → Prop
  | [] => True
  | (t, x) :: l => tiOf P t = some x ∧ AllT P l
theorem tok_of {P : Program} : ∀ {l : List (Nat × TI)}, AllT P l → TOK P (lookT l)
  | [], _, t, i, h => by cases h
  | (k, x) :: l, hl, t, i, h => by
    simp only [lookT] at h
    split at h
    · rename_i hk
      cases h
      rw [← beq_eq hk]
      exact hl.1
    · exact tok_of hl.2 t i h
def mkCx (P : Program) (T : TypeId → Option TI) (h : FuncId → List (Nat × RH)) (gl : Nat → Option (List Pv)) : Cx where
  T := T
  F f := match P.funcs[f]? with
    | some fn => match fn.body with
      | some b => some { body := b, ntmps := fn.ntmps, results := fn.results.toList, hints := h f }
      | none => none
    | none => none
  gl := gl
def chkF (P : Program) (h : FuncId → List (Nat × RH)) (f : FuncId) : Bool := match P.funcs[f]? with
  | some fn => match fn.body with
    | some b => !(fn.name == "runtime.NumGoroutine") && codeOk { body := b, ntmps := fn.ntmps, results := fn.results.toList, hints := h f } b
    | none => true
  | none => true
theorem mkCx_ok {P : Program} {T : TypeId → Option TI} {h : FuncId → List (Nat × RH)} {gl : Nat → Option (List Pv)} {n : Nat} (hT : TOK P T) (hn : Nat.ble P.funcs.size n = true) (hc : ((List.range n).all fun f => chkF P h f) = true) : CxOK P (mkCx P T h gl) where
  T := hT
  F f fi hf := by
    simp only [mkCx] at hf
    split at hf
    · rename_i fn hfn
      split at hf
      · rename_i b hb
        cases hf
        have hlt : f < n := by
          have h1 : f < P.funcs.size := (Array.getElem?_eq_some_iff.1 hfn).1
          exact Nat.lt_of_lt_of_le h1 (Nat.le_of_ble_eq_true hn)
        have := List.all_eq_true.1 hc f (List.mem_range.2 hlt)
        simp only [chkF, hfn, hb, Bool.and_eq_true] at this
        refine ⟨fn, hfn, fun e => ?_, hb, rfl, rfl, this.2⟩
        have h1 := this.1
        rw [e] at h1
        simp at h1
      · cases hf
    · cases hf
end Go.AX
