/-
  THE RELATION BETWEEN WHAT 'AX' HOLDS AND THE MODEL's MEMORY, and its first laws.
-/
import Derived.Test.YtojpocfnjigmfaaDoorAX1
import Derived.Calls
import Derived.Laws.Append
import Derived.Laws.CopyRow
import Derived.Laws.NewFold
namespace Go.AX
open Go

structure Gh where
  C : Nat → Nat → Option Value
  pl : Nat → Nat → Option (Nat × Nat × Nat)
  mp : Nat → Option Nat

inductive PR (C : Nat → Nat → Option Value) : Pv → Value → Prop
  | bool (b : Bool) : PR C (.bool b) (.bool b)
  | int (k : IntKind) (n : Int) : PR C (.int k n) (.int k n)
  | str {s : List UInt8} {b : ByteArray} (h : b.data.toList = s) : PR C (.str s) (.string b)
  | agg {cs : List Pv} {c : Array Value} (hs : cs.length = c.size) (h1 : ∀ (j : Nat) v, c[j]? = some v → v.oneCell' = true)
      (h : ∀ (j : Nat) x v, cs[j]? = some x → c[j]? = some v → PR C x v) : PR C (.agg cs) (.agg c)
  | tup {cs : List Pv} {c : Array Value} (hs : cs.length = c.size)
      (h : ∀ (j : Nat) x v, cs[j]? = some x → c[j]? = some v → PR C x v) : PR C (.tup cs) (.tuple c)
  | sl {sz : Nat} {ex : Bool} {l : List Pv} {b o cap : Nat} (f : Nat → Nat → Value) (hc : l.length ≤ cap) (hx : ex = true → cap = l.length)
      (hsz : ∀ (i : Nat) x, l[i]? = some x → x.cells.length = sz)
      (hC : ∀ (i : Nat) x (j : Nat) y, l[i]? = some x → x.cells[j]? = some y → C b (o + i * sz + j) = some (f i j))
      (hR : ∀ (i : Nat) x (j : Nat) y, l[i]? = some x → x.cells[j]? = some y → PR C y (f i j)) :
      PR C (.sl sz ex l) (.slice (some ⟨b, o, none⟩) l.length cap)
  | slNil {sz : Nat} {ex : Bool} {a : Option Addr} : PR C (.sl sz ex []) (.slice a 0 0)
  | nils : PR C .nils (.slice none 0 0)
  | ep {cs : List Pv} {b o : Nat} (f : Nat → Value) (hC : ∀ (j : Nat) y, cs[j]? = some y → C b (o + j) = some (f j))
      (hR : ∀ (j : Nat) y, cs[j]? = some y → PR C y (f j)) : PR C (.ep cs) (.pointer (some ⟨b, o, none⟩))
  | nilp : PR C .nilp (.pointer none)
  | fn {f : FuncId} {a b : List Pv} {a' b' : Array Value} (ha : a.length = a'.size) (hb : b.length = b'.size)
      (h1 : ∀ (j : Nat) x v, a[j]? = some x → a'[j]? = some v → PR C x v) (h2 : ∀ (j : Nat) x v, b[j]? = some x → b'[j]? = some v → PR C x v) :
      PR C (.fn f a b) (.func (.func f) a' b')
  | nilf : PR C .nilf .nilFunc
  | nilm : PR C .nilm (.map none)
  | niface : PR C .niface .nilIface

inductive VR (G : Gh) : V → Value → Prop
  | undef (c : Value) : VR G .undef c
  | p {x : Pv} {c : Value} (h : PR G.C x c) : VR G (.p x) c
  | agg {cs : List V} {c : Array Value} (hs : cs.length = c.size) (h1 : ∀ (j : Nat) v, c[j]? = some v → v.oneCell' = true)
      (h : ∀ (j : Nat) x v, cs[j]? = some x → c[j]? = some v → VR G x v) : VR G (.agg cs) (.agg c)
  | tup {cs : List V} {c : Array Value} (hs : cs.length = c.size)
      (h : ∀ (j : Nat) x v, cs[j]? = some x → c[j]? = some v → VR G x v) : VR G (.tup cs) (.tuple c)
  | ptr {id ver off b o bs : Nat} (h : G.pl id ver = some (b, o, bs)) : VR G (.ptr id ver off) (.pointer (some ⟨b, o + off, none⟩))
  | arr {id ver sz off len b o bs cap : Nat} (h : G.pl id ver = some (b, o, bs)) (hl : len ≤ cap) (hb : o + off * sz + cap * sz ≤ bs) :
      VR G (.arr id ver sz off len) (.slice (some ⟨b, o + off * sz, none⟩) len cap)
  | fn {f : FuncId} {a b : List V} {a' b' : Array Value} (ha : a.length = a'.size) (hb : b.length = b'.size)
      (h1 : ∀ (j : Nat) x v, a[j]? = some x → a'[j]? = some v → VR G x v) (h2 : ∀ (j : Nat) x v, b[j]? = some x → b'[j]? = some v → VR G x v) :
      VR G (.fn f a b) (.func (.func f) a' b')
  | map {id b : Nat} (h : G.mp id = some b) : VR G (.map id) (.map (some b))
  | ev {cs : List V} {b o : Nat} (f : Nat → Value) (hC : ∀ (j : Nat) y, cs[j]? = some y → G.C b (o + j) = some (f j))
      (hR : ∀ (j : Nat) y, cs[j]? = some y → VR G y (f j)) : VR G (.ev cs) (.pointer (some ⟨b, o, none⟩))

def ObR (G : Gh) (w : World) (id : Nat) : Ob → Prop
  | .box ver cs => ∃ (b o : Nat) (k : Array Value) (T : TypeId), G.pl id ver = some (b, o, k.size) ∧ w.heap[b]? = some (.cells k T (0, 0)) ∧
      o + cs.length ≤ k.size ∧ (∀ (j : Nat) y, cs[j]? = some y → ∃ u, k[o + j]? = some u ∧ u.oneCell' = true ∧ VR G y u) ∧ (∀ j, o ≤ j → G.C b j = none) ∧ (∀ v, ver < v → G.pl id v = none)
  | .arr ver f sz es => ∃ (b o : Nat) (k : Array Value) (T : TypeId), G.pl id ver = some (b, o, k.size) ∧ w.heap[b]? = some (.cells k T (0, 0)) ∧
      0 < sz ∧ o + es.length * sz ≤ k.size ∧ (∀ (i : Nat) e, es[i]? = some e → e.cells.length = sz) ∧
      (∀ (i : Nat) e (j : Nat) y, es[i]? = some e → e.cells[j]? = some y → ∃ u, k[o + i * sz + j]? = some u ∧ u.oneCell' = true ∧ VR G y u) ∧ (∀ j, o + f * sz ≤ j → G.C b j = none) ∧ (∀ v, ver < v → G.pl id v = none)
  | .map es => ∃ (b : Nat) (k : Array MapEntry) (clock : Nat), G.mp id = some b ∧ w.heap[b]? = some (.map k clock) ∧ es.length = k.size ∧
      (∀ (j : Nat) s y u, es[j]? = some (s, y) → k[j]? = some u → PR G.C (.str s) u.key ∧ PR G.C y u.val) ∧ (∀ j, G.C b j = none)
  | .dead => True

def blk (G : Gh) (id : Nat) : Ob → Option Nat
  | .box ver _ | .arr ver _ _ _ => (G.pl id ver).map (·.1)
  | .map _ => G.mp id
  | .dead => none
def Owned (G : Gh) (H : Hp) (b : Nat) : Prop := ∃ id ob, H[id]? = some ob ∧ blk G id ob = some b

structure GOK (G : Gh) (w : World) (H : Hp) : Prop where
  stable : ∀ b o v, G.C b o = some v → w.cell? ⟨b, o, none⟩ = some v
  one : ∀ b o v, G.C b o = some v → v.oneCell' = true
  obs : ∀ (id : Nat) ob, H[id]? = some ob → ObR G w id ob
  apart : ∀ (i j : Nat) x y b, H[i]? = some x → H[j]? = some y → blk G i x = some b → blk G j y = some b → i = j
  fresh : ∀ id ver, H.length ≤ id → G.pl id ver = none
  freshM : ∀ id, H.length ≤ id → G.mp id = none

structure Ext (n : Nat) (G : Gh) (H : Hp) (w : World) (G' : Gh) (H' : Hp) (w' : World) : Prop where
  os : w'.os = w.os
  tape : w'.tape = w.tape
  output : w'.output = w.output
  size : w.heap.size ≤ w'.heap.size
  old : ∀ b, b < w.heap.size → ¬ Owned G H b → w'.heap[b]? = w.heap[b]?
  mono : ∀ b o v, G.C b o = some v → G'.C b o = some v
  new : ∀ b o v, G'.C b o = some v → G.C b o = some v ∨ w.heap.size ≤ b ∨ Owned G H b
  pl : ∀ id ver x, id < n → G.pl id ver = some x → G'.pl id ver = some x
  mp : ∀ id x, id < n → G.mp id = some x → G'.mp id = some x
  own : ∀ b, Owned G' H' b → Owned G H b ∨ w.heap.size ≤ b

theorem Ext.refl (n : Nat) (G : Gh) (H : Hp) (w : World) : Ext n G H w G H w :=
  ⟨rfl, rfl, rfl, Nat.le_refl _, fun _ _ _ => rfl, fun _ _ _ h => h, fun _ _ _ h => .inl h, fun _ _ _ _ h => h, fun _ _ _ h => h, fun _ h => .inl h⟩
theorem Ext.weaken {n m : Nat} {G G' : Gh} {H H' : Hp} {w w' : World} (h : Ext n G H w G' H' w') (hm : m ≤ n) : Ext m G H w G' H' w' :=
  ⟨h.os, h.tape, h.output, h.size, h.old, h.mono, h.new, fun i v x hi => h.pl i v x (Nat.lt_of_lt_of_le hi hm), fun i x hi => h.mp i x (Nat.lt_of_lt_of_le hi hm), h.own⟩
theorem Ext.trans {n : Nat} {G G' G'' : Gh} {H H' H'' : Hp} {w w' w'' : World} (h : Ext n G H w G' H' w') (k : Ext n G' H' w' G'' H'' w'') : Ext n G H w G'' H'' w'' where
  os := k.os.trans h.os
  tape := k.tape.trans h.tape
  output := k.output.trans h.output
  size := Nat.le_trans h.size k.size
  old b hb ho := (k.old b (Nat.lt_of_lt_of_le hb h.size) (fun hn => (h.own b hn).elim ho (fun hl => by omega))).trans (h.old b hb ho)
  mono b o v hv := k.mono b o v (h.mono b o v hv)
  new b o v hv := by
    rcases k.new b o v hv with h1 | h1 | h1
    · exact h.new b o v h1
    · exact .inr (.inl (Nat.le_trans h.size h1))
    · rcases h.own b h1 with h2 | h2
      · exact .inr (.inr h2)
      · exact .inr (.inl h2)
  pl i v x hi hx := k.pl i v x hi (h.pl i v x hi hx)
  mp i x hi hx := k.mp i x hi (h.mp i x hi hx)
  own b hb := by
    rcases k.own b hb with h1 | h1
    · exact h.own b h1
    · exact .inr (Nat.le_trans h.size h1)

theorem PR.mono {C C' : Nat → Nat → Option Value} (hC : ∀ b o v, C b o = some v → C' b o = some v) {x : Pv} {c : Value} (h : PR C x c) : PR C' x c := by
  induction h with
  | bool b => exact .bool b
  | int k n => exact .int k n
  | str h => exact .str h
  | agg hs h1 _ ih => exact .agg hs h1 ih
  | tup hs _ ih => exact .tup hs ih
  | sl f hc hx hsz hCC _ ih => exact .sl f hc hx hsz (fun i x j y h1 h2 => hC _ _ _ (hCC i x j y h1 h2)) ih
  | slNil => exact .slNil
  | nils => exact .nils
  | ep f hCC _ ih => exact .ep f (fun j y h1 => hC _ _ _ (hCC j y h1)) ih
  | nilp => exact .nilp
  | fn ha hb _ _ i1 i2 => exact .fn ha hb i1 i2
  | nilf => exact .nilf
  | nilm => exact .nilm
  | niface => exact .niface

theorem VR.mono {G G' : Gh} (hC : ∀ b o v, G.C b o = some v → G'.C b o = some v) (hp : ∀ id ver x, G.pl id ver = some x → G'.pl id ver = some x)
    (hm : ∀ id x, G.mp id = some x → G'.mp id = some x) {v : V} {c : Value} (h : VR G v c) : VR G' v c := by
  induction h with
  | undef c => exact .undef c
  | p h => exact .p (h.mono hC)
  | agg hs h1 _ ih => exact .agg hs h1 ih
  | tup hs _ ih => exact .tup hs ih
  | ptr h => exact .ptr (hp _ _ _ h)
  | arr h hl hb => exact .arr (hp _ _ _ h) hl hb
  | fn ha hb _ _ i1 i2 => exact .fn ha hb i1 i2
  | map h => exact .map (hm _ _ h)
  | ev f hCC _ ih => exact .ev f (fun j y h1 => hC _ _ _ (hCC j y h1)) ih

theorem Ext.allPl {G G' : Gh} {H H' : Hp} {w w' : World} (h : Ext H.length G H w G' H' w') (ok : GOK G w H) : ∀ id ver x, G.pl id ver = some x → G'.pl id ver = some x := by
  intro id ver x hx
  refine h.pl id ver x ?_ hx
  rcases Nat.lt_or_ge id H.length with h' | h'
  · exact h'
  · rw [ok.fresh id ver h'] at hx; cases hx
theorem Ext.allMp {G G' : Gh} {H H' : Hp} {w w' : World} (h : Ext H.length G H w G' H' w') (ok : GOK G w H) : ∀ id x, G.mp id = some x → G'.mp id = some x := by
  intro id x hx
  refine h.mp id x ?_ hx
  rcases Nat.lt_or_ge id H.length with h' | h'
  · exact h'
  · rw [ok.freshM id h'] at hx; cases hx
theorem Ext.vr {G G' : Gh} {H H' : Hp} {w w' : World} (h : Ext H.length G H w G' H' w') (ok : GOK G w H) {v : V} {c : Value} (hv : VR G v c) : VR G' v c :=
  hv.mono h.mono (h.allPl ok) (h.allMp ok)

theorem PR.cellsOf {C : Nat → Nat → Option Value} {x : Pv} {c : Value} (h : PR C x c) {n : Nat} (hn : x.cells.length = n) (h0 : 0 < n) :
    c.cells.size = n ∧ ∀ (j : Nat) y u, x.cells[j]? = some y → c.cells[j]? = some u → u.oneCell' = true ∧ PR C y u := by
  have one : ∀ {x : Pv} {c : Value}, x.cells = [x] → c.cells = #[c] → c.oneCell' = true → PR C x c → x.cells.length = n →
      c.cells.size = n ∧ ∀ (j : Nat) y u, x.cells[j]? = some y → c.cells[j]? = some u → u.oneCell' = true ∧ PR C y u := by
    intro x c hx hc h1 hr hn
    rw [hx] at hn ⊢
    rw [hc]
    refine ⟨hn, fun j y u hy hu => ?_⟩
    cases j with
    | zero => simp at hy hu; subst hy; subst hu; exact ⟨h1, hr⟩
    | succ j => simp at hy
  cases h with
  | agg hs h1 h => exact ⟨by rw [← hn]; exact hs.symm, fun j y u hy hu => ⟨h1 j u hu, h j y u hy hu⟩⟩
  | tup hs h => simp [Pv.cells] at hn; omega
  | bool b => exact one rfl rfl rfl (.bool b) hn
  | int k m => exact one rfl rfl rfl (.int k m) hn
  | str h => exact one rfl rfl rfl (.str h) hn
  | sl f a b d e g => exact one rfl rfl rfl (.sl f a b d e g) hn
  | slNil => exact one rfl rfl rfl .slNil hn
  | nils => exact one rfl rfl rfl .nils hn
  | ep f a b => exact one rfl rfl rfl (.ep f a b) hn
  | nilp => exact one rfl rfl rfl .nilp hn
  | fn a b d e => exact one rfl rfl rfl (.fn a b d e) hn
  | nilf => exact one rfl rfl rfl .nilf hn
  | nilm => exact one rfl rfl rfl .nilm hn
  | niface => exact one rfl rfl rfl .niface hn

theorem VR.cellsOf {G : Gh} {v : V} {c : Value} (h : VR G v c) {n : Nat} (hn : v.cells.length = n) (h0 : 0 < n) :
    c.cells.size = n ∧ ∀ (j : Nat) y u, v.cells[j]? = some y → c.cells[j]? = some u → u.oneCell' = true ∧ VR G y u := by
  have one : ∀ {v : V} {c : Value}, v.cells = [v] → c.cells = #[c] → c.oneCell' = true → VR G v c → v.cells.length = n →
      c.cells.size = n ∧ ∀ (j : Nat) y u, v.cells[j]? = some y → c.cells[j]? = some u → u.oneCell' = true ∧ VR G y u := by
    intro x c hx hc h1 hr hn
    rw [hx] at hn ⊢
    rw [hc]
    refine ⟨hn, fun j y u hy hu => ?_⟩
    cases j with
    | zero => simp at hy hu; subst hy; subst hu; exact ⟨h1, hr⟩
    | succ j => simp at hy
  cases h with
  | undef c => simp [V.cells] at hn; omega
  | p h =>
    simp only [V.cells, List.length_map] at hn
    obtain ⟨h1, h2⟩ := h.cellsOf hn h0
    refine ⟨h1, fun j y u hy hu => ?_⟩
    simp only [V.cells, List.getElem?_map, Option.map_eq_some_iff] at hy
    obtain ⟨z, hz, rfl⟩ := hy
    exact ⟨(h2 j z u hz hu).1, .p (h2 j z u hz hu).2⟩
  | agg hs h1 h => exact ⟨by rw [← hn]; exact hs.symm, fun j y u hy hu => ⟨h1 j u hu, h j y u hy hu⟩⟩
  | tup hs h => simp [V.cells] at hn; omega
  | ptr h => exact one rfl rfl rfl (.ptr h) hn
  | arr h a b => exact one rfl rfl rfl (.arr h a b) hn
  | fn a b d e => exact one rfl rfl rfl (.fn a b d e) hn
  | map h => exact one rfl rfl rfl (.map h) hn
  | ev f a b => exact one rfl rfl rfl (.ev f a b) hn

def VRs (G : Gh) (vs : List V) (c : Array Value) : Prop := vs.length = c.size ∧ ∀ (j : Nat) x v, vs[j]? = some x → c[j]? = some v → VR G x v
def PRs (C : Nat → Nat → Option Value) (vs : List Pv) (c : Array Value) : Prop := vs.length = c.size ∧ ∀ (j : Nat) x v, vs[j]? = some x → c[j]? = some v → PR C x v

theorem allP_eq : ∀ {l : List V} {r : List Pv}, allP l = some r → l = r.map .p
  | [], r, h => by simp [allP] at h; subst h; rfl
  | v :: l, r, h => by
    simp only [allP] at h
    split at h
    · rename_i x s hx hs
      cases h
      cases v <;> simp [asP] at hx
      subst hx
      simp [allP_eq hs]
    · cases h
theorem allP_map (l : List Pv) : allP (l.map .p) = some l := by
  induction l with
  | nil => rfl
  | cons a l ih => simp [allP, asP, ih]
theorem VRs.toP {G : Gh} {l : List V} {r : List Pv} {c : Array Value} (h : VRs G l c) (hr : allP l = some r) : PRs G.C r c := by
  have := allP_eq hr
  subst this
  refine ⟨by simpa using h.1, fun j x v hx hv => ?_⟩
  have := h.2 j (.p x) v (by simp [hx]) hv
  cases this with
  | p h => exact h
theorem PRs.toV {G : Gh} {r : List Pv} {c : Array Value} (h : PRs G.C r c) : VRs G (r.map .p) c :=
  ⟨by simpa using h.1, fun j x v hx hv => by
    simp only [List.getElem?_map, Option.map_eq_some_iff] at hx
    obtain ⟨y, hy, rfl⟩ := hx
    exact .p (h.2 j y v hy hv)⟩
theorem VRs.agg {G : Gh} {l : List V} {c : Array Value} (h : VRs G l c) (h1 : ∀ (j : Nat) v, c[j]? = some v → v.oneCell' = true) : VR G (mkAgg l) (.agg c) := by
  unfold mkAgg
  split
  · rename_i r hr
    exact .p (.agg (h.toP hr).1 h1 (h.toP hr).2)
  · exact .agg h.1 h1 h.2
theorem VRs.tup {G : Gh} {l : List V} {c : Array Value} (h : VRs G l c) : VR G (mkTup l) (.tuple c) := by
  unfold mkTup
  split
  · rename_i r hr
    exact .p (.tup (h.toP hr).1 (h.toP hr).2)
  · exact .tup h.1 h.2

end Go.AX
