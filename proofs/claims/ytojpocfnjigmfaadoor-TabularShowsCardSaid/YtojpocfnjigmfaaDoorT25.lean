import Derived.Test.YtojpocfnjigmfaaDoorT24
set_option maxRecDepth 10000
set_option linter.unusedSimpArgs false
set_option linter.unusedVariables false
namespace Go.Proofs.YtojpocfnjigmfaaDoor
open Go Go.AX
abbrev shX : Sh := .struct [.int .i64, .slice 2 (.struct [.int .i64, .int .i64])]
abbrev shP : Sh := .struct [.slice 2 shX, .int .i64]
abbrev shR : Sh := .struct [.str, .int .i64, .slice 1 (.int .i64), .slice 2 shX, .slice 2 shP]
abbrev shT : Sh := .struct [.slice 1 .str, .slice 1 .str, .slice 1 (.int .i64), .slice 5 shR]
structure TyT (P : Program) : Prop where
  u23 : P.underlying 23 = some (.slice 9)
  u35 : P.underlying 35 = some (.slice 3)
  u36 : P.underlying 36 = some (.slice 78)
  u75 : P.underlying 75 = some (.slice 80)
  u76 : P.underlying 76 = some (.slice 83)
  u81 : P.underlying 81 = some (.slice 93)
  b3 : 1 ≤ P.bytesOf 3
  b78 : 1 ≤ P.bytesOf 78
  b80 : 1 ≤ P.bytesOf 80
  b83 : 1 ≤ P.bytesOf 83
  b93 : 1 ≤ P.bytesOf 93
  a38 : ∀ {D : Type} (l : List (DataW D)), (DataW.agg l).weights P 38 = DataW.weightsEach P [23, 23, 35, 36] l
  a78 : ∀ {D : Type} (l : List (DataW D)), (DataW.agg l).weights P 78 = DataW.weightsEach P [9, 3, 35, 75, 76] l
  a83 : ∀ {D : Type} (l : List (DataW D)), (DataW.agg l).weights P 83 = DataW.weightsEach P [81, 3] l
theorem one_sl {D : Type} {sz : Nat} {e : Sh} {d : DataW D} {cs : List Pv} (h : Fit (.slice sz e) d cs) : ∃ x, cs = [x] := by cases h <;> exact ⟨_, rfl⟩
theorem fit_two {D : Type} {d : DataW D} {cs : List Pv} (h : Fit shX d cs) : ∃ (n : Int) (t : Pv) (l : List Ins), cs = [.int .i64 n, t] ∧ IsL 2 t ∧ elemsP t = l.map Ins.pv := by
  obtain ⟨_, _, p, q, rfl, hp, hq⟩ := fit_struct_cons h
  obtain ⟨_, _, p', q', rfl, hp', hq'⟩ := fit_struct_cons hq
  obtain rfl := fit_struct_nil hq'
  obtain ⟨n, rfl, -, -⟩ := fit_i64 hp
  obtain ⟨t, rfl⟩ := one_sl hp'
  obtain ⟨h1, l, hl⟩ := fit_code hp'
  exact ⟨n, t, l, rfl, h1, hl⟩
theorem fit_sets {D : Type} {P : Program} (Y : TyT P) {d : DataW D} {cs : List Pv} (h : Fit (.slice 2 shX) d cs) (hw : Rch P 81 d) : ∃ x, cs = [x] ∧ IsL 2 x ∧ ∃ l : List Sx, L2 SxR (elemsP x) l ∧ l.length ≤ reachBytes := by
  obtain ⟨x, rfl⟩ := one_sl h
  obtain ⟨h1, h2, h3⟩ := fit_slR h Y.u81 Y.b93 hw
  obtain ⟨l, hl, -⟩ := l2_of (R := SxR) (p := fun _ => True) (ys := elemsP x) (fun y hy => by
    obtain ⟨⟨d', hd, -⟩, hc, -⟩ := h3 y hy
    obtain ⟨cs, rfl⟩ := hc rfl
    obtain ⟨n, t, l, e, ht, hl⟩ := fit_two hd
    simp only [Pv.cells] at e
    exact ⟨⟨n, l⟩, ⟨t, by rw [e], ht, hl⟩, trivial⟩)
  exact ⟨x, rfl, h1, l, hl, by rw [← hl.1]; exact h2⟩
theorem fit_guards {D : Type} {P : Program} (Y : TyT P) {d : DataW D} {cs : List Pv} (h : Fit (.slice 2 shX) d cs) (hw : Rch P 75 d) : ∃ x, cs = [x] ∧ IsL 2 x ∧ ∃ l : List Gd, L2 GdR (elemsP x) l := by
  obtain ⟨x, rfl⟩ := one_sl h
  obtain ⟨h1, h2, h3⟩ := fit_slR h Y.u75 Y.b80 hw
  obtain ⟨l, hl, -⟩ := l2_of (R := GdR) (p := fun _ => True) (ys := elemsP x) (fun y hy => by
    obtain ⟨⟨d', hd, -⟩, hc, -⟩ := h3 y hy
    obtain ⟨cs, rfl⟩ := hc rfl
    obtain ⟨n, t, l, e, ht, hl⟩ := fit_two hd
    simp only [Pv.cells] at e
    exact ⟨⟨n, l⟩, ⟨t, by rw [e], ht, hl⟩, trivial⟩)
  exact ⟨x, rfl, h1, l, hl⟩
theorem fit_steps {D : Type} {P : Program} (Y : TyT P) {d : DataW D} {cs : List Pv} (h : Fit (.slice 2 shP) d cs) (hw : Rch P 76 d) : ∃ x, cs = [x] ∧ IsL 2 x ∧ ∃ l : List Stp, L2 StpR (elemsP x) l ∧ ∀ s ∈ l, s.sets.length ≤ reachBytes := by
  obtain ⟨x, rfl⟩ := one_sl h
  obtain ⟨h1, h2, h3⟩ := fit_slR h Y.u76 Y.b83 hw
  obtain ⟨l, hl, hp⟩ := l2_of (R := StpR) (p := fun s => s.sets.length ≤ reachBytes) (ys := elemsP x) (fun y hy => by
    obtain ⟨⟨d', hd, hw'⟩, hc, -⟩ := h3 y hy
    obtain ⟨cs, rfl⟩ := hc rfl
    simp only [Pv.cells] at hd
    obtain ⟨ds, rfl, hw1⟩ := fit_aggR hd Y.a83 hw'
    obtain ⟨_, _, p, q, rfl, hp, hr, hq, hw2⟩ := fit_consR hd hw1
    obtain ⟨_, _, p', q', rfl, hp', hr', hq', hw3⟩ := fit_consR hq hw2
    obtain rfl := fit_struct_nil hq'
    obtain ⟨u, rfl, hu, l, hl, hn⟩ := fit_sets Y hp hr
    obtain ⟨n, rfl, -, -⟩ := fit_i64 hp'
    exact ⟨⟨l, n⟩, ⟨u, rfl, hu, hl⟩, hn⟩)
  exact ⟨x, rfl, h1, l, hl, hp⟩
theorem fit_rules {D : Type} {P : Program} (Y : TyT P) {d : DataW D} {cs : List Pv} (h : Fit (.slice 5 shR) d cs) (hw : Rch P 36 d) : ∃ x, cs = [x] ∧ IsL 5 x ∧ ∃ l : List Rl, L2 RlR (elemsP x) l ∧ l.length ≤ reachBytes ∧ ∀ r ∈ l, r.name.length ≤ reachBytes ∧ r.from_.length ≤ reachBytes ∧ ∀ s ∈ r.steps, s.sets.length ≤ reachBytes := by
  obtain ⟨x, rfl⟩ := one_sl h
  obtain ⟨h1, h2, h3⟩ := fit_slR h Y.u36 Y.b78 hw
  obtain ⟨l, hl, hp⟩ := l2_of (R := RlR) (p := fun r => r.name.length ≤ reachBytes ∧ r.from_.length ≤ reachBytes ∧ ∀ s ∈ r.steps, s.sets.length ≤ reachBytes) (ys := elemsP x) (fun y hy => by
    obtain ⟨⟨d', hd, hw'⟩, hc, -⟩ := h3 y hy
    obtain ⟨cs, rfl⟩ := hc rfl
    simp only [Pv.cells] at hd
    obtain ⟨ds, rfl, hw1⟩ := fit_aggR hd Y.a78 hw'
    obtain ⟨_, _, p1, q1, rfl, hp1, hr1, hq1, hw2⟩ := fit_consR hd hw1
    obtain ⟨_, _, p2, q2, rfl, hp2, hr2, hq2, hw3⟩ := fit_consR hq1 hw2
    obtain ⟨_, _, p3, q3, rfl, hp3, hr3, hq3, hw4⟩ := fit_consR hq2 hw3
    obtain ⟨_, _, p4, q4, rfl, hp4, hr4, hq4, hw5⟩ := fit_consR hq3 hw4
    obtain ⟨_, _, p5, q5, rfl, hp5, hr5, hq5, hw6⟩ := fit_consR hq4 hw5
    obtain rfl := fit_struct_nil hq5
    obtain ⟨nm, rfl, hnm⟩ := fit_strR hp1 hr1
    obtain ⟨n, rfl, -, -⟩ := fit_i64 hp2
    obtain ⟨f, rfl, f1, fl, f2, f3⟩ := int_sl hp3 Y.u35 Y.b3 hr3
    obtain ⟨g, rfl, g1, gl, g2⟩ := fit_guards Y hp4 hr4
    obtain ⟨s, rfl, s1, sl, s2, s3⟩ := fit_steps Y hp5 hr5
    exact ⟨⟨nm, n, fl, gl, sl⟩, ⟨f, g, s, rfl, f1, f2, g1, g2, s1, s2⟩, hnm, f3, s3⟩)
  exact ⟨x, rfl, h1, l, hl, by rw [← hl.1]; exact h2, hp⟩
theorem fit_table {D : Type} {P : Program} (Y : TyT P) {d : DataW D} {cs : List Pv} (h : Fit shT d cs) (hw : Rch P 38 d) : ∃ (t : Tb) (s v a q : Pv), cs = [s, v, a, q] ∧ TbP s v a q t ∧ TbB t := by
  obtain ⟨ds, rfl, hw1⟩ := fit_aggR h Y.a38 hw
  obtain ⟨_, _, p1, q1, rfl, hp1, hr1, hq1, hw2⟩ := fit_consR h hw1
  obtain ⟨_, _, p2, q2, rfl, hp2, hr2, hq2, hw3⟩ := fit_consR hq1 hw2
  obtain ⟨_, _, p3, q3, rfl, hp3, hr3, hq3, hw4⟩ := fit_consR hq2 hw3
  obtain ⟨_, _, p4, q4, rfl, hp4, hr4, hq4, hw5⟩ := fit_consR hq3 hw4
  obtain rfl := fit_struct_nil hq4
  obtain ⟨s, rfl, s1, sl, s2, s3⟩ := str_sl hp1 Y.u23 hr1
  obtain ⟨v, rfl, v1, vl, v2, v3⟩ := str_sl hp2 Y.u23 hr2
  obtain ⟨a, rfl, a1, al, a2, a3⟩ := int_sl hp3 Y.u35 Y.b3 hr3
  obtain ⟨q, rfl, q1, ql, q2, q3, q4⟩ := fit_rules Y hp4 hr4
  refine ⟨⟨sl, vl, al, ql⟩, s, v, a, q, rfl, ⟨s1, s2, v1, v2, a1, a2, q1, q2⟩, ?_⟩
  refine ⟨?_, ?_, ?_, ?_, ?_⟩
  · intro w hw
    simp only [List.mem_append, List.mem_map] at hw
    rcases hw with (hw | hw) | ⟨r, hr, rfl⟩
    · have := s3 w hw; omega
    · have := v3 w hw; omega
    · have := (q4 r hr).1; simp only [reachBytes] at this; omega
  · intro r hr
    have := (q4 r hr).2.1; simp only [reachBytes] at this; omega
  · intro r hr s hs
    have := (q4 r hr).2.2 s hs; simp only [reachBytes] at this; omega
  · simp only [reachBytes] at a3 ⊢; omega
  · simp only [reachBytes] at q3 ⊢; omega
end Go.Proofs.YtojpocfnjigmfaaDoor
