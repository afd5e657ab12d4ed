/-
  THE PROGRAM's CONTEXT for the abstract interpreter: its hints, its table of signs; that it is sound; that 'awake' answers true.
-/
import Derived.Test.YtkjpfmmpiapfaaaDoorAX12
import Derived.Test.YtkjpfmmpiapfaaaDoorProg
import Derived.KernelRfl
namespace Go.Proofs.YtkjpfmmpiapfaaaDoor
open Go Go.AX
def sgn : List (List UInt8) := [[], [], [], [], [], [], [43, 52], [45, 52], [42, 53], [], [], [60, 51], [60, 61, 51], [61, 51], [38, 50], [124, 49]]
def hints : FuncId → List (Nat × RH) := fun f => match f with
  | 9 => [(10, { ops := [(1, 1)] }), (11, { ops := [(3, 1)] }), (19, { ops := [(1, 1)] }), (28, { ops := [(1, 1)] }), (34, { ops := [(1, 1)] })]
  | 14 => [(2, { ops := [(1, 1)] }), (3, { ops := [(1, 1)] }), (4, { ops := [(1, 1)] }), (5, { ops := [(1, 1)] }), (6, { ops := [(4, 1)] }), (7, { ops := [(5, 1)] })]
  | 23 => [(6, { ops := [(3, 2), (11, 2)] }), (7, { ops := [(7, 3), (11, 4)] })]
  | 29 => [(1, { ops := [(5, 1)] }), (6, { ops := [(2, 1)] }), (8, { ops := [(2, 1)] }), (10, { ops := [(2, 1)] }), (13, { ops := [(2, 1)] })]
  | 30 => [(0, { ops := [(3, 1)] })]
  | 43 => [(0, { ops := [(1, 1)] }), (10, { ops := [(1, 1)] }), (11, { ops := [(1, 1)] }), (12, { ops := [(2, 1)] })]
  | 44 => [(0, { ops := [(3, 1)] })]
  | 47 => [(0, { ops := [(3, 1)] })]
  | 48 => [(0, { ops := [(3, 1)] })]
  | 49 => [(0, { ops := [(3, 1)] })]
  | 50 => [(0, { ops := [(1, 1)] }), (3, { ops := [(1, 1)] }), (4, { ops := [(2, 1)] }), (9, { ops := [(1, 1)] }), (10, { ops := [(1, 1)] }), (11, { ops := [(2, 1)] })]
  | 51 => [(7, { ops := [(2, 1)] }), (8, { ops := [(4, 1)] }), (9, { ops := [(1, 1)] })]
  | 52 => [(2, { ops := [(5, 1)] }), (4, { ops := [(5, 1)] }), (6, { ops := [(5, 1)] }), (10, { ops := [(5, 1)] }), (14, { ops := [(1, 1)] }), (15, { ops := [(1, 1)] }), (16, { ops := [(1, 1)] }), (18, { ops := [(3, 1)] }), (20, { ops := [(2, 1)] })]
  | 53 => [(1, { ops := [(5, 1)] }), (2, { ops := [(1, 1)] })]
  | 54 => [(0, { ops := [(1, 1)] }), (1, { ops := [(1, 1)] }), (2, { ops := [(1, 1)] }), (3, { ops := [(1, 1)] }), (4, { ops := [(1, 1)] }), (8, { ops := [(1, 1)] }), (9, { ops := [(2, 1)] })]
  | 55 => [(4, { ops := [(2, 1)] }), (5, { ops := [(1, 1)] }), (7, { ops := [(5, 1)] })]
  | _ => []
def tys : List (Nat × TI) := [
  (1, { kd := Kd.func, size := 1, agg := false, zero := [Pv.nilf], eq := none }),
  (3, { kd := Kd.int IntKind.i64, size := 1, agg := false, zero := [Pv.int IntKind.i64 (Int.ofNat 0)], eq := none }),
  (4, { kd := Kd.bool, size := 1, agg := false, zero := [Pv.bool false], eq := none }),
  (5, { kd := Kd.int IntKind.u8, size := 1, agg := false, zero := [Pv.int IntKind.u8 (Int.ofNat 0)], eq := none }),
  (9, { kd := Kd.str, size := 1, agg := false, zero := [Pv.str []], eq := none }),
  (22, { kd := Kd.slice 41 2 16 true false, size := 1, agg := false, zero := [Pv.nils], eq := none }),
  (23, { kd := Kd.slice 9 1 16 false false, size := 1, agg := false, zero := [Pv.nils], eq := none }),
  (26, { kd := Kd.int IntKind.i64, size := 1, agg := false, zero := [Pv.int IntKind.i64 (Int.ofNat 0)], eq := none }),
  (38, { kd := Kd.slice 43 3 24 true false, size := 1, agg := false, zero := [Pv.nils], eq := none }),
  (41, { kd := Kd.struct [{ off := 0, size := 1, agg := false }, { off := 1, size := 1, agg := false }], size := 2, agg := true, zero := [Pv.int IntKind.i64 (Int.ofNat 0), Pv.int IntKind.i64 (Int.ofNat 0)], eq := some [1, 1] }),
  (43, { kd := Kd.struct [{ off := 0, size := 1, agg := false }, { off := 1, size := 1, agg := false }, { off := 2, size := 1, agg := false }], size := 3, agg := true, zero := [Pv.str [], Pv.int IntKind.u8 (Int.ofNat 0), Pv.bool false], eq := some [2, 1, 0] }),
  (48, { kd := Kd.slice 50 3 40 true false, size := 1, agg := false, zero := [Pv.nils], eq := none }),
  (50, { kd := Kd.struct [{ off := 0, size := 2, agg := true }, { off := 2, size := 1, agg := false }], size := 3, agg := true, zero := [Pv.int IntKind.i64 (Int.ofNat 0), Pv.int IntKind.i64 (Int.ofNat 0), Pv.nils], eq := none }),
  (52, { kd := Kd.func, size := 1, agg := false, zero := [Pv.nilf], eq := none }),
  (54, { kd := Kd.ptr, size := 1, agg := false, zero := [Pv.nilp], eq := none }),
  (56, { kd := Kd.struct [{ off := 0, size := 1, agg := false }, { off := 1, size := 1, agg := false }, { off := 2, size := 1, agg := false }, { off := 3, size := 1, agg := false }, { off := 4, size := 1, agg := false }, { off := 5, size := 1, agg := false }, { off := 6, size := 1, agg := false }, { off := 7, size := 1, agg := false }, { off := 8, size := 1, agg := false }], size := 9, agg := true, zero := [Pv.str [], Pv.int IntKind.i64 (Int.ofNat 0), Pv.int IntKind.i64 (Int.ofNat 0), Pv.str [], Pv.nils, Pv.int IntKind.i64 (Int.ofNat 0), Pv.nils, Pv.int IntKind.i64 (Int.ofNat 0), Pv.int IntKind.i64 (Int.ofNat 0)], eq := none }),
  (61, { kd := Kd.array 16 1 false, size := 16, agg := true, zero := [Pv.str [], Pv.str [], Pv.str [], Pv.str [], Pv.str [], Pv.str [], Pv.str [], Pv.str [], Pv.str [], Pv.str [], Pv.str [], Pv.str [], Pv.str [], Pv.str [], Pv.str [], Pv.str []], eq := none }),
  (67, { kd := Kd.slice 5 1 1 false true, size := 1, agg := false, zero := [Pv.nils], eq := none }),
  (68, { kd := Kd.slice 3 1 8 false false, size := 1, agg := false, zero := [Pv.nils], eq := none })]
theorem tysOk : TOK Tryd.prog (lookT tys) := tok_of ⟨by kernel_rfl, by kernel_rfl, by kernel_rfl, by kernel_rfl, by kernel_rfl, by kernel_rfl, by kernel_rfl, by kernel_rfl, by kernel_rfl, by kernel_rfl, by kernel_rfl, by kernel_rfl, by kernel_rfl, by kernel_rfl, by kernel_rfl, by kernel_rfl, by kernel_rfl, by kernel_rfl, by kernel_rfl, trivial⟩
noncomputable def cx : Cx := mkCx Tryd.prog (lookT tys) hints fun g => match g with
  | 0 => some (sgn.map .str)
  | _ => none
theorem cxOk : CxOK Tryd.prog cx := mkCx_ok (n := 400) tysOk (by kernel_rfl) (by kernel_rfl)
theorem awake_map : (call cx 2000 8 [] []).map (·.1) = some (.p (.bool true)) := by kernel_rfl
theorem awake_run : ∃ H', call cx 2000 8 [] [] = some (.p (.bool true), H') := by
  have h := awake_map
  cases hc : call cx 2000 8 [] [] with
  | none => rw [hc] at h; cases h
  | some x =>
    obtain ⟨v, H'⟩ := x
    rw [hc] at h
    cases h
    exact ⟨H', rfl⟩
theorem T1 : cx.T 1 = some { kd := Kd.func, size := 1, agg := false, zero := [Pv.nilf], eq := none } := rfl
theorem T3 : cx.T 3 = some { kd := Kd.int IntKind.i64, size := 1, agg := false, zero := [Pv.int IntKind.i64 (Int.ofNat 0)], eq := none } := rfl
theorem T4 : cx.T 4 = some { kd := Kd.bool, size := 1, agg := false, zero := [Pv.bool false], eq := none } := rfl
theorem T5 : cx.T 5 = some { kd := Kd.int IntKind.u8, size := 1, agg := false, zero := [Pv.int IntKind.u8 (Int.ofNat 0)], eq := none } := rfl
theorem T9 : cx.T 9 = some { kd := Kd.str, size := 1, agg := false, zero := [Pv.str []], eq := none } := rfl
theorem T22 : cx.T 22 = some { kd := Kd.slice 41 2 16 true false, size := 1, agg := false, zero := [Pv.nils], eq := none } := rfl
theorem T23 : cx.T 23 = some { kd := Kd.slice 9 1 16 false false, size := 1, agg := false, zero := [Pv.nils], eq := none } := rfl
theorem T26 : cx.T 26 = some { kd := Kd.int IntKind.i64, size := 1, agg := false, zero := [Pv.int IntKind.i64 (Int.ofNat 0)], eq := none } := rfl
theorem T38 : cx.T 38 = some { kd := Kd.slice 43 3 24 true false, size := 1, agg := false, zero := [Pv.nils], eq := none } := rfl
theorem T41 : cx.T 41 = some { kd := Kd.struct [{ off := 0, size := 1, agg := false }, { off := 1, size := 1, agg := false }], size := 2, agg := true, zero := [Pv.int IntKind.i64 (Int.ofNat 0), Pv.int IntKind.i64 (Int.ofNat 0)], eq := some [1, 1] } := rfl
theorem T43 : cx.T 43 = some { kd := Kd.struct [{ off := 0, size := 1, agg := false }, { off := 1, size := 1, agg := false }, { off := 2, size := 1, agg := false }], size := 3, agg := true, zero := [Pv.str [], Pv.int IntKind.u8 (Int.ofNat 0), Pv.bool false], eq := some [2, 1, 0] } := rfl
theorem T48 : cx.T 48 = some { kd := Kd.slice 50 3 40 true false, size := 1, agg := false, zero := [Pv.nils], eq := none } := rfl
theorem T50 : cx.T 50 = some { kd := Kd.struct [{ off := 0, size := 2, agg := true }, { off := 2, size := 1, agg := false }], size := 3, agg := true, zero := [Pv.int IntKind.i64 (Int.ofNat 0), Pv.int IntKind.i64 (Int.ofNat 0), Pv.nils], eq := none } := rfl
theorem T52 : cx.T 52 = some { kd := Kd.func, size := 1, agg := false, zero := [Pv.nilf], eq := none } := rfl
theorem T54 : cx.T 54 = some { kd := Kd.ptr, size := 1, agg := false, zero := [Pv.nilp], eq := none } := rfl
theorem T56 : cx.T 56 = some { kd := Kd.struct [{ off := 0, size := 1, agg := false }, { off := 1, size := 1, agg := false }, { off := 2, size := 1, agg := false }, { off := 3, size := 1, agg := false }, { off := 4, size := 1, agg := false }, { off := 5, size := 1, agg := false }, { off := 6, size := 1, agg := false }, { off := 7, size := 1, agg := false }, { off := 8, size := 1, agg := false }], size := 9, agg := true, zero := [Pv.str [], Pv.int IntKind.i64 (Int.ofNat 0), Pv.int IntKind.i64 (Int.ofNat 0), Pv.str [], Pv.nils, Pv.int IntKind.i64 (Int.ofNat 0), Pv.nils, Pv.int IntKind.i64 (Int.ofNat 0), Pv.int IntKind.i64 (Int.ofNat 0)], eq := none } := rfl
theorem T61 : cx.T 61 = some { kd := Kd.array 16 1 false, size := 16, agg := true, zero := [Pv.str [], Pv.str [], Pv.str [], Pv.str [], Pv.str [], Pv.str [], Pv.str [], Pv.str [], Pv.str [], Pv.str [], Pv.str [], Pv.str [], Pv.str [], Pv.str [], Pv.str [], Pv.str []], eq := none } := rfl
theorem T67 : cx.T 67 = some { kd := Kd.slice 5 1 1 false true, size := 1, agg := false, zero := [Pv.nils], eq := none } := rfl
theorem T68 : cx.T 68 = some { kd := Kd.slice 3 1 8 false false, size := 1, agg := false, zero := [Pv.nils], eq := none } := rfl
end Go.Proofs.YtkjpfmmpiapfaaaDoor
