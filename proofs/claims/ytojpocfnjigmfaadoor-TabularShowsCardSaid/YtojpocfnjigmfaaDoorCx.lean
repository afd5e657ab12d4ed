/-
  THE PROGRAM's CONTEXT for the abstract interpreter: its hints, its tables of texts; that it is sound; that 'awake' answers true.
-/
import Derived.Test.YtojpocfnjigmfaaDoorAX19
import Derived.Test.YtojpocfnjigmfaaDoorAX23
import Derived.Test.YtojpocfnjigmfaaDoorProg
import Derived.KernelRfl
namespace Go.Proofs.YtojpocfnjigmfaaDoor
open Go Go.AX
def sgn : List (List UInt8) := [[], [], [], [], [], [], [43, 52], [45, 52], [42, 53], [], [], [60, 51], [60, 61, 51], [61, 51], [38, 50], [124, 49]]
def hints : FuncId → List (Nat × RH) := fun f => match f with
  | 3 => [(2, { live := some [0, 1, 2, 7] }), (4, { live := some [0, 1, 2, 7], trunc := some 0 })]
  | 11 => [(6, { live := some [1, 10, 11, 33, 34, 35] }), (10, { ops := [(1, 1)] }), (11, { ops := [(3, 1)] }), (19, { ops := [(1, 1)] }), (28, { ops := [(1, 1)] }), (34, { ops := [(1, 1)] }), (36, { live := some [1, 10, 11, 33, 34, 35], trunc := some 3 })]
  | 13 => [(1, { live := some [0, 3] }), (3, { live := some [0, 3] }), (4, { live := some [0, 3, 4] }), (6, { live := some [0, 3, 4] })]
  | 14 => [(4, { ops := [(1, 1)] }), (5, { ops := [(1, 1)] }), (7, { ops := [(5, 1)] })]
  | 15 => [(3, { live := some [0, 1, 5] }), (5, { live := some [0, 1, 5] })]
  | 16 => [(0, { ops := [(0, 2)] }), (5, { ops := [(3, 1)] }), (7, { live := some [1, 5, 6, 34, 35, 36] }), (11, { live := some [1, 5, 6, 34, 35, 36] }), (12, { ops := [(1, 4), (2, 1)], live := some [1, 5], trunc := some 3 }), (13, { live := some [1, 5, 58, 59, 60] }), (19, { live := some [1, 5, 10, 11, 58, 59, 60, 78, 79, 80] }), (23, { live := some [1, 5, 10, 11, 58, 59, 60, 78, 79, 80] }), (24, { ops := [(1, 4), (2, 1)], live := some [1, 5, 10, 58, 59, 60], trunc := some 4 }), (25, { live := some [1, 5, 10, 58, 59, 60, 97, 98, 99] }), (29, { ops := [(6, 1)] }), (30, { live := some [1, 5, 10, 58, 59, 60, 97, 98, 99], trunc := some 4 }), (31, { live := some [1, 5, 10, 58, 59, 60, 122, 123, 124] }), (34, { ops := [(7, 1)] }), (35, { live := some [1, 5, 10, 58, 59, 60, 122, 123, 124], trunc := some 4 }), (36, { live := some [1, 5, 58, 59, 60], trunc := some 3 }), (37, { ops := [(4, 4)] })]
  | 17 => [(0, { ops := [(0, 2)] }), (11, { live := some [1, 2, 4] }), (13, { live := some [1, 2, 4] }), (18, { live := some [1, 2, 5] }), (20, { live := some [1, 2, 5], trunc := some 2 }), (24, { live := some [1, 2, 5, 6, 7] }), (26, { live := some [1, 2, 5, 6, 7] })]
  | 19 => [(0, { ops := [(0, 2)] }), (2, { live := some [1, 3, 4] }), (4, { live := some [1, 3, 4] }), (7, { live := some [1, 3, 5] }), (9, { live := some [1, 3, 5] }), (15, { live := some [1, 3, 7] }), (17, { live := some [1, 3, 7], trunc := some 0 }), (20, { live := some [1, 3, 7, 8, 9] }), (22, { live := some [1, 3, 7, 8, 9] }), (27, { live := some [1, 3, 7, 8, 10] }), (29, { live := some [1, 3, 7, 8, 10] }), (31, { live := some [1, 3, 7, 8, 11] }), (33, { live := some [1, 3, 7, 8, 11], trunc := some 1 }), (39, { live := some [1, 3, 7, 8, 11, 12, 13] }), (41, { live := some [1, 3, 7, 8, 11, 12, 13] })]
  | 20 => [(5, { live := some [2, 5, 6, 20, 21, 22] }), (10, { ops := [(2, 1)] }), (13, { live := some [2, 5, 6, 20, 21, 22] })]
  | 21 => [(3, { live := some [2, 3, 5] }), (5, { live := some [2, 3, 5] })]
  | 22 => [(0, { ops := [(0, 2)] }), (2, { live := some [1, 2, 3, 4] }), (4, { live := some [1, 2, 3, 4] })]
  | 23 => [(3, { live := some [0, 24, 25] }), (8, { live := some [0, 24, 25] })]
  | 24 => [(6, { live := some [0, 1, 2, 8, 23, 24, 25] }), (17, { live := some [0, 1, 2, 8, 23, 24, 25], trunc := some 0 })]
  | 29 => [(6, { live := some [0, 1, 2, 8, 9] }), (8, { live := some [0, 1, 2, 8, 9], trunc := some 0 })]
  | 31 => [(2, { live := some [0, 2, 3, 4] }), (4, { live := some [0, 2, 3, 4], trunc := some 1 }), (6, { ops := [(3, 2), (11, 2)] }), (7, { ops := [(7, 3), (11, 4)] })]
  | 32 => [(3, { live := some [0, 3] }), (5, { live := some [0, 3] })]
  | 33 => [(1, { ops := [(5, 1)] }), (6, { ops := [(2, 1)] }), (8, { ops := [(2, 1)] }), (10, { ops := [(2, 1)] }), (13, { ops := [(2, 1)] })]
  | 34 => [(0, { ops := [(3, 1)] })]
  | 36 => [(1, { live := some [0, 17, 18, 19] }), (5, { live := some [0, 17, 18, 19] })]
  | 38 => [(0, { ops := [(0, 2), (1, 2)] }), (4, { live := some [2, 3, 7, 22, 23, 24] }), (11, { live := some [2, 3, 7, 22, 23, 24], trunc := some 0 })]
  | 39 => [(3, { live := some [0, 4, 5] }), (5, { live := some [0, 4, 5] }), (8, { live := some [0, 4, 5, 6] }), (10, { live := some [0, 4, 5, 6] })]
  | 41 => [(0, { ops := [(0, 2)] }), (2, { live := some [1, 2, 4, 5, 6] }), (4, { live := some [1, 2, 4, 5, 6] }), (7, { live := some [1, 2, 4, 5, 6, 7] }), (9, { live := some [1, 2, 4, 5, 6, 7] }), (14, { live := some [1, 2, 4, 5, 8] }), (16, { live := some [1, 2, 4, 5, 8] }), (24, { live := some [1, 2, 4, 5, 10] }), (26, { live := some [1, 2, 4, 5, 10] })]
  | 44 => [(0, { ops := [(0, 2)] })]
  | 45 => [(3, { live := some [0, 1, 5, 6, 9, 10] }), (9, { live := some [0, 1, 5, 6, 9, 10] })]
  | 46 => [(1, { live := some [0, 4] }), (2, { live := some [0, 4, 15] }), (4, { live := some [0, 4, 5] }), (5, { live := some [0, 4, 5, 28] })]
  | 47 => [(0, { ops := [(0, 2)] }), (4, { ops := [(0, 2)] }), (6, { ops := [(0, 2), (1, 2), (2, 2), (5, 1)] }), (8, { ops := [(0, 2)] }), (9, { ops := [(0, 2)] }), (10, { ops := [(0, 2), (2, 1)] }), (11, { ops := [(0, 2)] }), (12, { ops := [(0, 2), (2, 1)] }), (13, { ops := [(0, 2), (11, 1)] }), (14, { ops := [(0, 2), (2, 1), (4, 1)] }), (15, { ops := [(0, 2), (11, 1)] }), (16, { ops := [(0, 2), (2, 1), (4, 1)] })]
  | 48 => [(3, { live := some [0, 1, 5] }), (5, { live := some [0, 1, 5] })]
  | 49 => [(3, { live := some [0, 1, 5] }), (5, { live := some [0, 1, 5] })]
  | 50 => [(3, { live := some [2, 3, 5] }), (5, { live := some [2, 3, 5] }), (8, { live := some [2, 3, 6] }), (10, { live := some [2, 3, 6] })]
  | 51 => [(0, { ops := [(0, 2)] }), (12, { live := some [1, 2, 3, 54, 55, 56] }), (17, { live := some [1, 2, 3, 54, 55, 56] })]
  | 52 => [(0, { ops := [(0, 2), (1, 2)] })]
  | 65 => [(0, { live := some [0, 1, 2] }), (2, { live := some [0, 1, 2] })]
  | 68 => [(0, { ops := [(1, 1)], live := some [0, 1, 2, 3] }), (3, { live := some [0, 1, 2, 3, 8, 18, 19] }), (8, { live := some [0, 1, 2, 3, 8, 18, 19] }), (10, { ops := [(1, 1)] }), (11, { ops := [(1, 1)] }), (12, { ops := [(2, 1)] }), (13, { live := some [0, 1, 2, 3, 57] })]
  | 69 => [(0, { ops := [(3, 1)] })]
  | 70 => [(0, { ops := [(0, 2), (1, 2)] })]
  | 71 => [(0, { ops := [(0, 2), (1, 2)] }), (3, { live := some [2, 3, 4, 7] }), (5, { live := some [2, 3, 4, 7], trunc := some 0 }), (9, { live := some [2, 3, 4, 7, 8, 9] }), (11, { live := some [2, 3, 4, 7, 8, 9] })]
  | 76 => [(2, { live := some [3, 7, 8, 9] }), (7, { live := some [3, 7, 8, 9] })]
  | 78 => [(1, { live := some [0, 6, 7, 8] }), (6, { live := some [0, 6, 7, 8] })]
  | 79 => [(2, { live := some [3, 9, 10, 11] }), (8, { live := some [3, 9, 10, 11] })]
  | 80 => [(1, { live := some [0, 10, 11, 12] }), (10, { ops := [(16, 3)] }), (11, { live := some [0, 10, 11, 12] }), (12, { ops := [(6, 1)] })]
  | 81 => [(10, { live := some [0, 7, 49, 50, 51] }), (13, { ops := [(5, 1)] }), (17, { live := some [0, 7, 49, 50, 51] }), (18, { ops := [(5, 3), (7, 4)] })]
  | 82 => [(5, { ops := [(6, 1)] })]
  | 83 => [(4, { ops := [(5, 1)] }), (9, { live := some [0, 1, 9, 43, 44, 45] }), (12, { ops := [(3, 1)] }), (16, { live := some [0, 1, 9, 43, 44, 45] }), (17, { ops := [(6, 4)] })]
  | 84 => [(3, { live := some [0, 1, 5] }), (5, { live := some [0, 1, 5] })]
  | 86 => [(3, { live := some [0, 14, 15, 16] }), (8, { live := some [0, 6, 7, 14, 15, 16, 27, 28, 29] }), (13, { live := some [0, 6, 7, 14, 15, 16, 27, 28, 29] }), (14, { live := some [0, 14, 15, 16] })]
  | 89 => [(0, { ops := [(0, 2)] }), (1, { live := some [1, 8, 9, 10] }), (6, { live := some [1, 8, 9, 10], trunc := some 0 })]
  | 90 => [(1, { live := some [0, 1, 10, 11, 12] }), (6, { live := some [0, 1, 6, 7, 10, 11, 12, 27, 28, 29] }), (11, { live := some [0, 1, 6, 7, 10, 11, 12, 27, 28, 29] }), (12, { live := some [0, 1, 10, 11, 12] })]
  | 91 => [(3, { live := some [1, 2, 15, 16, 17] }), (11, { live := some [1, 2, 15, 16, 17], trunc := some 0 })]
  | 92 => [(0, { ops := [(0, 2)] }), (5, { live := some [2, 4, 19, 20, 21] }), (13, { live := some [2, 4, 19, 20, 21], trunc := some 0 })]
  | 95 => [(0, { ops := [(3, 1)] })]
  | 97 => [(5, { live := some [0, 6, 7, 28, 29] }), (11, { live := some [0, 6, 7, 28, 29] })]
  | 99 => [(1, { ops := [(7, 4)] })]
  | 100 => [(2, { ops := [(5, 1)] }), (8, { ops := [(6, 1)] })]
  | 101 => [(1, { live := some [0, 1, 2, 13, 14, 15] }), (6, { live := some [0, 1, 2, 8, 13, 14, 15, 31, 32, 33] }), (11, { live := some [0, 1, 2, 8, 13, 14, 15, 31, 32, 33], trunc := some 1 }), (15, { live := some [0, 1, 2, 13, 14, 15], trunc := some 0 })]
  | 102 => [(0, { ops := [(3, 1)] })]
  | 103 => [(0, { ops := [(3, 1)] })]
  | 104 => [(0, { ops := [(1, 1)] }), (3, { ops := [(1, 1)] }), (4, { ops := [(2, 1)] }), (9, { ops := [(1, 1)] }), (10, { ops := [(1, 1)] }), (11, { ops := [(2, 1)] })]
  | 105 => [(1, { live := some [0, 1, 2, 6, 12, 13] }), (5, { live := some [0, 1, 2, 6, 12, 13] }), (7, { ops := [(2, 1)] }), (8, { ops := [(4, 1)] }), (9, { ops := [(1, 1)] })]
  | 106 => [(2, { ops := [(5, 1)] }), (4, { ops := [(5, 1)] }), (6, { ops := [(5, 1)] }), (10, { ops := [(5, 1)] }), (11, { ops := [(2, 1)] }), (12, { ops := [(1, 1)] }), (14, { ops := [(1, 1)] }), (15, { ops := [(1, 1)] }), (16, { ops := [(1, 1)] }), (18, { ops := [(3, 1)] }), (20, { ops := [(2, 1)] })]
  | 107 => [(1, { ops := [(5, 1)] }), (2, { ops := [(1, 1)] })]
  | 108 => [(0, { ops := [(1, 1)] }), (1, { ops := [(1, 1)] }), (2, { ops := [(1, 1)] }), (3, { ops := [(1, 1)] }), (4, { ops := [(1, 1)] }), (6, { ops := [(1, 1)] }), (7, { ops := [(1, 1)] }), (8, { ops := [(1, 1)] }), (9, { ops := [(2, 1)] })]
  | 109 => [(0, { live := some [0, 1, 9, 10, 11] }), (4, { ops := [(2, 1)] }), (5, { ops := [(1, 1)] }), (6, { live := some [0, 1, 9, 10, 11] }), (7, { ops := [(5, 1)] })]
  | _ => []
def tys : List (Nat × TI) := [
  (3, { kd := Kd.int IntKind.i64, size := 1, agg := false, zero := [Pv.int IntKind.i64 (Int.ofNat 0)], zv := some (Pv.int IntKind.i64 (Int.ofNat 0)), eq := none }),
  (4, { kd := Kd.bool, size := 1, agg := false, zero := [Pv.bool false], zv := some (Pv.bool false), eq := none }),
  (5, { kd := Kd.int IntKind.u8, size := 1, agg := false, zero := [Pv.int IntKind.u8 (Int.ofNat 0)], zv := some (Pv.int IntKind.u8 (Int.ofNat 0)), eq := none }),
  (9, { kd := Kd.str, size := 1, agg := false, zero := [Pv.str []], zv := some (Pv.str []), eq := none }),
  (22, { kd := Kd.slice 54 2 16 true false, size := 1, agg := false, zero := [Pv.nils], zv := some Pv.nils, eq := none }),
  (23, { kd := Kd.slice 9 1 16 false false, size := 1, agg := false, zero := [Pv.nils], zv := some Pv.nils, eq := none }),
  (26, { kd := Kd.int IntKind.i64, size := 1, agg := false, zero := [Pv.int IntKind.i64 (Int.ofNat 0)], zv := some (Pv.int IntKind.i64 (Int.ofNat 0)), eq := none }),
  (35, { kd := Kd.slice 3 1 8 false false, size := 1, agg := false, zero := [Pv.nils], zv := some Pv.nils, eq := none }),
  (36, { kd := Kd.slice 78 5 96 true false, size := 1, agg := false, zero := [Pv.nils], zv := some Pv.nils, eq := none }),
  (38, { kd := Kd.struct [{ off := 0, size := 1, agg := false }, { off := 1, size := 1, agg := false }, { off := 2, size := 1, agg := false }, { off := 3, size := 1, agg := false }], size := 4, agg := true, zero := [Pv.nils, Pv.nils, Pv.nils, Pv.nils], zv := some (Pv.agg [Pv.nils, Pv.nils, Pv.nils, Pv.nils]), eq := none }),
  (41, { kd := Kd.struct [{ off := 0, size := 1, agg := false }, { off := 1, size := 1, agg := false }, { off := 2, size := 1, agg := false }, { off := 3, size := 1, agg := false }], size := 4, agg := true, zero := [Pv.int IntKind.i64 (Int.ofNat 0), Pv.int IntKind.i64 (Int.ofNat 0), Pv.int IntKind.i64 (Int.ofNat 0), Pv.int IntKind.i64 (Int.ofNat 0)], zv := some (Pv.agg [Pv.int IntKind.i64 (Int.ofNat 0), Pv.int IntKind.i64 (Int.ofNat 0), Pv.int IntKind.i64 (Int.ofNat 0), Pv.int IntKind.i64 (Int.ofNat 0)]), eq := some [1, 1, 1, 1] }),
  (51, { kd := Kd.slice 56 3 24 true false, size := 1, agg := false, zero := [Pv.nils], zv := some Pv.nils, eq := none }),
  (54, { kd := Kd.struct [{ off := 0, size := 1, agg := false }, { off := 1, size := 1, agg := false }], size := 2, agg := true, zero := [Pv.int IntKind.i64 (Int.ofNat 0), Pv.int IntKind.i64 (Int.ofNat 0)], zv := some (Pv.agg [Pv.int IntKind.i64 (Int.ofNat 0), Pv.int IntKind.i64 (Int.ofNat 0)]), eq := some [1, 1] }),
  (56, { kd := Kd.struct [{ off := 0, size := 1, agg := false }, { off := 1, size := 1, agg := false }, { off := 2, size := 1, agg := false }], size := 3, agg := true, zero := [Pv.str [], Pv.int IntKind.u8 (Int.ofNat 0), Pv.bool false], zv := some (Pv.agg [Pv.str [], Pv.int IntKind.u8 (Int.ofNat 0), Pv.bool false]), eq := some [2, 1, 0] }),
  (61, { kd := Kd.slice 63 3 40 true false, size := 1, agg := false, zero := [Pv.nils], zv := some Pv.nils, eq := none }),
  (63, { kd := Kd.struct [{ off := 0, size := 2, agg := true }, { off := 2, size := 1, agg := false }], size := 3, agg := true, zero := [Pv.int IntKind.i64 (Int.ofNat 0), Pv.int IntKind.i64 (Int.ofNat 0), Pv.nils], zv := some (Pv.agg [Pv.int IntKind.i64 (Int.ofNat 0), Pv.int IntKind.i64 (Int.ofNat 0), Pv.nils]), eq := none }),
  (67, { kd := Kd.struct [{ off := 0, size := 1, agg := false }, { off := 1, size := 1, agg := false }, { off := 2, size := 1, agg := false }, { off := 3, size := 1, agg := false }, { off := 4, size := 1, agg := false }, { off := 5, size := 1, agg := false }, { off := 6, size := 1, agg := false }, { off := 7, size := 1, agg := false }, { off := 8, size := 1, agg := false }], size := 9, agg := true, zero := [Pv.str [], Pv.int IntKind.i64 (Int.ofNat 0), Pv.int IntKind.i64 (Int.ofNat 0), Pv.str [], Pv.nils, Pv.int IntKind.i64 (Int.ofNat 0), Pv.nils, Pv.int IntKind.i64 (Int.ofNat 0), Pv.int IntKind.i64 (Int.ofNat 0)], zv := some (Pv.agg [Pv.str [], Pv.int IntKind.i64 (Int.ofNat 0), Pv.int IntKind.i64 (Int.ofNat 0), Pv.str [], Pv.nils, Pv.int IntKind.i64 (Int.ofNat 0), Pv.nils, Pv.int IntKind.i64 (Int.ofNat 0), Pv.int IntKind.i64 (Int.ofNat 0)]), eq := none }),
  (70, { kd := Kd.slice 5 1 1 false true, size := 1, agg := false, zero := [Pv.nils], zv := some Pv.nils, eq := none }),
  (72, { kd := Kd.struct [{ off := 0, size := 1, agg := false }], size := 1, agg := true, zero := [Pv.nils], zv := some (Pv.agg [Pv.nils]), eq := none }),
  (75, { kd := Kd.slice 80 2 32 true false, size := 1, agg := false, zero := [Pv.nils], zv := some Pv.nils, eq := none }),
  (76, { kd := Kd.slice 83 2 32 true false, size := 1, agg := false, zero := [Pv.nils], zv := some Pv.nils, eq := none }),
  (78, { kd := Kd.struct [{ off := 0, size := 1, agg := false }, { off := 1, size := 1, agg := false }, { off := 2, size := 1, agg := false }, { off := 3, size := 1, agg := false }, { off := 4, size := 1, agg := false }], size := 5, agg := true, zero := [Pv.str [], Pv.int IntKind.i64 (Int.ofNat 0), Pv.nils, Pv.nils, Pv.nils], zv := some (Pv.agg [Pv.str [], Pv.int IntKind.i64 (Int.ofNat 0), Pv.nils, Pv.nils, Pv.nils]), eq := none }),
  (80, { kd := Kd.struct [{ off := 0, size := 1, agg := false }, { off := 1, size := 1, agg := false }], size := 2, agg := true, zero := [Pv.int IntKind.i64 (Int.ofNat 0), Pv.nils], zv := some (Pv.agg [Pv.int IntKind.i64 (Int.ofNat 0), Pv.nils]), eq := none }),
  (81, { kd := Kd.slice 93 2 32 true false, size := 1, agg := false, zero := [Pv.nils], zv := some Pv.nils, eq := none }),
  (83, { kd := Kd.struct [{ off := 0, size := 1, agg := false }, { off := 1, size := 1, agg := false }], size := 2, agg := true, zero := [Pv.nils, Pv.int IntKind.i64 (Int.ofNat 0)], zv := some (Pv.agg [Pv.nils, Pv.int IntKind.i64 (Int.ofNat 0)]), eq := none }),
  (86, { kd := Kd.struct [{ off := 0, size := 1, agg := false }, { off := 1, size := 1, agg := false }], size := 2, agg := true, zero := [Pv.int IntKind.i64 (Int.ofNat 0), Pv.int IntKind.i64 (Int.ofNat 0)], zv := some (Pv.agg [Pv.int IntKind.i64 (Int.ofNat 0), Pv.int IntKind.i64 (Int.ofNat 0)]), eq := some [1, 1] }),
  (93, { kd := Kd.struct [{ off := 0, size := 1, agg := false }, { off := 1, size := 1, agg := false }], size := 2, agg := true, zero := [Pv.int IntKind.i64 (Int.ofNat 0), Pv.nils], zv := some (Pv.agg [Pv.int IntKind.i64 (Int.ofNat 0), Pv.nils]), eq := none }),
  (95, { kd := Kd.ptr, size := 1, agg := false, zero := [Pv.nilp], zv := some Pv.nilp, eq := none }),
  (96, { kd := Kd.map 9 3, size := 1, agg := false, zero := [Pv.nilm], zv := some Pv.nilm, eq := none }),
  (98, { kd := Kd.struct [{ off := 0, size := 4, agg := true }, { off := 4, size := 1, agg := false }, { off := 5, size := 1, agg := false }, { off := 6, size := 1, agg := false }], size := 7, agg := true, zero := [Pv.nils, Pv.nils, Pv.nils, Pv.nils, Pv.nilm, Pv.nilm, Pv.int IntKind.i64 (Int.ofNat 0)], zv := some (Pv.agg [Pv.nils, Pv.nils, Pv.nils, Pv.nils, Pv.nilm, Pv.nilm, Pv.int IntKind.i64 (Int.ofNat 0)]), eq := none }),
  (109, { kd := Kd.array 16 1 false, size := 16, agg := true, zero := [Pv.str [], Pv.str [], Pv.str [], Pv.str [], Pv.str [], Pv.str [], Pv.str [], Pv.str [], Pv.str [], Pv.str [], Pv.str [], Pv.str [], Pv.str [], Pv.str [], Pv.str [], Pv.str []], zv := some (Pv.agg [Pv.str [], Pv.str [], Pv.str [], Pv.str [], Pv.str [], Pv.str [], Pv.str [], Pv.str [], Pv.str [], Pv.str [], Pv.str [], Pv.str [], Pv.str [], Pv.str [], Pv.str [], Pv.str []]), eq := none }),
  (118, { kd := Kd.ptr, size := 1, agg := false, zero := [Pv.nilp], zv := some Pv.nilp, eq := none })]
theorem tysOk : TOK Tryd.prog (lookT tys) := tok_of ⟨by kernel_rfl, by kernel_rfl, by kernel_rfl, by kernel_rfl, by kernel_rfl, by kernel_rfl, by kernel_rfl, by kernel_rfl, by kernel_rfl, by kernel_rfl, by kernel_rfl, by kernel_rfl, by kernel_rfl, by kernel_rfl, by kernel_rfl, by kernel_rfl, by kernel_rfl, by kernel_rfl, by kernel_rfl, by kernel_rfl, by kernel_rfl, by kernel_rfl, by kernel_rfl, by kernel_rfl, by kernel_rfl, by kernel_rfl, by kernel_rfl, by kernel_rfl, by kernel_rfl, by kernel_rfl, by kernel_rfl, by kernel_rfl, trivial⟩
noncomputable def cx : Cx := mkCxE Tryd.prog (lookT tys) hints [] fun g => match g with
  | 0 => some (sgn.map .str)
  | _ => none
theorem cxOk : CxOK Tryd.prog cx := mkCxE_ok (n := 600) tysOk (by kernel_rfl) (by kernel_rfl)
theorem law04awake_map : (call cx 2000 10 [] []).map (·.1) = some (.p (.bool true)) := by kernel_rfl
theorem law04awake_pv : PV cx 10 [] (.bool true) := by
  have h := law04awake_map
  cases hc : call cx 2000 10 [] [] with
  | none => rw [hc] at h; cases h
  | some x =>
    obtain ⟨v, H'⟩ := x
    rw [hc] at h
    cases h
    exact ⟨H', 2000, hc⟩
theorem TT : (cx.T 3 = some { kd := Kd.int IntKind.i64, size := 1, agg := false, zero := [Pv.int IntKind.i64 (Int.ofNat 0)], zv := some (Pv.int IntKind.i64 (Int.ofNat 0)), eq := none }) ∧
  (cx.T 4 = some { kd := Kd.bool, size := 1, agg := false, zero := [Pv.bool false], zv := some (Pv.bool false), eq := none }) ∧
  (cx.T 5 = some { kd := Kd.int IntKind.u8, size := 1, agg := false, zero := [Pv.int IntKind.u8 (Int.ofNat 0)], zv := some (Pv.int IntKind.u8 (Int.ofNat 0)), eq := none }) ∧
  (cx.T 9 = some { kd := Kd.str, size := 1, agg := false, zero := [Pv.str []], zv := some (Pv.str []), eq := none }) ∧
  (cx.T 22 = some { kd := Kd.slice 54 2 16 true false, size := 1, agg := false, zero := [Pv.nils], zv := some Pv.nils, eq := none }) ∧
  (cx.T 23 = some { kd := Kd.slice 9 1 16 false false, size := 1, agg := false, zero := [Pv.nils], zv := some Pv.nils, eq := none }) ∧
  (cx.T 26 = some { kd := Kd.int IntKind.i64, size := 1, agg := false, zero := [Pv.int IntKind.i64 (Int.ofNat 0)], zv := some (Pv.int IntKind.i64 (Int.ofNat 0)), eq := none }) ∧
  (cx.T 35 = some { kd := Kd.slice 3 1 8 false false, size := 1, agg := false, zero := [Pv.nils], zv := some Pv.nils, eq := none }) ∧
  (cx.T 36 = some { kd := Kd.slice 78 5 96 true false, size := 1, agg := false, zero := [Pv.nils], zv := some Pv.nils, eq := none }) ∧
  (cx.T 38 = some { kd := Kd.struct [{ off := 0, size := 1, agg := false }, { off := 1, size := 1, agg := false }, { off := 2, size := 1, agg := false }, { off := 3, size := 1, agg := false }], size := 4, agg := true, zero := [Pv.nils, Pv.nils, Pv.nils, Pv.nils], zv := some (Pv.agg [Pv.nils, Pv.nils, Pv.nils, Pv.nils]), eq := none }) ∧
  (cx.T 41 = some { kd := Kd.struct [{ off := 0, size := 1, agg := false }, { off := 1, size := 1, agg := false }, { off := 2, size := 1, agg := false }, { off := 3, size := 1, agg := false }], size := 4, agg := true, zero := [Pv.int IntKind.i64 (Int.ofNat 0), Pv.int IntKind.i64 (Int.ofNat 0), Pv.int IntKind.i64 (Int.ofNat 0), Pv.int IntKind.i64 (Int.ofNat 0)], zv := some (Pv.agg [Pv.int IntKind.i64 (Int.ofNat 0), Pv.int IntKind.i64 (Int.ofNat 0), Pv.int IntKind.i64 (Int.ofNat 0), Pv.int IntKind.i64 (Int.ofNat 0)]), eq := some [1, 1, 1, 1] }) ∧
  (cx.T 51 = some { kd := Kd.slice 56 3 24 true false, size := 1, agg := false, zero := [Pv.nils], zv := some Pv.nils, eq := none }) ∧
  (cx.T 54 = some { kd := Kd.struct [{ off := 0, size := 1, agg := false }, { off := 1, size := 1, agg := false }], size := 2, agg := true, zero := [Pv.int IntKind.i64 (Int.ofNat 0), Pv.int IntKind.i64 (Int.ofNat 0)], zv := some (Pv.agg [Pv.int IntKind.i64 (Int.ofNat 0), Pv.int IntKind.i64 (Int.ofNat 0)]), eq := some [1, 1] }) ∧
  (cx.T 56 = some { kd := Kd.struct [{ off := 0, size := 1, agg := false }, { off := 1, size := 1, agg := false }, { off := 2, size := 1, agg := false }], size := 3, agg := true, zero := [Pv.str [], Pv.int IntKind.u8 (Int.ofNat 0), Pv.bool false], zv := some (Pv.agg [Pv.str [], Pv.int IntKind.u8 (Int.ofNat 0), Pv.bool false]), eq := some [2, 1, 0] }) ∧
  (cx.T 61 = some { kd := Kd.slice 63 3 40 true false, size := 1, agg := false, zero := [Pv.nils], zv := some Pv.nils, eq := none }) ∧
  (cx.T 63 = some { kd := Kd.struct [{ off := 0, size := 2, agg := true }, { off := 2, size := 1, agg := false }], size := 3, agg := true, zero := [Pv.int IntKind.i64 (Int.ofNat 0), Pv.int IntKind.i64 (Int.ofNat 0), Pv.nils], zv := some (Pv.agg [Pv.int IntKind.i64 (Int.ofNat 0), Pv.int IntKind.i64 (Int.ofNat 0), Pv.nils]), eq := none }) ∧
  (cx.T 67 = some { kd := Kd.struct [{ off := 0, size := 1, agg := false }, { off := 1, size := 1, agg := false }, { off := 2, size := 1, agg := false }, { off := 3, size := 1, agg := false }, { off := 4, size := 1, agg := false }, { off := 5, size := 1, agg := false }, { off := 6, size := 1, agg := false }, { off := 7, size := 1, agg := false }, { off := 8, size := 1, agg := false }], size := 9, agg := true, zero := [Pv.str [], Pv.int IntKind.i64 (Int.ofNat 0), Pv.int IntKind.i64 (Int.ofNat 0), Pv.str [], Pv.nils, Pv.int IntKind.i64 (Int.ofNat 0), Pv.nils, Pv.int IntKind.i64 (Int.ofNat 0), Pv.int IntKind.i64 (Int.ofNat 0)], zv := some (Pv.agg [Pv.str [], Pv.int IntKind.i64 (Int.ofNat 0), Pv.int IntKind.i64 (Int.ofNat 0), Pv.str [], Pv.nils, Pv.int IntKind.i64 (Int.ofNat 0), Pv.nils, Pv.int IntKind.i64 (Int.ofNat 0), Pv.int IntKind.i64 (Int.ofNat 0)]), eq := none }) ∧
  (cx.T 70 = some { kd := Kd.slice 5 1 1 false true, size := 1, agg := false, zero := [Pv.nils], zv := some Pv.nils, eq := none }) ∧
  (cx.T 72 = some { kd := Kd.struct [{ off := 0, size := 1, agg := false }], size := 1, agg := true, zero := [Pv.nils], zv := some (Pv.agg [Pv.nils]), eq := none }) ∧
  (cx.T 75 = some { kd := Kd.slice 80 2 32 true false, size := 1, agg := false, zero := [Pv.nils], zv := some Pv.nils, eq := none }) ∧
  (cx.T 76 = some { kd := Kd.slice 83 2 32 true false, size := 1, agg := false, zero := [Pv.nils], zv := some Pv.nils, eq := none }) ∧
  (cx.T 78 = some { kd := Kd.struct [{ off := 0, size := 1, agg := false }, { off := 1, size := 1, agg := false }, { off := 2, size := 1, agg := false }, { off := 3, size := 1, agg := false }, { off := 4, size := 1, agg := false }], size := 5, agg := true, zero := [Pv.str [], Pv.int IntKind.i64 (Int.ofNat 0), Pv.nils, Pv.nils, Pv.nils], zv := some (Pv.agg [Pv.str [], Pv.int IntKind.i64 (Int.ofNat 0), Pv.nils, Pv.nils, Pv.nils]), eq := none }) ∧
  (cx.T 80 = some { kd := Kd.struct [{ off := 0, size := 1, agg := false }, { off := 1, size := 1, agg := false }], size := 2, agg := true, zero := [Pv.int IntKind.i64 (Int.ofNat 0), Pv.nils], zv := some (Pv.agg [Pv.int IntKind.i64 (Int.ofNat 0), Pv.nils]), eq := none }) ∧
  (cx.T 81 = some { kd := Kd.slice 93 2 32 true false, size := 1, agg := false, zero := [Pv.nils], zv := some Pv.nils, eq := none }) ∧
  (cx.T 83 = some { kd := Kd.struct [{ off := 0, size := 1, agg := false }, { off := 1, size := 1, agg := false }], size := 2, agg := true, zero := [Pv.nils, Pv.int IntKind.i64 (Int.ofNat 0)], zv := some (Pv.agg [Pv.nils, Pv.int IntKind.i64 (Int.ofNat 0)]), eq := none }) ∧
  (cx.T 86 = some { kd := Kd.struct [{ off := 0, size := 1, agg := false }, { off := 1, size := 1, agg := false }], size := 2, agg := true, zero := [Pv.int IntKind.i64 (Int.ofNat 0), Pv.int IntKind.i64 (Int.ofNat 0)], zv := some (Pv.agg [Pv.int IntKind.i64 (Int.ofNat 0), Pv.int IntKind.i64 (Int.ofNat 0)]), eq := some [1, 1] }) ∧
  (cx.T 93 = some { kd := Kd.struct [{ off := 0, size := 1, agg := false }, { off := 1, size := 1, agg := false }], size := 2, agg := true, zero := [Pv.int IntKind.i64 (Int.ofNat 0), Pv.nils], zv := some (Pv.agg [Pv.int IntKind.i64 (Int.ofNat 0), Pv.nils]), eq := none }) ∧
  (cx.T 95 = some { kd := Kd.ptr, size := 1, agg := false, zero := [Pv.nilp], zv := some Pv.nilp, eq := none }) ∧
  (cx.T 96 = some { kd := Kd.map 9 3, size := 1, agg := false, zero := [Pv.nilm], zv := some Pv.nilm, eq := none }) ∧
  (cx.T 98 = some { kd := Kd.struct [{ off := 0, size := 4, agg := true }, { off := 4, size := 1, agg := false }, { off := 5, size := 1, agg := false }, { off := 6, size := 1, agg := false }], size := 7, agg := true, zero := [Pv.nils, Pv.nils, Pv.nils, Pv.nils, Pv.nilm, Pv.nilm, Pv.int IntKind.i64 (Int.ofNat 0)], zv := some (Pv.agg [Pv.nils, Pv.nils, Pv.nils, Pv.nils, Pv.nilm, Pv.nilm, Pv.int IntKind.i64 (Int.ofNat 0)]), eq := none }) ∧
  (cx.T 109 = some { kd := Kd.array 16 1 false, size := 16, agg := true, zero := [Pv.str [], Pv.str [], Pv.str [], Pv.str [], Pv.str [], Pv.str [], Pv.str [], Pv.str [], Pv.str [], Pv.str [], Pv.str [], Pv.str [], Pv.str [], Pv.str [], Pv.str [], Pv.str []], zv := some (Pv.agg [Pv.str [], Pv.str [], Pv.str [], Pv.str [], Pv.str [], Pv.str [], Pv.str [], Pv.str [], Pv.str [], Pv.str [], Pv.str [], Pv.str [], Pv.str [], Pv.str [], Pv.str [], Pv.str []]), eq := none }) ∧
  (cx.T 118 = some { kd := Kd.ptr, size := 1, agg := false, zero := [Pv.nilp], zv := some Pv.nilp, eq := none }) := ⟨rfl, rfl, rfl, rfl, rfl, rfl, rfl, rfl, rfl, rfl, rfl, rfl, rfl, rfl, rfl, rfl, rfl, rfl, rfl, rfl, rfl, rfl, rfl, rfl, rfl, rfl, rfl, rfl, rfl, rfl, rfl, rfl⟩
end Go.Proofs.YtojpocfnjigmfaaDoor
