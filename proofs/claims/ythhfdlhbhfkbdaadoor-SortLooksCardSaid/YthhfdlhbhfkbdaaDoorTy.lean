/- The facts on this translation's types that the machine on data asks, one closed fact each. By a program of ours. No condition. -/
import Derived.Test.YthhfdlhbhfkbdaaDoorVmG
import Derived.KernelRfl
import Derived.Test.YthhfdlhbhfkbdaaDoorProg
set_option linter.unusedVariables false
set_option linter.unusedSimpArgs false
namespace Go.Proofs.YthhfdlhbhfkbdaaDoor
open Go Go.VM
@[simp] theorem ty_cells1 : Tryd.prog.cellsOf 1 = 1 := by kernel_rfl
@[simp] theorem ty_bytes1 : Tryd.prog.bytesOf 1 = 8 := by kernel_rfl
@[simp] theorem ty_cells2 : Tryd.prog.cellsOf 2 = 1 := by kernel_rfl
@[simp] theorem ty_bytes2 : Tryd.prog.bytesOf 2 = 8 := by kernel_rfl
@[simp] theorem ty_zeroD2 : zeroD Tryd.prog 2 = some [.int .i64 0] := by kernel_rfl
@[simp] theorem ty_zeroV2 : zeroValD Tryd.prog 2 = some (.int .i64 0) := by kernel_rfl
@[simp] theorem ty_cells3 : Tryd.prog.cellsOf 3 = 1 := by kernel_rfl
@[simp] theorem ty_bytes3 : Tryd.prog.bytesOf 3 = 8 := by kernel_rfl
@[simp] theorem ty_zeroD3 : zeroD Tryd.prog 3 = some [.int .i64 0] := by kernel_rfl
@[simp] theorem ty_zeroV3 : zeroValD Tryd.prog 3 = some (.int .i64 0) := by kernel_rfl
@[simp] theorem ty_cells4 : Tryd.prog.cellsOf 4 = 1 := by kernel_rfl
@[simp] theorem ty_bytes4 : Tryd.prog.bytesOf 4 = 1 := by kernel_rfl
@[simp] theorem ty_zeroD4 : zeroD Tryd.prog 4 = some [.bool false] := by kernel_rfl
@[simp] theorem ty_zeroV4 : zeroValD Tryd.prog 4 = some (.bool false) := by kernel_rfl
@[simp] theorem ty_cells5 : Tryd.prog.cellsOf 5 = 1 := by kernel_rfl
@[simp] theorem ty_bytes5 : Tryd.prog.bytesOf 5 = 1 := by kernel_rfl
@[simp] theorem ty_zeroD5 : zeroD Tryd.prog 5 = some [.int .u8 0] := by kernel_rfl
@[simp] theorem ty_zeroV5 : zeroValD Tryd.prog 5 = some (.int .u8 0) := by kernel_rfl
@[simp] theorem ty_cells6 : Tryd.prog.cellsOf 6 = 1 := by kernel_rfl
@[simp] theorem ty_bytes6 : Tryd.prog.bytesOf 6 = 1 := by kernel_rfl
@[simp] theorem ty_zeroD6 : zeroD Tryd.prog 6 = some [.int .u8 0] := by kernel_rfl
@[simp] theorem ty_zeroV6 : zeroValD Tryd.prog 6 = some (.int .u8 0) := by kernel_rfl
@[simp] theorem ty_cells7 : Tryd.prog.cellsOf 7 = 4 := by kernel_rfl
@[simp] theorem ty_bytes7 : Tryd.prog.bytesOf 7 = 24 := by kernel_rfl
@[simp] theorem ty_zeroD7 : zeroD Tryd.prog 7 = some [.int .i64 0, .int .i64 0, .bool false, .int .u8 0] := by kernel_rfl
@[simp] theorem ty_zeroV7 : zeroValD Tryd.prog 7 = some (.agg [.int .i64 0, .int .i64 0, .bool false, .int .u8 0]) := by kernel_rfl
@[simp] theorem ty_isStruct7 : isStruct Tryd.prog 7 = true := by kernel_rfl
@[simp] theorem ty_field7_0 : fieldOf Tryd.prog 7 0 = some (0, 2) := by kernel_rfl
@[simp] theorem ty_field7_1 : fieldOf Tryd.prog 7 1 = some (1, 3) := by kernel_rfl
@[simp] theorem ty_field7_2 : fieldOf Tryd.prog 7 2 = some (2, 4) := by kernel_rfl
@[simp] theorem ty_field7_3 : fieldOf Tryd.prog 7 3 = some (3, 6) := by kernel_rfl
@[simp] theorem ty_cells8 : Tryd.prog.cellsOf 8 = 4 := by kernel_rfl
@[simp] theorem ty_bytes8 : Tryd.prog.bytesOf 8 = 24 := by kernel_rfl
@[simp] theorem ty_zeroD8 : zeroD Tryd.prog 8 = some [.int .i64 0, .int .i64 0, .bool false, .int .u8 0] := by kernel_rfl
@[simp] theorem ty_zeroV8 : zeroValD Tryd.prog 8 = some (.agg [.int .i64 0, .int .i64 0, .bool false, .int .u8 0]) := by kernel_rfl
@[simp] theorem ty_isStruct8 : isStruct Tryd.prog 8 = true := by kernel_rfl
@[simp] theorem ty_field8_0 : fieldOf Tryd.prog 8 0 = some (0, 2) := by kernel_rfl
@[simp] theorem ty_field8_1 : fieldOf Tryd.prog 8 1 = some (1, 3) := by kernel_rfl
@[simp] theorem ty_field8_2 : fieldOf Tryd.prog 8 2 = some (2, 4) := by kernel_rfl
@[simp] theorem ty_field8_3 : fieldOf Tryd.prog 8 3 = some (3, 6) := by kernel_rfl
@[simp] theorem ty_cells9 : Tryd.prog.cellsOf 9 = 1 := by kernel_rfl
@[simp] theorem ty_bytes9 : Tryd.prog.bytesOf 9 = 16 := by kernel_rfl
@[simp] theorem ty_zeroD9 : zeroD Tryd.prog 9 = some [.str []] := by kernel_rfl
@[simp] theorem ty_zeroV9 : zeroValD Tryd.prog 9 = some (.str []) := by kernel_rfl
@[simp] theorem ty_cells10 : Tryd.prog.cellsOf 10 = 1 := by kernel_rfl
@[simp] theorem ty_bytes10 : Tryd.prog.bytesOf 10 = 16 := by kernel_rfl
@[simp] theorem ty_zeroD10 : zeroD Tryd.prog 10 = some [.str []] := by kernel_rfl
@[simp] theorem ty_zeroV10 : zeroValD Tryd.prog 10 = some (.str []) := by kernel_rfl
@[simp] theorem ty_cells11 : Tryd.prog.cellsOf 11 = 1 := by kernel_rfl
@[simp] theorem ty_bytes11 : Tryd.prog.bytesOf 11 = 16 := by kernel_rfl
@[simp] theorem ty_zeroD11 : zeroD Tryd.prog 11 = some [.str []] := by kernel_rfl
@[simp] theorem ty_zeroV11 : zeroValD Tryd.prog 11 = some (.str []) := by kernel_rfl
@[simp] theorem ty_cells12 : Tryd.prog.cellsOf 12 = 1 := by kernel_rfl
@[simp] theorem ty_bytes12 : Tryd.prog.bytesOf 12 = 8 := by kernel_rfl
@[simp] theorem ty_zeroD12 : zeroD Tryd.prog 12 = some [.int .u64 0] := by kernel_rfl
@[simp] theorem ty_zeroV12 : zeroValD Tryd.prog 12 = some (.int .u64 0) := by kernel_rfl
@[simp] theorem ty_cells13 : Tryd.prog.cellsOf 13 = 2 := by kernel_rfl
@[simp] theorem ty_bytes13 : Tryd.prog.bytesOf 13 = 24 := by kernel_rfl
@[simp] theorem ty_zeroD13 : zeroD Tryd.prog 13 = some [.str [], .int .u64 0] := by kernel_rfl
@[simp] theorem ty_zeroV13 : zeroValD Tryd.prog 13 = some (.agg [.str [], .int .u64 0]) := by kernel_rfl
@[simp] theorem ty_isStruct13 : isStruct Tryd.prog 13 = true := by kernel_rfl
@[simp] theorem ty_field13_0 : fieldOf Tryd.prog 13 0 = some (0, 9) := by kernel_rfl
@[simp] theorem ty_field13_1 : fieldOf Tryd.prog 13 1 = some (1, 12) := by kernel_rfl
@[simp] theorem ty_cells14 : Tryd.prog.cellsOf 14 = 2 := by kernel_rfl
@[simp] theorem ty_bytes14 : Tryd.prog.bytesOf 14 = 24 := by kernel_rfl
@[simp] theorem ty_zeroD14 : zeroD Tryd.prog 14 = some [.str [], .int .u64 0] := by kernel_rfl
@[simp] theorem ty_zeroV14 : zeroValD Tryd.prog 14 = some (.agg [.str [], .int .u64 0]) := by kernel_rfl
@[simp] theorem ty_isStruct14 : isStruct Tryd.prog 14 = true := by kernel_rfl
@[simp] theorem ty_field14_0 : fieldOf Tryd.prog 14 0 = some (0, 9) := by kernel_rfl
@[simp] theorem ty_field14_1 : fieldOf Tryd.prog 14 1 = some (1, 12) := by kernel_rfl
@[simp] theorem ty_cells15 : Tryd.prog.cellsOf 15 = 1 := by kernel_rfl
@[simp] theorem ty_bytes15 : Tryd.prog.bytesOf 15 = 8 := by kernel_rfl
@[simp] theorem ty_cells16 : Tryd.prog.cellsOf 16 = 1 := by kernel_rfl
@[simp] theorem ty_bytes16 : Tryd.prog.bytesOf 16 = 8 := by kernel_rfl
@[simp] theorem ty_cells17 : Tryd.prog.cellsOf 17 = 1 := by kernel_rfl
@[simp] theorem ty_bytes17 : Tryd.prog.bytesOf 17 = 8 := by kernel_rfl
@[simp] theorem ty_cells18 : Tryd.prog.cellsOf 18 = 1 := by kernel_rfl
@[simp] theorem ty_bytes18 : Tryd.prog.bytesOf 18 = 8 := by kernel_rfl
@[simp] theorem ty_field18_0 : fieldOf Tryd.prog 18 0 = some (0, 17) := by kernel_rfl
@[simp] theorem ty_cells19 : Tryd.prog.cellsOf 19 = 1 := by kernel_rfl
@[simp] theorem ty_bytes19 : Tryd.prog.bytesOf 19 = 8 := by kernel_rfl
@[simp] theorem ty_field19_0 : fieldOf Tryd.prog 19 0 = some (0, 17) := by kernel_rfl
@[simp] theorem ty_cells21 : Tryd.prog.cellsOf 21 = 1 := by kernel_rfl
@[simp] theorem ty_bytes21 : Tryd.prog.bytesOf 21 = 4 := by kernel_rfl
@[simp] theorem ty_zeroD21 : zeroD Tryd.prog 21 = some [.int .i32 0] := by kernel_rfl
@[simp] theorem ty_zeroV21 : zeroValD Tryd.prog 21 = some (.int .i32 0) := by kernel_rfl
@[simp] theorem ty_cells22 : Tryd.prog.cellsOf 22 = 1 := by kernel_rfl
@[simp] theorem ty_bytes22 : Tryd.prog.bytesOf 22 = 16 := by kernel_rfl
@[simp] theorem ty_zeroD22 : zeroD Tryd.prog 22 = some [.str []] := by kernel_rfl
@[simp] theorem ty_zeroV22 : zeroValD Tryd.prog 22 = some (.str []) := by kernel_rfl
@[simp] theorem ty_cells23 : Tryd.prog.cellsOf 23 = 1 := by kernel_rfl
@[simp] theorem ty_bytes23 : Tryd.prog.bytesOf 23 = 24 := by kernel_rfl
@[simp] theorem ty_zeroD23 : zeroD Tryd.prog 23 = some [.nils] := by kernel_rfl
@[simp] theorem ty_zeroV23 : zeroValD Tryd.prog 23 = some (.nils) := by kernel_rfl
@[simp] theorem ty_elem23 : elemOfD Tryd.prog 23 = some 22 := by kernel_rfl
@[simp] theorem ty_cells24 : Tryd.prog.cellsOf 24 = 3 := by kernel_rfl
@[simp] theorem ty_bytes24 : Tryd.prog.bytesOf 24 = 56 := by kernel_rfl
@[simp] theorem ty_zeroD24 : zeroD Tryd.prog 24 = some [.str [], .nils, .str []] := by kernel_rfl
@[simp] theorem ty_zeroV24 : zeroValD Tryd.prog 24 = some (.agg [.str [], .nils, .str []]) := by kernel_rfl
@[simp] theorem ty_isStruct24 : isStruct Tryd.prog 24 = true := by kernel_rfl
@[simp] theorem ty_field24_0 : fieldOf Tryd.prog 24 0 = some (0, 9) := by kernel_rfl
@[simp] theorem ty_field24_1 : fieldOf Tryd.prog 24 1 = some (1, 23) := by kernel_rfl
@[simp] theorem ty_field24_2 : fieldOf Tryd.prog 24 2 = some (2, 22) := by kernel_rfl
@[simp] theorem ty_cells25 : Tryd.prog.cellsOf 25 = 3 := by kernel_rfl
@[simp] theorem ty_bytes25 : Tryd.prog.bytesOf 25 = 56 := by kernel_rfl
@[simp] theorem ty_zeroD25 : zeroD Tryd.prog 25 = some [.str [], .nils, .str []] := by kernel_rfl
@[simp] theorem ty_zeroV25 : zeroValD Tryd.prog 25 = some (.agg [.str [], .nils, .str []]) := by kernel_rfl
@[simp] theorem ty_isStruct25 : isStruct Tryd.prog 25 = true := by kernel_rfl
@[simp] theorem ty_field25_0 : fieldOf Tryd.prog 25 0 = some (0, 9) := by kernel_rfl
@[simp] theorem ty_field25_1 : fieldOf Tryd.prog 25 1 = some (1, 23) := by kernel_rfl
@[simp] theorem ty_field25_2 : fieldOf Tryd.prog 25 2 = some (2, 22) := by kernel_rfl
@[simp] theorem ty_cells26 : Tryd.prog.cellsOf 26 = 1 := by kernel_rfl
@[simp] theorem ty_bytes26 : Tryd.prog.bytesOf 26 = 8 := by kernel_rfl
@[simp] theorem ty_cells27 : Tryd.prog.cellsOf 27 = 1 := by kernel_rfl
@[simp] theorem ty_bytes27 : Tryd.prog.bytesOf 27 = 8 := by kernel_rfl
@[simp] theorem ty_cells28 : Tryd.prog.cellsOf 28 = 1 := by kernel_rfl
@[simp] theorem ty_bytes28 : Tryd.prog.bytesOf 28 = 8 := by kernel_rfl
@[simp] theorem ty_zeroD28 : zeroD Tryd.prog 28 = some [.int .i64 0] := by kernel_rfl
@[simp] theorem ty_zeroV28 : zeroValD Tryd.prog 28 = some (.int .i64 0) := by kernel_rfl
@[simp] theorem ty_cells29 : Tryd.prog.cellsOf 29 = 1 := by kernel_rfl
@[simp] theorem ty_bytes29 : Tryd.prog.bytesOf 29 = 8 := by kernel_rfl
@[simp] theorem ty_cells30 : Tryd.prog.cellsOf 30 = 1 := by kernel_rfl
@[simp] theorem ty_bytes30 : Tryd.prog.bytesOf 30 = 8 := by kernel_rfl
@[simp] theorem ty_cells31 : Tryd.prog.cellsOf 31 = 1 := by kernel_rfl
@[simp] theorem ty_bytes31 : Tryd.prog.bytesOf 31 = 8 := by kernel_rfl
@[simp] theorem ty_cells32 : Tryd.prog.cellsOf 32 = 1 := by kernel_rfl
@[simp] theorem ty_bytes32 : Tryd.prog.bytesOf 32 = 24 := by kernel_rfl
@[simp] theorem ty_zeroD32 : zeroD Tryd.prog 32 = some [.nils] := by kernel_rfl
@[simp] theorem ty_zeroV32 : zeroValD Tryd.prog 32 = some (.nils) := by kernel_rfl
@[simp] theorem ty_elem32 : elemOfD Tryd.prog 32 = some 62 := by kernel_rfl
@[simp] theorem ty_cells33 : Tryd.prog.cellsOf 33 = 1 := by kernel_rfl
@[simp] theorem ty_bytes33 : Tryd.prog.bytesOf 33 = 24 := by kernel_rfl
@[simp] theorem ty_zeroD33 : zeroD Tryd.prog 33 = some [.nils] := by kernel_rfl
@[simp] theorem ty_zeroV33 : zeroValD Tryd.prog 33 = some (.nils) := by kernel_rfl
@[simp] theorem ty_elem33 : elemOfD Tryd.prog 33 = some 25 := by kernel_rfl
@[simp] theorem ty_cells34 : Tryd.prog.cellsOf 34 = 1 := by kernel_rfl
@[simp] theorem ty_bytes34 : Tryd.prog.bytesOf 34 = 24 := by kernel_rfl
@[simp] theorem ty_zeroD34 : zeroD Tryd.prog 34 = some [.nils] := by kernel_rfl
@[simp] theorem ty_zeroV34 : zeroValD Tryd.prog 34 = some (.nils) := by kernel_rfl
@[simp] theorem ty_elem34 : elemOfD Tryd.prog 34 = some 44 := by kernel_rfl
@[simp] theorem ty_cells35 : Tryd.prog.cellsOf 35 = 3 := by kernel_rfl
@[simp] theorem ty_bytes35 : Tryd.prog.bytesOf 35 = 72 := by kernel_rfl
@[simp] theorem ty_zeroD35 : zeroD Tryd.prog 35 = some [.nils, .nils, .nils] := by kernel_rfl
@[simp] theorem ty_zeroV35 : zeroValD Tryd.prog 35 = some (.agg [.nils, .nils, .nils]) := by kernel_rfl
@[simp] theorem ty_isStruct35 : isStruct Tryd.prog 35 = true := by kernel_rfl
@[simp] theorem ty_field35_0 : fieldOf Tryd.prog 35 0 = some (0, 32) := by kernel_rfl
@[simp] theorem ty_field35_1 : fieldOf Tryd.prog 35 1 = some (1, 33) := by kernel_rfl
@[simp] theorem ty_field35_2 : fieldOf Tryd.prog 35 2 = some (2, 34) := by kernel_rfl
@[simp] theorem ty_cells36 : Tryd.prog.cellsOf 36 = 3 := by kernel_rfl
@[simp] theorem ty_bytes36 : Tryd.prog.bytesOf 36 = 72 := by kernel_rfl
@[simp] theorem ty_zeroD36 : zeroD Tryd.prog 36 = some [.nils, .nils, .nils] := by kernel_rfl
@[simp] theorem ty_zeroV36 : zeroValD Tryd.prog 36 = some (.agg [.nils, .nils, .nils]) := by kernel_rfl
@[simp] theorem ty_isStruct36 : isStruct Tryd.prog 36 = true := by kernel_rfl
@[simp] theorem ty_field36_0 : fieldOf Tryd.prog 36 0 = some (0, 32) := by kernel_rfl
@[simp] theorem ty_field36_1 : fieldOf Tryd.prog 36 1 = some (1, 33) := by kernel_rfl
@[simp] theorem ty_field36_2 : fieldOf Tryd.prog 36 2 = some (2, 34) := by kernel_rfl
@[simp] theorem ty_cells37 : Tryd.prog.cellsOf 37 = 1 := by kernel_rfl
@[simp] theorem ty_bytes37 : Tryd.prog.bytesOf 37 = 8 := by kernel_rfl
@[simp] theorem ty_cells38 : Tryd.prog.cellsOf 38 = 1 := by kernel_rfl
@[simp] theorem ty_bytes38 : Tryd.prog.bytesOf 38 = 8 := by kernel_rfl
@[simp] theorem ty_cells40 : Tryd.prog.cellsOf 40 = 1 := by kernel_rfl
@[simp] theorem ty_bytes40 : Tryd.prog.bytesOf 40 = 8 := by kernel_rfl
@[simp] theorem ty_cells42 : Tryd.prog.cellsOf 42 = 1 := by kernel_rfl
@[simp] theorem ty_bytes42 : Tryd.prog.bytesOf 42 = 8 := by kernel_rfl
@[simp] theorem ty_cells43 : Tryd.prog.cellsOf 43 = 2 := by kernel_rfl
@[simp] theorem ty_bytes43 : Tryd.prog.bytesOf 43 = 40 := by kernel_rfl
@[simp] theorem ty_zeroD43 : zeroD Tryd.prog 43 = some [.str [], .nils] := by kernel_rfl
@[simp] theorem ty_zeroV43 : zeroValD Tryd.prog 43 = some (.agg [.str [], .nils]) := by kernel_rfl
@[simp] theorem ty_isStruct43 : isStruct Tryd.prog 43 = true := by kernel_rfl
@[simp] theorem ty_field43_0 : fieldOf Tryd.prog 43 0 = some (0, 9) := by kernel_rfl
@[simp] theorem ty_field43_1 : fieldOf Tryd.prog 43 1 = some (1, 32) := by kernel_rfl
@[simp] theorem ty_cells44 : Tryd.prog.cellsOf 44 = 2 := by kernel_rfl
@[simp] theorem ty_bytes44 : Tryd.prog.bytesOf 44 = 40 := by kernel_rfl
@[simp] theorem ty_zeroD44 : zeroD Tryd.prog 44 = some [.str [], .nils] := by kernel_rfl
@[simp] theorem ty_zeroV44 : zeroValD Tryd.prog 44 = some (.agg [.str [], .nils]) := by kernel_rfl
@[simp] theorem ty_isStruct44 : isStruct Tryd.prog 44 = true := by kernel_rfl
@[simp] theorem ty_field44_0 : fieldOf Tryd.prog 44 0 = some (0, 9) := by kernel_rfl
@[simp] theorem ty_field44_1 : fieldOf Tryd.prog 44 1 = some (1, 32) := by kernel_rfl
@[simp] theorem ty_cells46 : Tryd.prog.cellsOf 46 = 1 := by kernel_rfl
@[simp] theorem ty_bytes46 : Tryd.prog.bytesOf 46 = 8 := by kernel_rfl
@[simp] theorem ty_cells47 : Tryd.prog.cellsOf 47 = 1 := by kernel_rfl
@[simp] theorem ty_bytes47 : Tryd.prog.bytesOf 47 = 8 := by kernel_rfl
@[simp] theorem ty_cells48 : Tryd.prog.cellsOf 48 = 1 := by kernel_rfl
@[simp] theorem ty_bytes48 : Tryd.prog.bytesOf 48 = 8 := by kernel_rfl
@[simp] theorem ty_cells49 : Tryd.prog.cellsOf 49 = 1 := by kernel_rfl
@[simp] theorem ty_bytes49 : Tryd.prog.bytesOf 49 = 8 := by kernel_rfl
@[simp] theorem ty_cells50 : Tryd.prog.cellsOf 50 = 1 := by kernel_rfl
@[simp] theorem ty_bytes50 : Tryd.prog.bytesOf 50 = 8 := by kernel_rfl
@[simp] theorem ty_zeroD50 : zeroD Tryd.prog 50 = some [.int .i64 0] := by kernel_rfl
@[simp] theorem ty_zeroV50 : zeroValD Tryd.prog 50 = some (.int .i64 0) := by kernel_rfl
@[simp] theorem ty_cells51 : Tryd.prog.cellsOf 51 = 1 := by kernel_rfl
@[simp] theorem ty_bytes51 : Tryd.prog.bytesOf 51 = 24 := by kernel_rfl
@[simp] theorem ty_zeroD51 : zeroD Tryd.prog 51 = some [.nils] := by kernel_rfl
@[simp] theorem ty_zeroV51 : zeroValD Tryd.prog 51 = some (.nils) := by kernel_rfl
@[simp] theorem ty_elem51 : elemOfD Tryd.prog 51 = some 58 := by kernel_rfl
@[simp] theorem ty_cells52 : Tryd.prog.cellsOf 52 = 1 := by kernel_rfl
@[simp] theorem ty_bytes52 : Tryd.prog.bytesOf 52 = 24 := by kernel_rfl
@[simp] theorem ty_zeroD52 : zeroD Tryd.prog 52 = some [.nils] := by kernel_rfl
@[simp] theorem ty_zeroV52 : zeroValD Tryd.prog 52 = some (.nils) := by kernel_rfl
@[simp] theorem ty_elem52 : elemOfD Tryd.prog 52 = some 9 := by kernel_rfl
@[simp] theorem ty_cells53 : Tryd.prog.cellsOf 53 = 1 := by kernel_rfl
@[simp] theorem ty_bytes53 : Tryd.prog.bytesOf 53 = 8 := by kernel_rfl
@[simp] theorem ty_zeroD53 : zeroD Tryd.prog 53 = some [.int .i64 0] := by kernel_rfl
@[simp] theorem ty_zeroV53 : zeroValD Tryd.prog 53 = some (.int .i64 0) := by kernel_rfl
@[simp] theorem ty_cells54 : Tryd.prog.cellsOf 54 = 1 := by kernel_rfl
@[simp] theorem ty_bytes54 : Tryd.prog.bytesOf 54 = 24 := by kernel_rfl
@[simp] theorem ty_zeroD54 : zeroD Tryd.prog 54 = some [.nils] := by kernel_rfl
@[simp] theorem ty_zeroV54 : zeroValD Tryd.prog 54 = some (.nils) := by kernel_rfl
@[simp] theorem ty_elem54 : elemOfD Tryd.prog 54 = some 56 := by kernel_rfl
@[simp] theorem ty_cells55 : Tryd.prog.cellsOf 55 = 4 := by kernel_rfl
@[simp] theorem ty_bytes55 : Tryd.prog.bytesOf 55 = 56 := by kernel_rfl
@[simp] theorem ty_zeroD55 : zeroD Tryd.prog 55 = some [.int .i64 0, .str [], .int .i64 0, .nils] := by kernel_rfl
@[simp] theorem ty_zeroV55 : zeroValD Tryd.prog 55 = some (.agg [.int .i64 0, .str [], .int .i64 0, .nils]) := by kernel_rfl
@[simp] theorem ty_isStruct55 : isStruct Tryd.prog 55 = true := by kernel_rfl
@[simp] theorem ty_field55_0 : fieldOf Tryd.prog 55 0 = some (0, 53) := by kernel_rfl
@[simp] theorem ty_field55_1 : fieldOf Tryd.prog 55 1 = some (1, 9) := by kernel_rfl
@[simp] theorem ty_field55_2 : fieldOf Tryd.prog 55 2 = some (2, 3) := by kernel_rfl
@[simp] theorem ty_field55_3 : fieldOf Tryd.prog 55 3 = some (3, 54) := by kernel_rfl
@[simp] theorem ty_cells56 : Tryd.prog.cellsOf 56 = 4 := by kernel_rfl
@[simp] theorem ty_bytes56 : Tryd.prog.bytesOf 56 = 56 := by kernel_rfl
@[simp] theorem ty_zeroD56 : zeroD Tryd.prog 56 = some [.int .i64 0, .str [], .int .i64 0, .nils] := by kernel_rfl
@[simp] theorem ty_zeroV56 : zeroValD Tryd.prog 56 = some (.agg [.int .i64 0, .str [], .int .i64 0, .nils]) := by kernel_rfl
@[simp] theorem ty_isStruct56 : isStruct Tryd.prog 56 = true := by kernel_rfl
@[simp] theorem ty_field56_0 : fieldOf Tryd.prog 56 0 = some (0, 53) := by kernel_rfl
@[simp] theorem ty_field56_1 : fieldOf Tryd.prog 56 1 = some (1, 9) := by kernel_rfl
@[simp] theorem ty_field56_2 : fieldOf Tryd.prog 56 2 = some (2, 3) := by kernel_rfl
@[simp] theorem ty_field56_3 : fieldOf Tryd.prog 56 3 = some (3, 54) := by kernel_rfl
@[simp] theorem ty_cells57 : Tryd.prog.cellsOf 57 = 9 := by kernel_rfl
@[simp] theorem ty_bytes57 : Tryd.prog.bytesOf 57 = 152 := by kernel_rfl
@[simp] theorem ty_zeroD57 : zeroD Tryd.prog 57 = some [.int .i64 0, .str [], .nils, .nils, .int .i64 0, .str [], .int .i64 0, .nils, .nils] := by kernel_rfl
@[simp] theorem ty_zeroV57 : zeroValD Tryd.prog 57 = some (.agg [.int .i64 0, .str [], .nils, .nils, .int .i64 0, .str [], .int .i64 0, .nils, .nils]) := by kernel_rfl
@[simp] theorem ty_isStruct57 : isStruct Tryd.prog 57 = true := by kernel_rfl
@[simp] theorem ty_field57_0 : fieldOf Tryd.prog 57 0 = some (0, 50) := by kernel_rfl
@[simp] theorem ty_field57_1 : fieldOf Tryd.prog 57 1 = some (1, 9) := by kernel_rfl
@[simp] theorem ty_field57_2 : fieldOf Tryd.prog 57 2 = some (2, 51) := by kernel_rfl
@[simp] theorem ty_field57_3 : fieldOf Tryd.prog 57 3 = some (3, 52) := by kernel_rfl
@[simp] theorem ty_field57_4 : fieldOf Tryd.prog 57 4 = some (4, 56) := by kernel_rfl
@[simp] theorem ty_field57_5 : fieldOf Tryd.prog 57 5 = some (8, 54) := by kernel_rfl
@[simp] theorem ty_cells58 : Tryd.prog.cellsOf 58 = 9 := by kernel_rfl
@[simp] theorem ty_bytes58 : Tryd.prog.bytesOf 58 = 152 := by kernel_rfl
@[simp] theorem ty_zeroD58 : zeroD Tryd.prog 58 = some [.int .i64 0, .str [], .nils, .nils, .int .i64 0, .str [], .int .i64 0, .nils, .nils] := by kernel_rfl
@[simp] theorem ty_zeroV58 : zeroValD Tryd.prog 58 = some (.agg [.int .i64 0, .str [], .nils, .nils, .int .i64 0, .str [], .int .i64 0, .nils, .nils]) := by kernel_rfl
@[simp] theorem ty_isStruct58 : isStruct Tryd.prog 58 = true := by kernel_rfl
@[simp] theorem ty_field58_0 : fieldOf Tryd.prog 58 0 = some (0, 50) := by kernel_rfl
@[simp] theorem ty_field58_1 : fieldOf Tryd.prog 58 1 = some (1, 9) := by kernel_rfl
@[simp] theorem ty_field58_2 : fieldOf Tryd.prog 58 2 = some (2, 51) := by kernel_rfl
@[simp] theorem ty_field58_3 : fieldOf Tryd.prog 58 3 = some (3, 52) := by kernel_rfl
@[simp] theorem ty_field58_4 : fieldOf Tryd.prog 58 4 = some (4, 56) := by kernel_rfl
@[simp] theorem ty_field58_5 : fieldOf Tryd.prog 58 5 = some (8, 54) := by kernel_rfl
@[simp] theorem ty_cells59 : Tryd.prog.cellsOf 59 = 1 := by kernel_rfl
@[simp] theorem ty_bytes59 : Tryd.prog.bytesOf 59 = 8 := by kernel_rfl
@[simp] theorem ty_cells60 : Tryd.prog.cellsOf 60 = 1 := by kernel_rfl
@[simp] theorem ty_bytes60 : Tryd.prog.bytesOf 60 = 8 := by kernel_rfl
@[simp] theorem ty_cells61 : Tryd.prog.cellsOf 61 = 2 := by kernel_rfl
@[simp] theorem ty_bytes61 : Tryd.prog.bytesOf 61 = 32 := by kernel_rfl
@[simp] theorem ty_zeroD61 : zeroD Tryd.prog 61 = some [.str [], .str []] := by kernel_rfl
@[simp] theorem ty_zeroV61 : zeroValD Tryd.prog 61 = some (.agg [.str [], .str []]) := by kernel_rfl
@[simp] theorem ty_isStruct61 : isStruct Tryd.prog 61 = true := by kernel_rfl
@[simp] theorem ty_field61_0 : fieldOf Tryd.prog 61 0 = some (0, 9) := by kernel_rfl
@[simp] theorem ty_field61_1 : fieldOf Tryd.prog 61 1 = some (1, 22) := by kernel_rfl
@[simp] theorem ty_cells62 : Tryd.prog.cellsOf 62 = 2 := by kernel_rfl
@[simp] theorem ty_bytes62 : Tryd.prog.bytesOf 62 = 32 := by kernel_rfl
@[simp] theorem ty_zeroD62 : zeroD Tryd.prog 62 = some [.str [], .str []] := by kernel_rfl
@[simp] theorem ty_zeroV62 : zeroValD Tryd.prog 62 = some (.agg [.str [], .str []]) := by kernel_rfl
@[simp] theorem ty_isStruct62 : isStruct Tryd.prog 62 = true := by kernel_rfl
@[simp] theorem ty_field62_0 : fieldOf Tryd.prog 62 0 = some (0, 9) := by kernel_rfl
@[simp] theorem ty_field62_1 : fieldOf Tryd.prog 62 1 = some (1, 22) := by kernel_rfl
@[simp] theorem ty_flat62 : flatDescs Tryd.prog 62 = some [.string, .string] := by kernel_rfl
@[simp] theorem ty_cells63 : Tryd.prog.cellsOf 63 = 1 := by kernel_rfl
@[simp] theorem ty_bytes63 : Tryd.prog.bytesOf 63 = 8 := by kernel_rfl
@[simp] theorem ty_cells64 : Tryd.prog.cellsOf 64 = 1 := by kernel_rfl
@[simp] theorem ty_bytes64 : Tryd.prog.bytesOf 64 = 8 := by kernel_rfl
@[simp] theorem ty_cells65 : Tryd.prog.cellsOf 65 = 1 := by kernel_rfl
@[simp] theorem ty_bytes65 : Tryd.prog.bytesOf 65 = 8 := by kernel_rfl
@[simp] theorem ty_cells66 : Tryd.prog.cellsOf 66 = 1 := by kernel_rfl
@[simp] theorem ty_bytes66 : Tryd.prog.bytesOf 66 = 8 := by kernel_rfl
@[simp] theorem ty_cells67 : Tryd.prog.cellsOf 67 = 1 := by kernel_rfl
@[simp] theorem ty_bytes67 : Tryd.prog.bytesOf 67 = 8 := by kernel_rfl
@[simp] theorem ty_cells68 : Tryd.prog.cellsOf 68 = 1 := by kernel_rfl
@[simp] theorem ty_bytes68 : Tryd.prog.bytesOf 68 = 8 := by kernel_rfl
@[simp] theorem ty_cells69 : Tryd.prog.cellsOf 69 = 1 := by kernel_rfl
@[simp] theorem ty_bytes69 : Tryd.prog.bytesOf 69 = 8 := by kernel_rfl
@[simp] theorem ty_cells70 : Tryd.prog.cellsOf 70 = 1 := by kernel_rfl
@[simp] theorem ty_bytes70 : Tryd.prog.bytesOf 70 = 8 := by kernel_rfl
@[simp] theorem ty_cells71 : Tryd.prog.cellsOf 71 = 1 := by kernel_rfl
@[simp] theorem ty_bytes71 : Tryd.prog.bytesOf 71 = 8 := by kernel_rfl
@[simp] theorem ty_cells72 : Tryd.prog.cellsOf 72 = 1 := by kernel_rfl
@[simp] theorem ty_bytes72 : Tryd.prog.bytesOf 72 = 8 := by kernel_rfl
@[simp] theorem ty_cells73 : Tryd.prog.cellsOf 73 = 1 := by kernel_rfl
@[simp] theorem ty_bytes73 : Tryd.prog.bytesOf 73 = 8 := by kernel_rfl
@[simp] theorem ty_cells74 : Tryd.prog.cellsOf 74 = 1 := by kernel_rfl
@[simp] theorem ty_bytes74 : Tryd.prog.bytesOf 74 = 8 := by kernel_rfl
@[simp] theorem ty_cells75 : Tryd.prog.cellsOf 75 = 1 := by kernel_rfl
@[simp] theorem ty_bytes75 : Tryd.prog.bytesOf 75 = 8 := by kernel_rfl
@[simp] theorem ty_cells76 : Tryd.prog.cellsOf 76 = 1 := by kernel_rfl
@[simp] theorem ty_bytes76 : Tryd.prog.bytesOf 76 = 8 := by kernel_rfl
@[simp] theorem ty_cells77 : Tryd.prog.cellsOf 77 = 1 := by kernel_rfl
@[simp] theorem ty_bytes77 : Tryd.prog.bytesOf 77 = 8 := by kernel_rfl
@[simp] theorem ty_cells78 : Tryd.prog.cellsOf 78 = 1 := by kernel_rfl
@[simp] theorem ty_bytes78 : Tryd.prog.bytesOf 78 = 8 := by kernel_rfl
@[simp] theorem ty_map78 : mapOf Tryd.prog 78 = some (3, 62) := by kernel_rfl
@[simp] theorem ty_cells80 : Tryd.prog.cellsOf 80 = 1 := by kernel_rfl
@[simp] theorem ty_bytes80 : Tryd.prog.bytesOf 80 = 8 := by kernel_rfl
@[simp] theorem ty_cells81 : Tryd.prog.cellsOf 81 = 1 := by kernel_rfl
@[simp] theorem ty_bytes81 : Tryd.prog.bytesOf 81 = 8 := by kernel_rfl
@[simp] theorem ty_cells82 : Tryd.prog.cellsOf 82 = 1 := by kernel_rfl
@[simp] theorem ty_bytes82 : Tryd.prog.bytesOf 82 = 8 := by kernel_rfl
@[simp] theorem ty_cells84 : Tryd.prog.cellsOf 84 = 1 := by kernel_rfl
@[simp] theorem ty_bytes84 : Tryd.prog.bytesOf 84 = 8 := by kernel_rfl
@[simp] theorem ty_cells85 : Tryd.prog.cellsOf 85 = 1 := by kernel_rfl
@[simp] theorem ty_bytes85 : Tryd.prog.bytesOf 85 = 8 := by kernel_rfl
@[simp] theorem ty_map85 : mapOf Tryd.prog 85 = some (9, 4) := by kernel_rfl
@[simp] theorem ty_cells86 : Tryd.prog.cellsOf 86 = 1 := by kernel_rfl
@[simp] theorem ty_bytes86 : Tryd.prog.bytesOf 86 = 8 := by kernel_rfl
@[simp] theorem ty_cells87 : Tryd.prog.cellsOf 87 = 1 := by kernel_rfl
@[simp] theorem ty_bytes87 : Tryd.prog.bytesOf 87 = 8 := by kernel_rfl
@[simp] theorem ty_cells88 : Tryd.prog.cellsOf 88 = 1 := by kernel_rfl
@[simp] theorem ty_bytes88 : Tryd.prog.bytesOf 88 = 8 := by kernel_rfl
@[simp] theorem ty_cells89 : Tryd.prog.cellsOf 89 = 1 := by kernel_rfl
@[simp] theorem ty_bytes89 : Tryd.prog.bytesOf 89 = 8 := by kernel_rfl
@[simp] theorem ty_cells90 : Tryd.prog.cellsOf 90 = 42 := by kernel_rfl
@[simp] theorem ty_bytes90 : Tryd.prog.bytesOf 90 = 672 := by kernel_rfl
@[simp] theorem ty_zeroD90 : zeroD Tryd.prog 90 = some [.str [], .str [], .str [], .str [], .str [], .str [], .str [], .str [], .str [], .str [], .str [], .str [], .str [], .str [], .str [], .str [], .str [], .str [], .str [], .str [], .str [], .str [], .str [], .str [], .str [], .str [], .str [], .str [], .str [], .str [], .str [], .str [], .str [], .str [], .str [], .str [], .str [], .str [], .str [], .str [], .str [], .str []] := by kernel_rfl
@[simp] theorem ty_cells91 : Tryd.prog.cellsOf 91 = 1 := by kernel_rfl
@[simp] theorem ty_bytes91 : Tryd.prog.bytesOf 91 = 8 := by kernel_rfl
@[simp] theorem ty_cells92 : Tryd.prog.cellsOf 92 = 4 := by kernel_rfl
@[simp] theorem ty_bytes92 : Tryd.prog.bytesOf 92 = 40 := by kernel_rfl
@[simp] theorem ty_field92_0 : fieldOf Tryd.prog 92 0 = some (0, 17) := by kernel_rfl
@[simp] theorem ty_field92_1 : fieldOf Tryd.prog 92 1 = some (1, 17) := by kernel_rfl
@[simp] theorem ty_field92_2 : fieldOf Tryd.prog 92 2 = some (2, 17) := by kernel_rfl
@[simp] theorem ty_field92_3 : fieldOf Tryd.prog 92 3 = some (3, 9) := by kernel_rfl
@[simp] theorem ty_cells93 : Tryd.prog.cellsOf 93 = 4 := by kernel_rfl
@[simp] theorem ty_bytes93 : Tryd.prog.bytesOf 93 = 40 := by kernel_rfl
@[simp] theorem ty_field93_0 : fieldOf Tryd.prog 93 0 = some (0, 17) := by kernel_rfl
@[simp] theorem ty_field93_1 : fieldOf Tryd.prog 93 1 = some (1, 17) := by kernel_rfl
@[simp] theorem ty_field93_2 : fieldOf Tryd.prog 93 2 = some (2, 17) := by kernel_rfl
@[simp] theorem ty_field93_3 : fieldOf Tryd.prog 93 3 = some (3, 9) := by kernel_rfl
@[simp] theorem ty_cells94 : Tryd.prog.cellsOf 94 = 0 := by kernel_rfl
@[simp] theorem ty_bytes94 : Tryd.prog.bytesOf 94 = 0 := by kernel_rfl
@[simp] theorem ty_cells95 : Tryd.prog.cellsOf 95 = 0 := by kernel_rfl
@[simp] theorem ty_bytes95 : Tryd.prog.bytesOf 95 = 0 := by kernel_rfl
@[simp] theorem ty_field95_0 : fieldOf Tryd.prog 95 0 = some (0, 94) := by kernel_rfl
@[simp] theorem ty_cells96 : Tryd.prog.cellsOf 96 = 0 := by kernel_rfl
@[simp] theorem ty_bytes96 : Tryd.prog.bytesOf 96 = 0 := by kernel_rfl
@[simp] theorem ty_field96_0 : fieldOf Tryd.prog 96 0 = some (0, 94) := by kernel_rfl
@[simp] theorem ty_cells97 : Tryd.prog.cellsOf 97 = 1 := by kernel_rfl
@[simp] theorem ty_bytes97 : Tryd.prog.bytesOf 97 = 8 := by kernel_rfl
@[simp] theorem ty_cells98 : Tryd.prog.cellsOf 98 = 1 := by kernel_rfl
@[simp] theorem ty_bytes98 : Tryd.prog.bytesOf 98 = 4 := by kernel_rfl
@[simp] theorem ty_zeroD98 : zeroD Tryd.prog 98 = some [.int .u32 0] := by kernel_rfl
@[simp] theorem ty_zeroV98 : zeroValD Tryd.prog 98 = some (.int .u32 0) := by kernel_rfl
@[simp] theorem ty_cells99 : Tryd.prog.cellsOf 99 = 1 := by kernel_rfl
@[simp] theorem ty_bytes99 : Tryd.prog.bytesOf 99 = 1 := by kernel_rfl
@[simp] theorem ty_zeroD99 : zeroD Tryd.prog 99 = some [.int .u8 0] := by kernel_rfl
@[simp] theorem ty_zeroV99 : zeroValD Tryd.prog 99 = some (.int .u8 0) := by kernel_rfl
@[simp] theorem ty_cells100 : Tryd.prog.cellsOf 100 = 1 := by kernel_rfl
@[simp] theorem ty_bytes100 : Tryd.prog.bytesOf 100 = 1 := by kernel_rfl
@[simp] theorem ty_zeroD100 : zeroD Tryd.prog 100 = some [.int .u8 0] := by kernel_rfl
@[simp] theorem ty_zeroV100 : zeroValD Tryd.prog 100 = some (.int .u8 0) := by kernel_rfl
@[simp] theorem ty_cells101 : Tryd.prog.cellsOf 101 = 1 := by kernel_rfl
@[simp] theorem ty_bytes101 : Tryd.prog.bytesOf 101 = 8 := by kernel_rfl
@[simp] theorem ty_cells102 : Tryd.prog.cellsOf 102 = 1 := by kernel_rfl
@[simp] theorem ty_bytes102 : Tryd.prog.bytesOf 102 = 8 := by kernel_rfl
@[simp] theorem ty_cells103 : Tryd.prog.cellsOf 103 = 1 := by kernel_rfl
@[simp] theorem ty_bytes103 : Tryd.prog.bytesOf 103 = 4 := by kernel_rfl
@[simp] theorem ty_zeroD103 : zeroD Tryd.prog 103 = some [.int .i32 0] := by kernel_rfl
@[simp] theorem ty_zeroV103 : zeroValD Tryd.prog 103 = some (.int .i32 0) := by kernel_rfl
@[simp] theorem ty_cells104 : Tryd.prog.cellsOf 104 = 1 := by kernel_rfl
@[simp] theorem ty_bytes104 : Tryd.prog.bytesOf 104 = 4 := by kernel_rfl
@[simp] theorem ty_zeroD104 : zeroD Tryd.prog 104 = some [.int .i32 0] := by kernel_rfl
@[simp] theorem ty_zeroV104 : zeroValD Tryd.prog 104 = some (.int .i32 0) := by kernel_rfl
@[simp] theorem ty_cells105 : Tryd.prog.cellsOf 105 = 11 := by kernel_rfl
@[simp] theorem ty_bytes105 : Tryd.prog.bytesOf 105 = 48 := by kernel_rfl
@[simp] theorem ty_field105_0 : fieldOf Tryd.prog 105 0 = some (0, 12) := by kernel_rfl
@[simp] theorem ty_field105_1 : fieldOf Tryd.prog 105 1 = some (1, 12) := by kernel_rfl
@[simp] theorem ty_field105_2 : fieldOf Tryd.prog 105 2 = some (2, 98) := by kernel_rfl
@[simp] theorem ty_field105_3 : fieldOf Tryd.prog 105 3 = some (3, 99) := by kernel_rfl
@[simp] theorem ty_field105_4 : fieldOf Tryd.prog 105 4 = some (4, 5) := by kernel_rfl
@[simp] theorem ty_field105_5 : fieldOf Tryd.prog 105 5 = some (5, 5) := by kernel_rfl
@[simp] theorem ty_field105_6 : fieldOf Tryd.prog 105 6 = some (6, 100) := by kernel_rfl
@[simp] theorem ty_field105_7 : fieldOf Tryd.prog 105 7 = some (7, 101) := by kernel_rfl
@[simp] theorem ty_field105_8 : fieldOf Tryd.prog 105 8 = some (8, 102) := by kernel_rfl
@[simp] theorem ty_field105_9 : fieldOf Tryd.prog 105 9 = some (9, 103) := by kernel_rfl
@[simp] theorem ty_field105_10 : fieldOf Tryd.prog 105 10 = some (10, 104) := by kernel_rfl
@[simp] theorem ty_cells106 : Tryd.prog.cellsOf 106 = 11 := by kernel_rfl
@[simp] theorem ty_bytes106 : Tryd.prog.bytesOf 106 = 48 := by kernel_rfl
@[simp] theorem ty_field106_0 : fieldOf Tryd.prog 106 0 = some (0, 12) := by kernel_rfl
@[simp] theorem ty_field106_1 : fieldOf Tryd.prog 106 1 = some (1, 12) := by kernel_rfl
@[simp] theorem ty_field106_2 : fieldOf Tryd.prog 106 2 = some (2, 98) := by kernel_rfl
@[simp] theorem ty_field106_3 : fieldOf Tryd.prog 106 3 = some (3, 99) := by kernel_rfl
@[simp] theorem ty_field106_4 : fieldOf Tryd.prog 106 4 = some (4, 5) := by kernel_rfl
@[simp] theorem ty_field106_5 : fieldOf Tryd.prog 106 5 = some (5, 5) := by kernel_rfl
@[simp] theorem ty_field106_6 : fieldOf Tryd.prog 106 6 = some (6, 100) := by kernel_rfl
@[simp] theorem ty_field106_7 : fieldOf Tryd.prog 106 7 = some (7, 101) := by kernel_rfl
@[simp] theorem ty_field106_8 : fieldOf Tryd.prog 106 8 = some (8, 102) := by kernel_rfl
@[simp] theorem ty_field106_9 : fieldOf Tryd.prog 106 9 = some (9, 103) := by kernel_rfl
@[simp] theorem ty_field106_10 : fieldOf Tryd.prog 106 10 = some (10, 104) := by kernel_rfl
@[simp] theorem ty_elemOk9 : elemOk Tryd.prog 9 = true := by kernel_rfl
@[simp] theorem ty_elemOk22 : elemOk Tryd.prog 22 = true := by kernel_rfl
@[simp] theorem ty_elemOk25 : elemOk Tryd.prog 25 = true := by kernel_rfl
@[simp] theorem ty_elemOk44 : elemOk Tryd.prog 44 = true := by kernel_rfl
@[simp] theorem ty_elemOk56 : elemOk Tryd.prog 56 = true := by kernel_rfl
@[simp] theorem ty_elemOk58 : elemOk Tryd.prog 58 = true := by kernel_rfl
@[simp] theorem ty_elemOk62 : elemOk Tryd.prog 62 = true := by kernel_rfl
end Go.Proofs.YthhfdlhbhfkbdaaDoor
