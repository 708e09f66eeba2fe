/- The facts on this translation's types that the machine on data asks, one closed fact each. By a program of ours. No condition. -/
import Derived.Test.YtdnkdeplpnbojaaDoorVmG
import Derived.KernelRfl
import Derived.Test.YtdnkdeplpnbojaaDoorProg
set_option linter.unusedVariables false
set_option linter.unusedSimpArgs false
namespace Go.Proofs.YtdnkdeplpnbojaaDoor
open Go Go.VM
@[simp] theorem ty_cells1 : Tryd.prog.cellsOf 1 = 1 := by kernel_rfl
@[simp] theorem ty_bytes1 : Tryd.prog.bytesOf 1 = 8 := by kernel_rfl
@[simp] theorem ty_cells2 : Tryd.prog.cellsOf 2 = 1 := by kernel_rfl
@[simp] theorem ty_bytes2 : Tryd.prog.bytesOf 2 = 8 := by kernel_rfl
@[simp] theorem ty_zeroD2 : zeroD Tryd.prog 2 = some [.int .i64 0] := by kernel_rfl
@[simp] theorem ty_zeroV2 : zeroValD Tryd.prog 2 = some (.int .i64 0) := by kernel_rfl
@[simp] theorem ty_cells3 : Tryd.prog.cellsOf 3 = 1 := by kernel_rfl
@[simp] theorem ty_bytes3 : Tryd.prog.bytesOf 3 = 8 := by kernel_rfl
@[simp] theorem ty_zeroD3 : zeroD Tryd.prog 3 = some [.int .i64 0] := by kernel_rfl
@[simp] theorem ty_zeroV3 : zeroValD Tryd.prog 3 = some (.int .i64 0) := by kernel_rfl
@[simp] theorem ty_cells4 : Tryd.prog.cellsOf 4 = 1 := by kernel_rfl
@[simp] theorem ty_bytes4 : Tryd.prog.bytesOf 4 = 1 := by kernel_rfl
@[simp] theorem ty_zeroD4 : zeroD Tryd.prog 4 = some [.bool false] := by kernel_rfl
@[simp] theorem ty_zeroV4 : zeroValD Tryd.prog 4 = some (.bool false) := by kernel_rfl
@[simp] theorem ty_cells5 : Tryd.prog.cellsOf 5 = 1 := by kernel_rfl
@[simp] theorem ty_bytes5 : Tryd.prog.bytesOf 5 = 1 := by kernel_rfl
@[simp] theorem ty_zeroD5 : zeroD Tryd.prog 5 = some [.int .u8 0] := by kernel_rfl
@[simp] theorem ty_zeroV5 : zeroValD Tryd.prog 5 = some (.int .u8 0) := by kernel_rfl
@[simp] theorem ty_cells6 : Tryd.prog.cellsOf 6 = 1 := by kernel_rfl
@[simp] theorem ty_bytes6 : Tryd.prog.bytesOf 6 = 1 := by kernel_rfl
@[simp] theorem ty_zeroD6 : zeroD Tryd.prog 6 = some [.int .u8 0] := by kernel_rfl
@[simp] theorem ty_zeroV6 : zeroValD Tryd.prog 6 = some (.int .u8 0) := by kernel_rfl
@[simp] theorem ty_cells7 : Tryd.prog.cellsOf 7 = 4 := by kernel_rfl
@[simp] theorem ty_bytes7 : Tryd.prog.bytesOf 7 = 24 := by kernel_rfl
@[simp] theorem ty_zeroD7 : zeroD Tryd.prog 7 = some [.int .i64 0, .int .i64 0, .bool false, .int .u8 0] := by kernel_rfl
@[simp] theorem ty_zeroV7 : zeroValD Tryd.prog 7 = some (.agg [.int .i64 0, .int .i64 0, .bool false, .int .u8 0]) := by kernel_rfl
@[simp] theorem ty_isStruct7 : isStruct Tryd.prog 7 = true := by kernel_rfl
@[simp] theorem ty_field7_0 : fieldOf Tryd.prog 7 0 = some (0, 2) := by kernel_rfl
@[simp] theorem ty_field7_1 : fieldOf Tryd.prog 7 1 = some (1, 3) := by kernel_rfl
@[simp] theorem ty_field7_2 : fieldOf Tryd.prog 7 2 = some (2, 4) := by kernel_rfl
@[simp] theorem ty_field7_3 : fieldOf Tryd.prog 7 3 = some (3, 6) := by kernel_rfl
@[simp] theorem ty_cells8 : Tryd.prog.cellsOf 8 = 4 := by kernel_rfl
@[simp] theorem ty_bytes8 : Tryd.prog.bytesOf 8 = 24 := by kernel_rfl
@[simp] theorem ty_zeroD8 : zeroD Tryd.prog 8 = some [.int .i64 0, .int .i64 0, .bool false, .int .u8 0] := by kernel_rfl
@[simp] theorem ty_zeroV8 : zeroValD Tryd.prog 8 = some (.agg [.int .i64 0, .int .i64 0, .bool false, .int .u8 0]) := by kernel_rfl
@[simp] theorem ty_isStruct8 : isStruct Tryd.prog 8 = true := by kernel_rfl
@[simp] theorem ty_field8_0 : fieldOf Tryd.prog 8 0 = some (0, 2) := by kernel_rfl
@[simp] theorem ty_field8_1 : fieldOf Tryd.prog 8 1 = some (1, 3) := by kernel_rfl
@[simp] theorem ty_field8_2 : fieldOf Tryd.prog 8 2 = some (2, 4) := by kernel_rfl
@[simp] theorem ty_field8_3 : fieldOf Tryd.prog 8 3 = some (3, 6) := by kernel_rfl
@[simp] theorem ty_cells9 : Tryd.prog.cellsOf 9 = 1 := by kernel_rfl
@[simp] theorem ty_bytes9 : Tryd.prog.bytesOf 9 = 16 := by kernel_rfl
@[simp] theorem ty_zeroD9 : zeroD Tryd.prog 9 = some [.str []] := by kernel_rfl
@[simp] theorem ty_zeroV9 : zeroValD Tryd.prog 9 = some (.str []) := by kernel_rfl
@[simp] theorem ty_cells10 : Tryd.prog.cellsOf 10 = 1 := by kernel_rfl
@[simp] theorem ty_bytes10 : Tryd.prog.bytesOf 10 = 16 := by kernel_rfl
@[simp] theorem ty_zeroD10 : zeroD Tryd.prog 10 = some [.str []] := by kernel_rfl
@[simp] theorem ty_zeroV10 : zeroValD Tryd.prog 10 = some (.str []) := by kernel_rfl
@[simp] theorem ty_cells11 : Tryd.prog.cellsOf 11 = 1 := by kernel_rfl
@[simp] theorem ty_bytes11 : Tryd.prog.bytesOf 11 = 16 := by kernel_rfl
@[simp] theorem ty_zeroD11 : zeroD Tryd.prog 11 = some [.str []] := by kernel_rfl
@[simp] theorem ty_zeroV11 : zeroValD Tryd.prog 11 = some (.str []) := by kernel_rfl
@[simp] theorem ty_cells12 : Tryd.prog.cellsOf 12 = 1 := by kernel_rfl
@[simp] theorem ty_bytes12 : Tryd.prog.bytesOf 12 = 8 := by kernel_rfl
@[simp] theorem ty_zeroD12 : zeroD Tryd.prog 12 = some [.int .u64 0] := by kernel_rfl
@[simp] theorem ty_zeroV12 : zeroValD Tryd.prog 12 = some (.int .u64 0) := by kernel_rfl
@[simp] theorem ty_cells13 : Tryd.prog.cellsOf 13 = 2 := by kernel_rfl
@[simp] theorem ty_bytes13 : Tryd.prog.bytesOf 13 = 24 := by kernel_rfl
@[simp] theorem ty_zeroD13 : zeroD Tryd.prog 13 = some [.str [], .int .u64 0] := by kernel_rfl
@[simp] theorem ty_zeroV13 : zeroValD Tryd.prog 13 = some (.agg [.str [], .int .u64 0]) := by kernel_rfl
@[simp] theorem ty_isStruct13 : isStruct Tryd.prog 13 = true := by kernel_rfl
@[simp] theorem ty_field13_0 : fieldOf Tryd.prog 13 0 = some (0, 9) := by kernel_rfl
@[simp] theorem ty_field13_1 : fieldOf Tryd.prog 13 1 = some (1, 12) := by kernel_rfl
@[simp] theorem ty_cells14 : Tryd.prog.cellsOf 14 = 2 := by kernel_rfl
@[simp] theorem ty_bytes14 : Tryd.prog.bytesOf 14 = 24 := by kernel_rfl
@[simp] theorem ty_zeroD14 : zeroD Tryd.prog 14 = some [.str [], .int .u64 0] := by kernel_rfl
@[simp] theorem ty_zeroV14 : zeroValD Tryd.prog 14 = some (.agg [.str [], .int .u64 0]) := by kernel_rfl
@[simp] theorem ty_isStruct14 : isStruct Tryd.prog 14 = true := by kernel_rfl
@[simp] theorem ty_field14_0 : fieldOf Tryd.prog 14 0 = some (0, 9) := by kernel_rfl
@[simp] theorem ty_field14_1 : fieldOf Tryd.prog 14 1 = some (1, 12) := by kernel_rfl
@[simp] theorem ty_cells15 : Tryd.prog.cellsOf 15 = 1 := by kernel_rfl
@[simp] theorem ty_bytes15 : Tryd.prog.bytesOf 15 = 8 := by kernel_rfl
@[simp] theorem ty_cells16 : Tryd.prog.cellsOf 16 = 1 := by kernel_rfl
@[simp] theorem ty_bytes16 : Tryd.prog.bytesOf 16 = 8 := by kernel_rfl
@[simp] theorem ty_cells17 : Tryd.prog.cellsOf 17 = 1 := by kernel_rfl
@[simp] theorem ty_bytes17 : Tryd.prog.bytesOf 17 = 8 := by kernel_rfl
@[simp] theorem ty_cells18 : Tryd.prog.cellsOf 18 = 1 := by kernel_rfl
@[simp] theorem ty_bytes18 : Tryd.prog.bytesOf 18 = 8 := by kernel_rfl
@[simp] theorem ty_field18_0 : fieldOf Tryd.prog 18 0 = some (0, 17) := by kernel_rfl
@[simp] theorem ty_cells19 : Tryd.prog.cellsOf 19 = 1 := by kernel_rfl
@[simp] theorem ty_bytes19 : Tryd.prog.bytesOf 19 = 8 := by kernel_rfl
@[simp] theorem ty_field19_0 : fieldOf Tryd.prog 19 0 = some (0, 17) := by kernel_rfl
@[simp] theorem ty_cells21 : Tryd.prog.cellsOf 21 = 1 := by kernel_rfl
@[simp] theorem ty_bytes21 : Tryd.prog.bytesOf 21 = 4 := by kernel_rfl
@[simp] theorem ty_zeroD21 : zeroD Tryd.prog 21 = some [.int .i32 0] := by kernel_rfl
@[simp] theorem ty_zeroV21 : zeroValD Tryd.prog 21 = some (.int .i32 0) := by kernel_rfl
@[simp] theorem ty_cells23 : Tryd.prog.cellsOf 23 = 1 := by kernel_rfl
@[simp] theorem ty_bytes23 : Tryd.prog.bytesOf 23 = 8 := by kernel_rfl
@[simp] theorem ty_cells24 : Tryd.prog.cellsOf 24 = 1 := by kernel_rfl
@[simp] theorem ty_bytes24 : Tryd.prog.bytesOf 24 = 8 := by kernel_rfl
@[simp] theorem ty_cells25 : Tryd.prog.cellsOf 25 = 1 := by kernel_rfl
@[simp] theorem ty_bytes25 : Tryd.prog.bytesOf 25 = 8 := by kernel_rfl
@[simp] theorem ty_cells26 : Tryd.prog.cellsOf 26 = 1 := by kernel_rfl
@[simp] theorem ty_bytes26 : Tryd.prog.bytesOf 26 = 8 := by kernel_rfl
@[simp] theorem ty_cells27 : Tryd.prog.cellsOf 27 = 1 := by kernel_rfl
@[simp] theorem ty_bytes27 : Tryd.prog.bytesOf 27 = 8 := by kernel_rfl
@[simp] theorem ty_cells28 : Tryd.prog.cellsOf 28 = 1 := by kernel_rfl
@[simp] theorem ty_bytes28 : Tryd.prog.bytesOf 28 = 8 := by kernel_rfl
@[simp] theorem ty_cells29 : Tryd.prog.cellsOf 29 = 1 := by kernel_rfl
@[simp] theorem ty_bytes29 : Tryd.prog.bytesOf 29 = 8 := by kernel_rfl
@[simp] theorem ty_cells30 : Tryd.prog.cellsOf 30 = 1 := by kernel_rfl
@[simp] theorem ty_bytes30 : Tryd.prog.bytesOf 30 = 8 := by kernel_rfl
@[simp] theorem ty_cells31 : Tryd.prog.cellsOf 31 = 1 := by kernel_rfl
@[simp] theorem ty_bytes31 : Tryd.prog.bytesOf 31 = 8 := by kernel_rfl
@[simp] theorem ty_cells32 : Tryd.prog.cellsOf 32 = 1 := by kernel_rfl
@[simp] theorem ty_bytes32 : Tryd.prog.bytesOf 32 = 8 := by kernel_rfl
@[simp] theorem ty_cells33 : Tryd.prog.cellsOf 33 = 1 := by kernel_rfl
@[simp] theorem ty_bytes33 : Tryd.prog.bytesOf 33 = 8 := by kernel_rfl
@[simp] theorem ty_zeroD33 : zeroD Tryd.prog 33 = some [.int .i64 0] := by kernel_rfl
@[simp] theorem ty_zeroV33 : zeroValD Tryd.prog 33 = some (.int .i64 0) := by kernel_rfl
@[simp] theorem ty_cells34 : Tryd.prog.cellsOf 34 = 1 := by kernel_rfl
@[simp] theorem ty_bytes34 : Tryd.prog.bytesOf 34 = 8 := by kernel_rfl
@[simp] theorem ty_zeroD34 : zeroD Tryd.prog 34 = some [.int .i64 0] := by kernel_rfl
@[simp] theorem ty_zeroV34 : zeroValD Tryd.prog 34 = some (.int .i64 0) := by kernel_rfl
@[simp] theorem ty_cells35 : Tryd.prog.cellsOf 35 = 1 := by kernel_rfl
@[simp] theorem ty_bytes35 : Tryd.prog.bytesOf 35 = 24 := by kernel_rfl
@[simp] theorem ty_zeroD35 : zeroD Tryd.prog 35 = some [.nils] := by kernel_rfl
@[simp] theorem ty_zeroV35 : zeroValD Tryd.prog 35 = some (.nils) := by kernel_rfl
@[simp] theorem ty_elem35 : elemOfD Tryd.prog 35 = some 9 := by kernel_rfl
@[simp] theorem ty_cells36 : Tryd.prog.cellsOf 36 = 4 := by kernel_rfl
@[simp] theorem ty_bytes36 : Tryd.prog.bytesOf 36 = 64 := by kernel_rfl
@[simp] theorem ty_zeroD36 : zeroD Tryd.prog 36 = some [.int .i64 0, .str [], .str [], .nils] := by kernel_rfl
@[simp] theorem ty_zeroV36 : zeroValD Tryd.prog 36 = some (.agg [.int .i64 0, .str [], .str [], .nils]) := by kernel_rfl
@[simp] theorem ty_isStruct36 : isStruct Tryd.prog 36 = true := by kernel_rfl
@[simp] theorem ty_field36_0 : fieldOf Tryd.prog 36 0 = some (0, 34) := by kernel_rfl
@[simp] theorem ty_field36_1 : fieldOf Tryd.prog 36 1 = some (1, 9) := by kernel_rfl
@[simp] theorem ty_field36_2 : fieldOf Tryd.prog 36 2 = some (2, 9) := by kernel_rfl
@[simp] theorem ty_field36_3 : fieldOf Tryd.prog 36 3 = some (3, 35) := by kernel_rfl
@[simp] theorem ty_cells37 : Tryd.prog.cellsOf 37 = 4 := by kernel_rfl
@[simp] theorem ty_bytes37 : Tryd.prog.bytesOf 37 = 64 := by kernel_rfl
@[simp] theorem ty_zeroD37 : zeroD Tryd.prog 37 = some [.int .i64 0, .str [], .str [], .nils] := by kernel_rfl
@[simp] theorem ty_zeroV37 : zeroValD Tryd.prog 37 = some (.agg [.int .i64 0, .str [], .str [], .nils]) := by kernel_rfl
@[simp] theorem ty_isStruct37 : isStruct Tryd.prog 37 = true := by kernel_rfl
@[simp] theorem ty_field37_0 : fieldOf Tryd.prog 37 0 = some (0, 34) := by kernel_rfl
@[simp] theorem ty_field37_1 : fieldOf Tryd.prog 37 1 = some (1, 9) := by kernel_rfl
@[simp] theorem ty_field37_2 : fieldOf Tryd.prog 37 2 = some (2, 9) := by kernel_rfl
@[simp] theorem ty_field37_3 : fieldOf Tryd.prog 37 3 = some (3, 35) := by kernel_rfl
@[simp] theorem ty_cells38 : Tryd.prog.cellsOf 38 = 1 := by kernel_rfl
@[simp] theorem ty_bytes38 : Tryd.prog.bytesOf 38 = 24 := by kernel_rfl
@[simp] theorem ty_zeroD38 : zeroD Tryd.prog 38 = some [.nils] := by kernel_rfl
@[simp] theorem ty_zeroV38 : zeroValD Tryd.prog 38 = some (.nils) := by kernel_rfl
@[simp] theorem ty_elem38 : elemOfD Tryd.prog 38 = some 66 := by kernel_rfl
@[simp] theorem ty_cells39 : Tryd.prog.cellsOf 39 = 1 := by kernel_rfl
@[simp] theorem ty_bytes39 : Tryd.prog.bytesOf 39 = 24 := by kernel_rfl
@[simp] theorem ty_zeroD39 : zeroD Tryd.prog 39 = some [.nils] := by kernel_rfl
@[simp] theorem ty_zeroV39 : zeroValD Tryd.prog 39 = some (.nils) := by kernel_rfl
@[simp] theorem ty_elem39 : elemOfD Tryd.prog 39 = some 66 := by kernel_rfl
@[simp] theorem ty_cells40 : Tryd.prog.cellsOf 40 = 1 := by kernel_rfl
@[simp] theorem ty_bytes40 : Tryd.prog.bytesOf 40 = 8 := by kernel_rfl
@[simp] theorem ty_cells41 : Tryd.prog.cellsOf 41 = 1 := by kernel_rfl
@[simp] theorem ty_bytes41 : Tryd.prog.bytesOf 41 = 8 := by kernel_rfl
@[simp] theorem ty_cells42 : Tryd.prog.cellsOf 42 = 1 := by kernel_rfl
@[simp] theorem ty_bytes42 : Tryd.prog.bytesOf 42 = 8 := by kernel_rfl
@[simp] theorem ty_cells43 : Tryd.prog.cellsOf 43 = 1 := by kernel_rfl
@[simp] theorem ty_bytes43 : Tryd.prog.bytesOf 43 = 8 := by kernel_rfl
@[simp] theorem ty_cells44 : Tryd.prog.cellsOf 44 = 1 := by kernel_rfl
@[simp] theorem ty_bytes44 : Tryd.prog.bytesOf 44 = 24 := by kernel_rfl
@[simp] theorem ty_zeroD44 : zeroD Tryd.prog 44 = some [.nils] := by kernel_rfl
@[simp] theorem ty_zeroV44 : zeroValD Tryd.prog 44 = some (.nils) := by kernel_rfl
@[simp] theorem ty_elem44 : elemOfD Tryd.prog 44 = some 71 := by kernel_rfl
@[simp] theorem ty_cells45 : Tryd.prog.cellsOf 45 = 9 := by kernel_rfl
@[simp] theorem ty_bytes45 : Tryd.prog.bytesOf 45 = 144 := by kernel_rfl
@[simp] theorem ty_zeroD45 : zeroD Tryd.prog 45 = some [.str [], .int .i64 0, .int .i64 0, .str [], .str [], .nils, .nils, .nils, .bool false] := by kernel_rfl
@[simp] theorem ty_zeroV45 : zeroValD Tryd.prog 45 = some (.agg [.str [], .int .i64 0, .int .i64 0, .str [], .str [], .nils, .nils, .nils, .bool false]) := by kernel_rfl
@[simp] theorem ty_isStruct45 : isStruct Tryd.prog 45 = true := by kernel_rfl
@[simp] theorem ty_field45_0 : fieldOf Tryd.prog 45 0 = some (0, 9) := by kernel_rfl
@[simp] theorem ty_field45_1 : fieldOf Tryd.prog 45 1 = some (1, 33) := by kernel_rfl
@[simp] theorem ty_field45_2 : fieldOf Tryd.prog 45 2 = some (2, 37) := by kernel_rfl
@[simp] theorem ty_field45_3 : fieldOf Tryd.prog 45 3 = some (6, 39) := by kernel_rfl
@[simp] theorem ty_field45_4 : fieldOf Tryd.prog 45 4 = some (7, 44) := by kernel_rfl
@[simp] theorem ty_field45_5 : fieldOf Tryd.prog 45 5 = some (8, 4) := by kernel_rfl
@[simp] theorem ty_cells46 : Tryd.prog.cellsOf 46 = 9 := by kernel_rfl
@[simp] theorem ty_bytes46 : Tryd.prog.bytesOf 46 = 144 := by kernel_rfl
@[simp] theorem ty_zeroD46 : zeroD Tryd.prog 46 = some [.str [], .int .i64 0, .int .i64 0, .str [], .str [], .nils, .nils, .nils, .bool false] := by kernel_rfl
@[simp] theorem ty_zeroV46 : zeroValD Tryd.prog 46 = some (.agg [.str [], .int .i64 0, .int .i64 0, .str [], .str [], .nils, .nils, .nils, .bool false]) := by kernel_rfl
@[simp] theorem ty_isStruct46 : isStruct Tryd.prog 46 = true := by kernel_rfl
@[simp] theorem ty_field46_0 : fieldOf Tryd.prog 46 0 = some (0, 9) := by kernel_rfl
@[simp] theorem ty_field46_1 : fieldOf Tryd.prog 46 1 = some (1, 33) := by kernel_rfl
@[simp] theorem ty_field46_2 : fieldOf Tryd.prog 46 2 = some (2, 37) := by kernel_rfl
@[simp] theorem ty_field46_3 : fieldOf Tryd.prog 46 3 = some (6, 39) := by kernel_rfl
@[simp] theorem ty_field46_4 : fieldOf Tryd.prog 46 4 = some (7, 44) := by kernel_rfl
@[simp] theorem ty_field46_5 : fieldOf Tryd.prog 46 5 = some (8, 4) := by kernel_rfl
@[simp] theorem ty_cells47 : Tryd.prog.cellsOf 47 = 1 := by kernel_rfl
@[simp] theorem ty_bytes47 : Tryd.prog.bytesOf 47 = 8 := by kernel_rfl
@[simp] theorem ty_cells48 : Tryd.prog.cellsOf 48 = 1 := by kernel_rfl
@[simp] theorem ty_bytes48 : Tryd.prog.bytesOf 48 = 8 := by kernel_rfl
@[simp] theorem ty_cells49 : Tryd.prog.cellsOf 49 = 1 := by kernel_rfl
@[simp] theorem ty_bytes49 : Tryd.prog.bytesOf 49 = 8 := by kernel_rfl
@[simp] theorem ty_zeroD49 : zeroD Tryd.prog 49 = some [.int .i64 0] := by kernel_rfl
@[simp] theorem ty_zeroV49 : zeroValD Tryd.prog 49 = some (.int .i64 0) := by kernel_rfl
@[simp] theorem ty_cells50 : Tryd.prog.cellsOf 50 = 1 := by kernel_rfl
@[simp] theorem ty_bytes50 : Tryd.prog.bytesOf 50 = 24 := by kernel_rfl
@[simp] theorem ty_zeroD50 : zeroD Tryd.prog 50 = some [.nils] := by kernel_rfl
@[simp] theorem ty_zeroV50 : zeroValD Tryd.prog 50 = some (.nils) := by kernel_rfl
@[simp] theorem ty_elem50 : elemOfD Tryd.prog 50 = some 46 := by kernel_rfl
@[simp] theorem ty_cells51 : Tryd.prog.cellsOf 51 = 1 := by kernel_rfl
@[simp] theorem ty_bytes51 : Tryd.prog.bytesOf 51 = 24 := by kernel_rfl
@[simp] theorem ty_zeroD51 : zeroD Tryd.prog 51 = some [.nils] := by kernel_rfl
@[simp] theorem ty_zeroV51 : zeroValD Tryd.prog 51 = some (.nils) := by kernel_rfl
@[simp] theorem ty_elem51 : elemOfD Tryd.prog 51 = some 126 := by kernel_rfl
@[simp] theorem ty_cells52 : Tryd.prog.cellsOf 52 = 6 := by kernel_rfl
@[simp] theorem ty_bytes52 : Tryd.prog.bytesOf 52 = 104 := by kernel_rfl
@[simp] theorem ty_zeroD52 : zeroD Tryd.prog 52 = some [.str [], .int .i64 0, .nils, .nils, .nils, .int .i64 0] := by kernel_rfl
@[simp] theorem ty_zeroV52 : zeroValD Tryd.prog 52 = some (.agg [.str [], .int .i64 0, .nils, .nils, .nils, .int .i64 0]) := by kernel_rfl
@[simp] theorem ty_isStruct52 : isStruct Tryd.prog 52 = true := by kernel_rfl
@[simp] theorem ty_field52_0 : fieldOf Tryd.prog 52 0 = some (0, 9) := by kernel_rfl
@[simp] theorem ty_field52_1 : fieldOf Tryd.prog 52 1 = some (1, 49) := by kernel_rfl
@[simp] theorem ty_field52_2 : fieldOf Tryd.prog 52 2 = some (2, 50) := by kernel_rfl
@[simp] theorem ty_field52_3 : fieldOf Tryd.prog 52 3 = some (3, 35) := by kernel_rfl
@[simp] theorem ty_field52_4 : fieldOf Tryd.prog 52 4 = some (4, 51) := by kernel_rfl
@[simp] theorem ty_field52_5 : fieldOf Tryd.prog 52 5 = some (5, 3) := by kernel_rfl
@[simp] theorem ty_cells53 : Tryd.prog.cellsOf 53 = 6 := by kernel_rfl
@[simp] theorem ty_bytes53 : Tryd.prog.bytesOf 53 = 104 := by kernel_rfl
@[simp] theorem ty_zeroD53 : zeroD Tryd.prog 53 = some [.str [], .int .i64 0, .nils, .nils, .nils, .int .i64 0] := by kernel_rfl
@[simp] theorem ty_zeroV53 : zeroValD Tryd.prog 53 = some (.agg [.str [], .int .i64 0, .nils, .nils, .nils, .int .i64 0]) := by kernel_rfl
@[simp] theorem ty_isStruct53 : isStruct Tryd.prog 53 = true := by kernel_rfl
@[simp] theorem ty_field53_0 : fieldOf Tryd.prog 53 0 = some (0, 9) := by kernel_rfl
@[simp] theorem ty_field53_1 : fieldOf Tryd.prog 53 1 = some (1, 49) := by kernel_rfl
@[simp] theorem ty_field53_2 : fieldOf Tryd.prog 53 2 = some (2, 50) := by kernel_rfl
@[simp] theorem ty_field53_3 : fieldOf Tryd.prog 53 3 = some (3, 35) := by kernel_rfl
@[simp] theorem ty_field53_4 : fieldOf Tryd.prog 53 4 = some (4, 51) := by kernel_rfl
@[simp] theorem ty_field53_5 : fieldOf Tryd.prog 53 5 = some (5, 3) := by kernel_rfl
@[simp] theorem ty_cells54 : Tryd.prog.cellsOf 54 = 1 := by kernel_rfl
@[simp] theorem ty_bytes54 : Tryd.prog.bytesOf 54 = 8 := by kernel_rfl
@[simp] theorem ty_cells55 : Tryd.prog.cellsOf 55 = 1 := by kernel_rfl
@[simp] theorem ty_bytes55 : Tryd.prog.bytesOf 55 = 8 := by kernel_rfl
@[simp] theorem ty_cells56 : Tryd.prog.cellsOf 56 = 1 := by kernel_rfl
@[simp] theorem ty_bytes56 : Tryd.prog.bytesOf 56 = 8 := by kernel_rfl
@[simp] theorem ty_cells57 : Tryd.prog.cellsOf 57 = 1 := by kernel_rfl
@[simp] theorem ty_bytes57 : Tryd.prog.bytesOf 57 = 8 := by kernel_rfl
@[simp] theorem ty_cells59 : Tryd.prog.cellsOf 59 = 1 := by kernel_rfl
@[simp] theorem ty_bytes59 : Tryd.prog.bytesOf 59 = 8 := by kernel_rfl
@[simp] theorem ty_cells60 : Tryd.prog.cellsOf 60 = 1 := by kernel_rfl
@[simp] theorem ty_bytes60 : Tryd.prog.bytesOf 60 = 8 := by kernel_rfl
@[simp] theorem ty_cells61 : Tryd.prog.cellsOf 61 = 1 := by kernel_rfl
@[simp] theorem ty_bytes61 : Tryd.prog.bytesOf 61 = 8 := by kernel_rfl
@[simp] theorem ty_cells62 : Tryd.prog.cellsOf 62 = 1 := by kernel_rfl
@[simp] theorem ty_bytes62 : Tryd.prog.bytesOf 62 = 24 := by kernel_rfl
@[simp] theorem ty_zeroD62 : zeroD Tryd.prog 62 = some [.nils] := by kernel_rfl
@[simp] theorem ty_zeroV62 : zeroValD Tryd.prog 62 = some (.nils) := by kernel_rfl
@[simp] theorem ty_elem62 : elemOfD Tryd.prog 62 = some 5 := by kernel_rfl
@[simp] theorem ty_cells63 : Tryd.prog.cellsOf 63 = 29 := by kernel_rfl
@[simp] theorem ty_bytes63 : Tryd.prog.bytesOf 63 = 464 := by kernel_rfl
@[simp] theorem ty_zeroD63 : zeroD Tryd.prog 63 = some [.str [], .str [], .str [], .str [], .str [], .str [], .str [], .str [], .str [], .str [], .str [], .str [], .str [], .str [], .str [], .str [], .str [], .str [], .str [], .str [], .str [], .str [], .str [], .str [], .str [], .str [], .str [], .str [], .str []] := by kernel_rfl
@[simp] theorem ty_cells64 : Tryd.prog.cellsOf 64 = 1 := by kernel_rfl
@[simp] theorem ty_bytes64 : Tryd.prog.bytesOf 64 = 8 := by kernel_rfl
@[simp] theorem ty_cells65 : Tryd.prog.cellsOf 65 = 2 := by kernel_rfl
@[simp] theorem ty_bytes65 : Tryd.prog.bytesOf 65 = 24 := by kernel_rfl
@[simp] theorem ty_zeroD65 : zeroD Tryd.prog 65 = some [.str [], .int .i64 0] := by kernel_rfl
@[simp] theorem ty_zeroV65 : zeroValD Tryd.prog 65 = some (.agg [.str [], .int .i64 0]) := by kernel_rfl
@[simp] theorem ty_isStruct65 : isStruct Tryd.prog 65 = true := by kernel_rfl
@[simp] theorem ty_field65_0 : fieldOf Tryd.prog 65 0 = some (0, 9) := by kernel_rfl
@[simp] theorem ty_field65_1 : fieldOf Tryd.prog 65 1 = some (1, 3) := by kernel_rfl
@[simp] theorem ty_cells66 : Tryd.prog.cellsOf 66 = 2 := by kernel_rfl
@[simp] theorem ty_bytes66 : Tryd.prog.bytesOf 66 = 24 := by kernel_rfl
@[simp] theorem ty_zeroD66 : zeroD Tryd.prog 66 = some [.str [], .int .i64 0] := by kernel_rfl
@[simp] theorem ty_zeroV66 : zeroValD Tryd.prog 66 = some (.agg [.str [], .int .i64 0]) := by kernel_rfl
@[simp] theorem ty_isStruct66 : isStruct Tryd.prog 66 = true := by kernel_rfl
@[simp] theorem ty_field66_0 : fieldOf Tryd.prog 66 0 = some (0, 9) := by kernel_rfl
@[simp] theorem ty_field66_1 : fieldOf Tryd.prog 66 1 = some (1, 3) := by kernel_rfl
@[simp] theorem ty_flat66 : flatDescs Tryd.prog 66 = some [.string, .int .i64] := by kernel_rfl
@[simp] theorem ty_cells67 : Tryd.prog.cellsOf 67 = 1 := by kernel_rfl
@[simp] theorem ty_bytes67 : Tryd.prog.bytesOf 67 = 8 := by kernel_rfl
@[simp] theorem ty_zeroD67 : zeroD Tryd.prog 67 = some [.int .i64 0] := by kernel_rfl
@[simp] theorem ty_zeroV67 : zeroValD Tryd.prog 67 = some (.int .i64 0) := by kernel_rfl
@[simp] theorem ty_cells68 : Tryd.prog.cellsOf 68 = 1 := by kernel_rfl
@[simp] theorem ty_bytes68 : Tryd.prog.bytesOf 68 = 24 := by kernel_rfl
@[simp] theorem ty_zeroD68 : zeroD Tryd.prog 68 = some [.nils] := by kernel_rfl
@[simp] theorem ty_zeroV68 : zeroValD Tryd.prog 68 = some (.nils) := by kernel_rfl
@[simp] theorem ty_elem68 : elemOfD Tryd.prog 68 = some 132 := by kernel_rfl
@[simp] theorem ty_cells69 : Tryd.prog.cellsOf 69 = 1 := by kernel_rfl
@[simp] theorem ty_bytes69 : Tryd.prog.bytesOf 69 = 24 := by kernel_rfl
@[simp] theorem ty_zeroD69 : zeroD Tryd.prog 69 = some [.nils] := by kernel_rfl
@[simp] theorem ty_zeroV69 : zeroValD Tryd.prog 69 = some (.nils) := by kernel_rfl
@[simp] theorem ty_elem69 : elemOfD Tryd.prog 69 = some 134 := by kernel_rfl
@[simp] theorem ty_cells70 : Tryd.prog.cellsOf 70 = 7 := by kernel_rfl
@[simp] theorem ty_bytes70 : Tryd.prog.bytesOf 70 = 128 := by kernel_rfl
@[simp] theorem ty_zeroD70 : zeroD Tryd.prog 70 = some [.int .i64 0, .int .i64 0, .str [], .nils, .nils, .nils, .nils] := by kernel_rfl
@[simp] theorem ty_zeroV70 : zeroValD Tryd.prog 70 = some (.agg [.int .i64 0, .int .i64 0, .str [], .nils, .nils, .nils, .nils]) := by kernel_rfl
@[simp] theorem ty_isStruct70 : isStruct Tryd.prog 70 = true := by kernel_rfl
@[simp] theorem ty_field70_0 : fieldOf Tryd.prog 70 0 = some (0, 67) := by kernel_rfl
@[simp] theorem ty_field70_1 : fieldOf Tryd.prog 70 1 = some (1, 3) := by kernel_rfl
@[simp] theorem ty_field70_2 : fieldOf Tryd.prog 70 2 = some (2, 9) := by kernel_rfl
@[simp] theorem ty_field70_3 : fieldOf Tryd.prog 70 3 = some (3, 44) := by kernel_rfl
@[simp] theorem ty_field70_4 : fieldOf Tryd.prog 70 4 = some (4, 35) := by kernel_rfl
@[simp] theorem ty_field70_5 : fieldOf Tryd.prog 70 5 = some (5, 68) := by kernel_rfl
@[simp] theorem ty_field70_6 : fieldOf Tryd.prog 70 6 = some (6, 69) := by kernel_rfl
@[simp] theorem ty_cells71 : Tryd.prog.cellsOf 71 = 7 := by kernel_rfl
@[simp] theorem ty_bytes71 : Tryd.prog.bytesOf 71 = 128 := by kernel_rfl
@[simp] theorem ty_zeroD71 : zeroD Tryd.prog 71 = some [.int .i64 0, .int .i64 0, .str [], .nils, .nils, .nils, .nils] := by kernel_rfl
@[simp] theorem ty_zeroV71 : zeroValD Tryd.prog 71 = some (.agg [.int .i64 0, .int .i64 0, .str [], .nils, .nils, .nils, .nils]) := by kernel_rfl
@[simp] theorem ty_isStruct71 : isStruct Tryd.prog 71 = true := by kernel_rfl
@[simp] theorem ty_field71_0 : fieldOf Tryd.prog 71 0 = some (0, 67) := by kernel_rfl
@[simp] theorem ty_field71_1 : fieldOf Tryd.prog 71 1 = some (1, 3) := by kernel_rfl
@[simp] theorem ty_field71_2 : fieldOf Tryd.prog 71 2 = some (2, 9) := by kernel_rfl
@[simp] theorem ty_field71_3 : fieldOf Tryd.prog 71 3 = some (3, 44) := by kernel_rfl
@[simp] theorem ty_field71_4 : fieldOf Tryd.prog 71 4 = some (4, 35) := by kernel_rfl
@[simp] theorem ty_field71_5 : fieldOf Tryd.prog 71 5 = some (5, 68) := by kernel_rfl
@[simp] theorem ty_field71_6 : fieldOf Tryd.prog 71 6 = some (6, 69) := by kernel_rfl
@[simp] theorem ty_cells73 : Tryd.prog.cellsOf 73 = 1 := by kernel_rfl
@[simp] theorem ty_bytes73 : Tryd.prog.bytesOf 73 = 8 := by kernel_rfl
@[simp] theorem ty_cells74 : Tryd.prog.cellsOf 74 = 1 := by kernel_rfl
@[simp] theorem ty_bytes74 : Tryd.prog.bytesOf 74 = 8 := by kernel_rfl
@[simp] theorem ty_cells75 : Tryd.prog.cellsOf 75 = 1 := by kernel_rfl
@[simp] theorem ty_bytes75 : Tryd.prog.bytesOf 75 = 8 := by kernel_rfl
@[simp] theorem ty_cells76 : Tryd.prog.cellsOf 76 = 1 := by kernel_rfl
@[simp] theorem ty_bytes76 : Tryd.prog.bytesOf 76 = 8 := by kernel_rfl
@[simp] theorem ty_cells77 : Tryd.prog.cellsOf 77 = 1 := by kernel_rfl
@[simp] theorem ty_bytes77 : Tryd.prog.bytesOf 77 = 8 := by kernel_rfl
@[simp] theorem ty_cells78 : Tryd.prog.cellsOf 78 = 1 := by kernel_rfl
@[simp] theorem ty_bytes78 : Tryd.prog.bytesOf 78 = 8 := by kernel_rfl
@[simp] theorem ty_cells79 : Tryd.prog.cellsOf 79 = 1 := by kernel_rfl
@[simp] theorem ty_bytes79 : Tryd.prog.bytesOf 79 = 8 := by kernel_rfl
@[simp] theorem ty_cells80 : Tryd.prog.cellsOf 80 = 2 := by kernel_rfl
@[simp] theorem ty_bytes80 : Tryd.prog.bytesOf 80 = 32 := by kernel_rfl
@[simp] theorem ty_field80_0 : fieldOf Tryd.prog 80 0 = some (0, 79) := by kernel_rfl
@[simp] theorem ty_field80_1 : fieldOf Tryd.prog 80 1 = some (1, 62) := by kernel_rfl
@[simp] theorem ty_cells81 : Tryd.prog.cellsOf 81 = 2 := by kernel_rfl
@[simp] theorem ty_bytes81 : Tryd.prog.bytesOf 81 = 32 := by kernel_rfl
@[simp] theorem ty_field81_0 : fieldOf Tryd.prog 81 0 = some (0, 79) := by kernel_rfl
@[simp] theorem ty_field81_1 : fieldOf Tryd.prog 81 1 = some (1, 62) := by kernel_rfl
@[simp] theorem ty_cells82 : Tryd.prog.cellsOf 82 = 1 := by kernel_rfl
@[simp] theorem ty_bytes82 : Tryd.prog.bytesOf 82 = 8 := by kernel_rfl
@[simp] theorem ty_cells86 : Tryd.prog.cellsOf 86 = 1 := by kernel_rfl
@[simp] theorem ty_bytes86 : Tryd.prog.bytesOf 86 = 8 := by kernel_rfl
@[simp] theorem ty_cells87 : Tryd.prog.cellsOf 87 = 1 := by kernel_rfl
@[simp] theorem ty_bytes87 : Tryd.prog.bytesOf 87 = 8 := by kernel_rfl
@[simp] theorem ty_cells88 : Tryd.prog.cellsOf 88 = 1 := by kernel_rfl
@[simp] theorem ty_bytes88 : Tryd.prog.bytesOf 88 = 8 := by kernel_rfl
@[simp] theorem ty_cells89 : Tryd.prog.cellsOf 89 = 1 := by kernel_rfl
@[simp] theorem ty_bytes89 : Tryd.prog.bytesOf 89 = 8 := by kernel_rfl
@[simp] theorem ty_cells90 : Tryd.prog.cellsOf 90 = 24 := by kernel_rfl
@[simp] theorem ty_bytes90 : Tryd.prog.bytesOf 90 = 24 := by kernel_rfl
@[simp] theorem ty_zeroD90 : zeroD Tryd.prog 90 = some [.int .u8 0, .int .u8 0, .int .u8 0, .int .u8 0, .int .u8 0, .int .u8 0, .int .u8 0, .int .u8 0, .int .u8 0, .int .u8 0, .int .u8 0, .int .u8 0, .int .u8 0, .int .u8 0, .int .u8 0, .int .u8 0, .int .u8 0, .int .u8 0, .int .u8 0, .int .u8 0, .int .u8 0, .int .u8 0, .int .u8 0, .int .u8 0] := by kernel_rfl
@[simp] theorem ty_cells91 : Tryd.prog.cellsOf 91 = 1 := by kernel_rfl
@[simp] theorem ty_bytes91 : Tryd.prog.bytesOf 91 = 8 := by kernel_rfl
@[simp] theorem ty_zeroD91 : zeroD Tryd.prog 91 = some [.int .u64 0] := by kernel_rfl
@[simp] theorem ty_zeroV91 : zeroValD Tryd.prog 91 = some (.int .u64 0) := by kernel_rfl
@[simp] theorem ty_cells92 : Tryd.prog.cellsOf 92 = 1 := by kernel_rfl
@[simp] theorem ty_bytes92 : Tryd.prog.bytesOf 92 = 8 := by kernel_rfl
@[simp] theorem ty_cells93 : Tryd.prog.cellsOf 93 = 1 := by kernel_rfl
@[simp] theorem ty_bytes93 : Tryd.prog.bytesOf 93 = 8 := by kernel_rfl
@[simp] theorem ty_cells95 : Tryd.prog.cellsOf 95 = 1 := by kernel_rfl
@[simp] theorem ty_bytes95 : Tryd.prog.bytesOf 95 = 8 := by kernel_rfl
@[simp] theorem ty_cells97 : Tryd.prog.cellsOf 97 = 1 := by kernel_rfl
@[simp] theorem ty_bytes97 : Tryd.prog.bytesOf 97 = 8 := by kernel_rfl
@[simp] theorem ty_cells98 : Tryd.prog.cellsOf 98 = 1 := by kernel_rfl
@[simp] theorem ty_bytes98 : Tryd.prog.bytesOf 98 = 8 := by kernel_rfl
@[simp] theorem ty_cells99 : Tryd.prog.cellsOf 99 = 1 := by kernel_rfl
@[simp] theorem ty_bytes99 : Tryd.prog.bytesOf 99 = 8 := by kernel_rfl
@[simp] theorem ty_cells100 : Tryd.prog.cellsOf 100 = 20 := by kernel_rfl
@[simp] theorem ty_bytes100 : Tryd.prog.bytesOf 100 = 160 := by kernel_rfl
@[simp] theorem ty_zeroD100 : zeroD Tryd.prog 100 = some [.int .u64 0, .int .u64 0, .int .u64 0, .int .u64 0, .int .u64 0, .int .u64 0, .int .u64 0, .int .u64 0, .int .u64 0, .int .u64 0, .int .u64 0, .int .u64 0, .int .u64 0, .int .u64 0, .int .u64 0, .int .u64 0, .int .u64 0, .int .u64 0, .int .u64 0, .int .u64 0] := by kernel_rfl
@[simp] theorem ty_cells101 : Tryd.prog.cellsOf 101 = 1 := by kernel_rfl
@[simp] theorem ty_bytes101 : Tryd.prog.bytesOf 101 = 4 := by kernel_rfl
@[simp] theorem ty_zeroD101 : zeroD Tryd.prog 101 = some [.int .u32 0] := by kernel_rfl
@[simp] theorem ty_zeroV101 : zeroValD Tryd.prog 101 = some (.int .u32 0) := by kernel_rfl
@[simp] theorem ty_cells102 : Tryd.prog.cellsOf 102 = 65 := by kernel_rfl
@[simp] theorem ty_bytes102 : Tryd.prog.bytesOf 102 = 65 := by kernel_rfl
@[simp] theorem ty_cells103 : Tryd.prog.cellsOf 103 = 1 := by kernel_rfl
@[simp] theorem ty_bytes103 : Tryd.prog.bytesOf 103 = 8 := by kernel_rfl
@[simp] theorem ty_zeroD103 : zeroD Tryd.prog 103 = some [.int .u64 0] := by kernel_rfl
@[simp] theorem ty_zeroV103 : zeroValD Tryd.prog 103 = some (.int .u64 0) := by kernel_rfl
@[simp] theorem ty_cells104 : Tryd.prog.cellsOf 104 = 1 := by kernel_rfl
@[simp] theorem ty_bytes104 : Tryd.prog.bytesOf 104 = 8 := by kernel_rfl
@[simp] theorem ty_cells105 : Tryd.prog.cellsOf 105 = 1 := by kernel_rfl
@[simp] theorem ty_bytes105 : Tryd.prog.bytesOf 105 = 8 := by kernel_rfl
@[simp] theorem ty_cells106 : Tryd.prog.cellsOf 106 = 32 := by kernel_rfl
@[simp] theorem ty_bytes106 : Tryd.prog.bytesOf 106 = 32 := by kernel_rfl
@[simp] theorem ty_zeroD106 : zeroD Tryd.prog 106 = some [.int .u8 0, .int .u8 0, .int .u8 0, .int .u8 0, .int .u8 0, .int .u8 0, .int .u8 0, .int .u8 0, .int .u8 0, .int .u8 0, .int .u8 0, .int .u8 0, .int .u8 0, .int .u8 0, .int .u8 0, .int .u8 0, .int .u8 0, .int .u8 0, .int .u8 0, .int .u8 0, .int .u8 0, .int .u8 0, .int .u8 0, .int .u8 0, .int .u8 0, .int .u8 0, .int .u8 0, .int .u8 0, .int .u8 0, .int .u8 0, .int .u8 0, .int .u8 0] := by kernel_rfl
@[simp] theorem ty_cells107 : Tryd.prog.cellsOf 107 = 64 := by kernel_rfl
@[simp] theorem ty_bytes107 : Tryd.prog.bytesOf 107 = 64 := by kernel_rfl
@[simp] theorem ty_zeroD107 : zeroD Tryd.prog 107 = some [.int .u8 0, .int .u8 0, .int .u8 0, .int .u8 0, .int .u8 0, .int .u8 0, .int .u8 0, .int .u8 0, .int .u8 0, .int .u8 0, .int .u8 0, .int .u8 0, .int .u8 0, .int .u8 0, .int .u8 0, .int .u8 0, .int .u8 0, .int .u8 0, .int .u8 0, .int .u8 0, .int .u8 0, .int .u8 0, .int .u8 0, .int .u8 0, .int .u8 0, .int .u8 0, .int .u8 0, .int .u8 0, .int .u8 0, .int .u8 0, .int .u8 0, .int .u8 0, .int .u8 0, .int .u8 0, .int .u8 0, .int .u8 0, .int .u8 0, .int .u8 0, .int .u8 0, .int .u8 0, .int .u8 0, .int .u8 0, .int .u8 0, .int .u8 0, .int .u8 0, .int .u8 0, .int .u8 0, .int .u8 0, .int .u8 0, .int .u8 0, .int .u8 0, .int .u8 0, .int .u8 0, .int .u8 0, .int .u8 0, .int .u8 0, .int .u8 0, .int .u8 0, .int .u8 0, .int .u8 0, .int .u8 0, .int .u8 0, .int .u8 0, .int .u8 0] := by kernel_rfl
@[simp] theorem ty_cells108 : Tryd.prog.cellsOf 108 = 4 := by kernel_rfl
@[simp] theorem ty_bytes108 : Tryd.prog.bytesOf 108 = 40 := by kernel_rfl
@[simp] theorem ty_field108_0 : fieldOf Tryd.prog 108 0 = some (0, 17) := by kernel_rfl
@[simp] theorem ty_field108_1 : fieldOf Tryd.prog 108 1 = some (1, 17) := by kernel_rfl
@[simp] theorem ty_field108_2 : fieldOf Tryd.prog 108 2 = some (2, 17) := by kernel_rfl
@[simp] theorem ty_field108_3 : fieldOf Tryd.prog 108 3 = some (3, 9) := by kernel_rfl
@[simp] theorem ty_cells109 : Tryd.prog.cellsOf 109 = 4 := by kernel_rfl
@[simp] theorem ty_bytes109 : Tryd.prog.bytesOf 109 = 40 := by kernel_rfl
@[simp] theorem ty_field109_0 : fieldOf Tryd.prog 109 0 = some (0, 17) := by kernel_rfl
@[simp] theorem ty_field109_1 : fieldOf Tryd.prog 109 1 = some (1, 17) := by kernel_rfl
@[simp] theorem ty_field109_2 : fieldOf Tryd.prog 109 2 = some (2, 17) := by kernel_rfl
@[simp] theorem ty_field109_3 : fieldOf Tryd.prog 109 3 = some (3, 9) := by kernel_rfl
@[simp] theorem ty_cells110 : Tryd.prog.cellsOf 110 = 0 := by kernel_rfl
@[simp] theorem ty_bytes110 : Tryd.prog.bytesOf 110 = 0 := by kernel_rfl
@[simp] theorem ty_cells111 : Tryd.prog.cellsOf 111 = 0 := by kernel_rfl
@[simp] theorem ty_bytes111 : Tryd.prog.bytesOf 111 = 0 := by kernel_rfl
@[simp] theorem ty_field111_0 : fieldOf Tryd.prog 111 0 = some (0, 110) := by kernel_rfl
@[simp] theorem ty_cells112 : Tryd.prog.cellsOf 112 = 0 := by kernel_rfl
@[simp] theorem ty_bytes112 : Tryd.prog.bytesOf 112 = 0 := by kernel_rfl
@[simp] theorem ty_field112_0 : fieldOf Tryd.prog 112 0 = some (0, 110) := by kernel_rfl
@[simp] theorem ty_cells113 : Tryd.prog.cellsOf 113 = 1 := by kernel_rfl
@[simp] theorem ty_bytes113 : Tryd.prog.bytesOf 113 = 8 := by kernel_rfl
@[simp] theorem ty_cells114 : Tryd.prog.cellsOf 114 = 1 := by kernel_rfl
@[simp] theorem ty_bytes114 : Tryd.prog.bytesOf 114 = 1 := by kernel_rfl
@[simp] theorem ty_zeroD114 : zeroD Tryd.prog 114 = some [.int .u8 0] := by kernel_rfl
@[simp] theorem ty_zeroV114 : zeroValD Tryd.prog 114 = some (.int .u8 0) := by kernel_rfl
@[simp] theorem ty_cells115 : Tryd.prog.cellsOf 115 = 1 := by kernel_rfl
@[simp] theorem ty_bytes115 : Tryd.prog.bytesOf 115 = 1 := by kernel_rfl
@[simp] theorem ty_zeroD115 : zeroD Tryd.prog 115 = some [.int .u8 0] := by kernel_rfl
@[simp] theorem ty_zeroV115 : zeroValD Tryd.prog 115 = some (.int .u8 0) := by kernel_rfl
@[simp] theorem ty_cells116 : Tryd.prog.cellsOf 116 = 1 := by kernel_rfl
@[simp] theorem ty_bytes116 : Tryd.prog.bytesOf 116 = 8 := by kernel_rfl
@[simp] theorem ty_cells117 : Tryd.prog.cellsOf 117 = 1 := by kernel_rfl
@[simp] theorem ty_bytes117 : Tryd.prog.bytesOf 117 = 4 := by kernel_rfl
@[simp] theorem ty_zeroD117 : zeroD Tryd.prog 117 = some [.int .i32 0] := by kernel_rfl
@[simp] theorem ty_zeroV117 : zeroValD Tryd.prog 117 = some (.int .i32 0) := by kernel_rfl
@[simp] theorem ty_cells118 : Tryd.prog.cellsOf 118 = 1 := by kernel_rfl
@[simp] theorem ty_bytes118 : Tryd.prog.bytesOf 118 = 4 := by kernel_rfl
@[simp] theorem ty_zeroD118 : zeroD Tryd.prog 118 = some [.int .i32 0] := by kernel_rfl
@[simp] theorem ty_zeroV118 : zeroValD Tryd.prog 118 = some (.int .i32 0) := by kernel_rfl
@[simp] theorem ty_cells119 : Tryd.prog.cellsOf 119 = 11 := by kernel_rfl
@[simp] theorem ty_bytes119 : Tryd.prog.bytesOf 119 = 48 := by kernel_rfl
@[simp] theorem ty_field119_0 : fieldOf Tryd.prog 119 0 = some (0, 12) := by kernel_rfl
@[simp] theorem ty_field119_1 : fieldOf Tryd.prog 119 1 = some (1, 12) := by kernel_rfl
@[simp] theorem ty_field119_2 : fieldOf Tryd.prog 119 2 = some (2, 101) := by kernel_rfl
@[simp] theorem ty_field119_3 : fieldOf Tryd.prog 119 3 = some (3, 114) := by kernel_rfl
@[simp] theorem ty_field119_4 : fieldOf Tryd.prog 119 4 = some (4, 5) := by kernel_rfl
@[simp] theorem ty_field119_5 : fieldOf Tryd.prog 119 5 = some (5, 5) := by kernel_rfl
@[simp] theorem ty_field119_6 : fieldOf Tryd.prog 119 6 = some (6, 115) := by kernel_rfl
@[simp] theorem ty_field119_7 : fieldOf Tryd.prog 119 7 = some (7, 116) := by kernel_rfl
@[simp] theorem ty_field119_8 : fieldOf Tryd.prog 119 8 = some (8, 89) := by kernel_rfl
@[simp] theorem ty_field119_9 : fieldOf Tryd.prog 119 9 = some (9, 117) := by kernel_rfl
@[simp] theorem ty_field119_10 : fieldOf Tryd.prog 119 10 = some (10, 118) := by kernel_rfl
@[simp] theorem ty_cells120 : Tryd.prog.cellsOf 120 = 11 := by kernel_rfl
@[simp] theorem ty_bytes120 : Tryd.prog.bytesOf 120 = 48 := by kernel_rfl
@[simp] theorem ty_field120_0 : fieldOf Tryd.prog 120 0 = some (0, 12) := by kernel_rfl
@[simp] theorem ty_field120_1 : fieldOf Tryd.prog 120 1 = some (1, 12) := by kernel_rfl
@[simp] theorem ty_field120_2 : fieldOf Tryd.prog 120 2 = some (2, 101) := by kernel_rfl
@[simp] theorem ty_field120_3 : fieldOf Tryd.prog 120 3 = some (3, 114) := by kernel_rfl
@[simp] theorem ty_field120_4 : fieldOf Tryd.prog 120 4 = some (4, 5) := by kernel_rfl
@[simp] theorem ty_field120_5 : fieldOf Tryd.prog 120 5 = some (5, 5) := by kernel_rfl
@[simp] theorem ty_field120_6 : fieldOf Tryd.prog 120 6 = some (6, 115) := by kernel_rfl
@[simp] theorem ty_field120_7 : fieldOf Tryd.prog 120 7 = some (7, 116) := by kernel_rfl
@[simp] theorem ty_field120_8 : fieldOf Tryd.prog 120 8 = some (8, 89) := by kernel_rfl
@[simp] theorem ty_field120_9 : fieldOf Tryd.prog 120 9 = some (9, 117) := by kernel_rfl
@[simp] theorem ty_field120_10 : fieldOf Tryd.prog 120 10 = some (10, 118) := by kernel_rfl
@[simp] theorem ty_cells121 : Tryd.prog.cellsOf 121 = 1 := by kernel_rfl
@[simp] theorem ty_bytes121 : Tryd.prog.bytesOf 121 = 8 := by kernel_rfl
@[simp] theorem ty_zeroD121 : zeroD Tryd.prog 121 = some [.int .i64 0] := by kernel_rfl
@[simp] theorem ty_zeroV121 : zeroValD Tryd.prog 121 = some (.int .i64 0) := by kernel_rfl
@[simp] theorem ty_cells122 : Tryd.prog.cellsOf 122 = 1 := by kernel_rfl
@[simp] theorem ty_bytes122 : Tryd.prog.bytesOf 122 = 24 := by kernel_rfl
@[simp] theorem ty_zeroD122 : zeroD Tryd.prog 122 = some [.nils] := by kernel_rfl
@[simp] theorem ty_zeroV122 : zeroValD Tryd.prog 122 = some (.nils) := by kernel_rfl
@[simp] theorem ty_elem122 : elemOfD Tryd.prog 122 = some 124 := by kernel_rfl
@[simp] theorem ty_cells123 : Tryd.prog.cellsOf 123 = 4 := by kernel_rfl
@[simp] theorem ty_bytes123 : Tryd.prog.bytesOf 123 = 56 := by kernel_rfl
@[simp] theorem ty_zeroD123 : zeroD Tryd.prog 123 = some [.int .i64 0, .str [], .int .i64 0, .nils] := by kernel_rfl
@[simp] theorem ty_zeroV123 : zeroValD Tryd.prog 123 = some (.agg [.int .i64 0, .str [], .int .i64 0, .nils]) := by kernel_rfl
@[simp] theorem ty_isStruct123 : isStruct Tryd.prog 123 = true := by kernel_rfl
@[simp] theorem ty_field123_0 : fieldOf Tryd.prog 123 0 = some (0, 121) := by kernel_rfl
@[simp] theorem ty_field123_1 : fieldOf Tryd.prog 123 1 = some (1, 9) := by kernel_rfl
@[simp] theorem ty_field123_2 : fieldOf Tryd.prog 123 2 = some (2, 3) := by kernel_rfl
@[simp] theorem ty_field123_3 : fieldOf Tryd.prog 123 3 = some (3, 122) := by kernel_rfl
@[simp] theorem ty_cells124 : Tryd.prog.cellsOf 124 = 4 := by kernel_rfl
@[simp] theorem ty_bytes124 : Tryd.prog.bytesOf 124 = 56 := by kernel_rfl
@[simp] theorem ty_zeroD124 : zeroD Tryd.prog 124 = some [.int .i64 0, .str [], .int .i64 0, .nils] := by kernel_rfl
@[simp] theorem ty_zeroV124 : zeroValD Tryd.prog 124 = some (.agg [.int .i64 0, .str [], .int .i64 0, .nils]) := by kernel_rfl
@[simp] theorem ty_isStruct124 : isStruct Tryd.prog 124 = true := by kernel_rfl
@[simp] theorem ty_field124_0 : fieldOf Tryd.prog 124 0 = some (0, 121) := by kernel_rfl
@[simp] theorem ty_field124_1 : fieldOf Tryd.prog 124 1 = some (1, 9) := by kernel_rfl
@[simp] theorem ty_field124_2 : fieldOf Tryd.prog 124 2 = some (2, 3) := by kernel_rfl
@[simp] theorem ty_field124_3 : fieldOf Tryd.prog 124 3 = some (3, 122) := by kernel_rfl
@[simp] theorem ty_cells125 : Tryd.prog.cellsOf 125 = 5 := by kernel_rfl
@[simp] theorem ty_bytes125 : Tryd.prog.bytesOf 125 = 72 := by kernel_rfl
@[simp] theorem ty_zeroD125 : zeroD Tryd.prog 125 = some [.str [], .int .i64 0, .str [], .int .i64 0, .nils] := by kernel_rfl
@[simp] theorem ty_zeroV125 : zeroValD Tryd.prog 125 = some (.agg [.str [], .int .i64 0, .str [], .int .i64 0, .nils]) := by kernel_rfl
@[simp] theorem ty_isStruct125 : isStruct Tryd.prog 125 = true := by kernel_rfl
@[simp] theorem ty_field125_0 : fieldOf Tryd.prog 125 0 = some (0, 9) := by kernel_rfl
@[simp] theorem ty_field125_1 : fieldOf Tryd.prog 125 1 = some (1, 124) := by kernel_rfl
@[simp] theorem ty_cells126 : Tryd.prog.cellsOf 126 = 5 := by kernel_rfl
@[simp] theorem ty_bytes126 : Tryd.prog.bytesOf 126 = 72 := by kernel_rfl
@[simp] theorem ty_zeroD126 : zeroD Tryd.prog 126 = some [.str [], .int .i64 0, .str [], .int .i64 0, .nils] := by kernel_rfl
@[simp] theorem ty_zeroV126 : zeroValD Tryd.prog 126 = some (.agg [.str [], .int .i64 0, .str [], .int .i64 0, .nils]) := by kernel_rfl
@[simp] theorem ty_isStruct126 : isStruct Tryd.prog 126 = true := by kernel_rfl
@[simp] theorem ty_field126_0 : fieldOf Tryd.prog 126 0 = some (0, 9) := by kernel_rfl
@[simp] theorem ty_field126_1 : fieldOf Tryd.prog 126 1 = some (1, 124) := by kernel_rfl
@[simp] theorem ty_cells127 : Tryd.prog.cellsOf 127 = 1 := by kernel_rfl
@[simp] theorem ty_bytes127 : Tryd.prog.bytesOf 127 = 8 := by kernel_rfl
@[simp] theorem ty_zeroD127 : zeroD Tryd.prog 127 = some [.int .i64 0] := by kernel_rfl
@[simp] theorem ty_zeroV127 : zeroValD Tryd.prog 127 = some (.int .i64 0) := by kernel_rfl
@[simp] theorem ty_cells128 : Tryd.prog.cellsOf 128 = 1 := by kernel_rfl
@[simp] theorem ty_bytes128 : Tryd.prog.bytesOf 128 = 24 := by kernel_rfl
@[simp] theorem ty_zeroD128 : zeroD Tryd.prog 128 = some [.nils] := by kernel_rfl
@[simp] theorem ty_zeroV128 : zeroValD Tryd.prog 128 = some (.nils) := by kernel_rfl
@[simp] theorem ty_elem128 : elemOfD Tryd.prog 128 = some 139 := by kernel_rfl
@[simp] theorem ty_cells129 : Tryd.prog.cellsOf 129 = 1 := by kernel_rfl
@[simp] theorem ty_bytes129 : Tryd.prog.bytesOf 129 = 24 := by kernel_rfl
@[simp] theorem ty_zeroD129 : zeroD Tryd.prog 129 = some [.nils] := by kernel_rfl
@[simp] theorem ty_zeroV129 : zeroValD Tryd.prog 129 = some (.nils) := by kernel_rfl
@[simp] theorem ty_elem129 : elemOfD Tryd.prog 129 = some 141 := by kernel_rfl
@[simp] theorem ty_cells130 : Tryd.prog.cellsOf 130 = 1 := by kernel_rfl
@[simp] theorem ty_bytes130 : Tryd.prog.bytesOf 130 = 24 := by kernel_rfl
@[simp] theorem ty_zeroD130 : zeroD Tryd.prog 130 = some [.nils] := by kernel_rfl
@[simp] theorem ty_zeroV130 : zeroValD Tryd.prog 130 = some (.nils) := by kernel_rfl
@[simp] theorem ty_elem130 : elemOfD Tryd.prog 130 = some 137 := by kernel_rfl
@[simp] theorem ty_cells131 : Tryd.prog.cellsOf 131 = 7 := by kernel_rfl
@[simp] theorem ty_bytes131 : Tryd.prog.bytesOf 131 = 128 := by kernel_rfl
@[simp] theorem ty_zeroD131 : zeroD Tryd.prog 131 = some [.int .i64 0, .str [], .int .i64 0, .nils, .nils, .nils, .nils] := by kernel_rfl
@[simp] theorem ty_zeroV131 : zeroValD Tryd.prog 131 = some (.agg [.int .i64 0, .str [], .int .i64 0, .nils, .nils, .nils, .nils]) := by kernel_rfl
@[simp] theorem ty_isStruct131 : isStruct Tryd.prog 131 = true := by kernel_rfl
@[simp] theorem ty_field131_0 : fieldOf Tryd.prog 131 0 = some (0, 127) := by kernel_rfl
@[simp] theorem ty_field131_1 : fieldOf Tryd.prog 131 1 = some (1, 9) := by kernel_rfl
@[simp] theorem ty_field131_2 : fieldOf Tryd.prog 131 2 = some (2, 3) := by kernel_rfl
@[simp] theorem ty_field131_3 : fieldOf Tryd.prog 131 3 = some (3, 68) := by kernel_rfl
@[simp] theorem ty_field131_4 : fieldOf Tryd.prog 131 4 = some (4, 128) := by kernel_rfl
@[simp] theorem ty_field131_5 : fieldOf Tryd.prog 131 5 = some (5, 129) := by kernel_rfl
@[simp] theorem ty_field131_6 : fieldOf Tryd.prog 131 6 = some (6, 130) := by kernel_rfl
@[simp] theorem ty_cells132 : Tryd.prog.cellsOf 132 = 7 := by kernel_rfl
@[simp] theorem ty_bytes132 : Tryd.prog.bytesOf 132 = 128 := by kernel_rfl
@[simp] theorem ty_zeroD132 : zeroD Tryd.prog 132 = some [.int .i64 0, .str [], .int .i64 0, .nils, .nils, .nils, .nils] := by kernel_rfl
@[simp] theorem ty_zeroV132 : zeroValD Tryd.prog 132 = some (.agg [.int .i64 0, .str [], .int .i64 0, .nils, .nils, .nils, .nils]) := by kernel_rfl
@[simp] theorem ty_isStruct132 : isStruct Tryd.prog 132 = true := by kernel_rfl
@[simp] theorem ty_field132_0 : fieldOf Tryd.prog 132 0 = some (0, 127) := by kernel_rfl
@[simp] theorem ty_field132_1 : fieldOf Tryd.prog 132 1 = some (1, 9) := by kernel_rfl
@[simp] theorem ty_field132_2 : fieldOf Tryd.prog 132 2 = some (2, 3) := by kernel_rfl
@[simp] theorem ty_field132_3 : fieldOf Tryd.prog 132 3 = some (3, 68) := by kernel_rfl
@[simp] theorem ty_field132_4 : fieldOf Tryd.prog 132 4 = some (4, 128) := by kernel_rfl
@[simp] theorem ty_field132_5 : fieldOf Tryd.prog 132 5 = some (5, 129) := by kernel_rfl
@[simp] theorem ty_field132_6 : fieldOf Tryd.prog 132 6 = some (6, 130) := by kernel_rfl
@[simp] theorem ty_cells133 : Tryd.prog.cellsOf 133 = 8 := by kernel_rfl
@[simp] theorem ty_bytes133 : Tryd.prog.bytesOf 133 = 144 := by kernel_rfl
@[simp] theorem ty_zeroD133 : zeroD Tryd.prog 133 = some [.str [], .int .i64 0, .int .i64 0, .str [], .nils, .nils, .nils, .nils] := by kernel_rfl
@[simp] theorem ty_zeroV133 : zeroValD Tryd.prog 133 = some (.agg [.str [], .int .i64 0, .int .i64 0, .str [], .nils, .nils, .nils, .nils]) := by kernel_rfl
@[simp] theorem ty_isStruct133 : isStruct Tryd.prog 133 = true := by kernel_rfl
@[simp] theorem ty_field133_0 : fieldOf Tryd.prog 133 0 = some (0, 9) := by kernel_rfl
@[simp] theorem ty_field133_1 : fieldOf Tryd.prog 133 1 = some (1, 71) := by kernel_rfl
@[simp] theorem ty_cells134 : Tryd.prog.cellsOf 134 = 8 := by kernel_rfl
@[simp] theorem ty_bytes134 : Tryd.prog.bytesOf 134 = 144 := by kernel_rfl
@[simp] theorem ty_zeroD134 : zeroD Tryd.prog 134 = some [.str [], .int .i64 0, .int .i64 0, .str [], .nils, .nils, .nils, .nils] := by kernel_rfl
@[simp] theorem ty_zeroV134 : zeroValD Tryd.prog 134 = some (.agg [.str [], .int .i64 0, .int .i64 0, .str [], .nils, .nils, .nils, .nils]) := by kernel_rfl
@[simp] theorem ty_isStruct134 : isStruct Tryd.prog 134 = true := by kernel_rfl
@[simp] theorem ty_field134_0 : fieldOf Tryd.prog 134 0 = some (0, 9) := by kernel_rfl
@[simp] theorem ty_field134_1 : fieldOf Tryd.prog 134 1 = some (1, 71) := by kernel_rfl
@[simp] theorem ty_cells135 : Tryd.prog.cellsOf 135 = 1 := by kernel_rfl
@[simp] theorem ty_bytes135 : Tryd.prog.bytesOf 135 = 8 := by kernel_rfl
@[simp] theorem ty_zeroD135 : zeroD Tryd.prog 135 = some [.int .i64 0] := by kernel_rfl
@[simp] theorem ty_zeroV135 : zeroValD Tryd.prog 135 = some (.int .i64 0) := by kernel_rfl
@[simp] theorem ty_cells136 : Tryd.prog.cellsOf 136 = 9 := by kernel_rfl
@[simp] theorem ty_bytes136 : Tryd.prog.bytesOf 136 = 152 := by kernel_rfl
@[simp] theorem ty_zeroD136 : zeroD Tryd.prog 136 = some [.int .i64 0, .str [], .nils, .nils, .int .i64 0, .str [], .int .i64 0, .nils, .nils] := by kernel_rfl
@[simp] theorem ty_zeroV136 : zeroValD Tryd.prog 136 = some (.agg [.int .i64 0, .str [], .nils, .nils, .int .i64 0, .str [], .int .i64 0, .nils, .nils]) := by kernel_rfl
@[simp] theorem ty_isStruct136 : isStruct Tryd.prog 136 = true := by kernel_rfl
@[simp] theorem ty_field136_0 : fieldOf Tryd.prog 136 0 = some (0, 135) := by kernel_rfl
@[simp] theorem ty_field136_1 : fieldOf Tryd.prog 136 1 = some (1, 9) := by kernel_rfl
@[simp] theorem ty_field136_2 : fieldOf Tryd.prog 136 2 = some (2, 130) := by kernel_rfl
@[simp] theorem ty_field136_3 : fieldOf Tryd.prog 136 3 = some (3, 35) := by kernel_rfl
@[simp] theorem ty_field136_4 : fieldOf Tryd.prog 136 4 = some (4, 124) := by kernel_rfl
@[simp] theorem ty_field136_5 : fieldOf Tryd.prog 136 5 = some (8, 122) := by kernel_rfl
@[simp] theorem ty_cells137 : Tryd.prog.cellsOf 137 = 9 := by kernel_rfl
@[simp] theorem ty_bytes137 : Tryd.prog.bytesOf 137 = 152 := by kernel_rfl
@[simp] theorem ty_zeroD137 : zeroD Tryd.prog 137 = some [.int .i64 0, .str [], .nils, .nils, .int .i64 0, .str [], .int .i64 0, .nils, .nils] := by kernel_rfl
@[simp] theorem ty_zeroV137 : zeroValD Tryd.prog 137 = some (.agg [.int .i64 0, .str [], .nils, .nils, .int .i64 0, .str [], .int .i64 0, .nils, .nils]) := by kernel_rfl
@[simp] theorem ty_isStruct137 : isStruct Tryd.prog 137 = true := by kernel_rfl
@[simp] theorem ty_field137_0 : fieldOf Tryd.prog 137 0 = some (0, 135) := by kernel_rfl
@[simp] theorem ty_field137_1 : fieldOf Tryd.prog 137 1 = some (1, 9) := by kernel_rfl
@[simp] theorem ty_field137_2 : fieldOf Tryd.prog 137 2 = some (2, 130) := by kernel_rfl
@[simp] theorem ty_field137_3 : fieldOf Tryd.prog 137 3 = some (3, 35) := by kernel_rfl
@[simp] theorem ty_field137_4 : fieldOf Tryd.prog 137 4 = some (4, 124) := by kernel_rfl
@[simp] theorem ty_field137_5 : fieldOf Tryd.prog 137 5 = some (8, 122) := by kernel_rfl
@[simp] theorem ty_cells138 : Tryd.prog.cellsOf 138 = 10 := by kernel_rfl
@[simp] theorem ty_bytes138 : Tryd.prog.bytesOf 138 = 168 := by kernel_rfl
@[simp] theorem ty_zeroD138 : zeroD Tryd.prog 138 = some [.str [], .int .i64 0, .str [], .nils, .nils, .int .i64 0, .str [], .int .i64 0, .nils, .nils] := by kernel_rfl
@[simp] theorem ty_zeroV138 : zeroValD Tryd.prog 138 = some (.agg [.str [], .int .i64 0, .str [], .nils, .nils, .int .i64 0, .str [], .int .i64 0, .nils, .nils]) := by kernel_rfl
@[simp] theorem ty_isStruct138 : isStruct Tryd.prog 138 = true := by kernel_rfl
@[simp] theorem ty_field138_0 : fieldOf Tryd.prog 138 0 = some (0, 9) := by kernel_rfl
@[simp] theorem ty_field138_1 : fieldOf Tryd.prog 138 1 = some (1, 137) := by kernel_rfl
@[simp] theorem ty_cells139 : Tryd.prog.cellsOf 139 = 10 := by kernel_rfl
@[simp] theorem ty_bytes139 : Tryd.prog.bytesOf 139 = 168 := by kernel_rfl
@[simp] theorem ty_zeroD139 : zeroD Tryd.prog 139 = some [.str [], .int .i64 0, .str [], .nils, .nils, .int .i64 0, .str [], .int .i64 0, .nils, .nils] := by kernel_rfl
@[simp] theorem ty_zeroV139 : zeroValD Tryd.prog 139 = some (.agg [.str [], .int .i64 0, .str [], .nils, .nils, .int .i64 0, .str [], .int .i64 0, .nils, .nils]) := by kernel_rfl
@[simp] theorem ty_isStruct139 : isStruct Tryd.prog 139 = true := by kernel_rfl
@[simp] theorem ty_field139_0 : fieldOf Tryd.prog 139 0 = some (0, 9) := by kernel_rfl
@[simp] theorem ty_field139_1 : fieldOf Tryd.prog 139 1 = some (1, 137) := by kernel_rfl
@[simp] theorem ty_cells140 : Tryd.prog.cellsOf 140 = 9 := by kernel_rfl
@[simp] theorem ty_bytes140 : Tryd.prog.bytesOf 140 = 168 := by kernel_rfl
@[simp] theorem ty_zeroD140 : zeroD Tryd.prog 140 = some [.str [], .nils, .int .i64 0, .str [], .int .i64 0, .nils, .nils, .nils, .nils] := by kernel_rfl
@[simp] theorem ty_zeroV140 : zeroValD Tryd.prog 140 = some (.agg [.str [], .nils, .int .i64 0, .str [], .int .i64 0, .nils, .nils, .nils, .nils]) := by kernel_rfl
@[simp] theorem ty_isStruct140 : isStruct Tryd.prog 140 = true := by kernel_rfl
@[simp] theorem ty_field140_0 : fieldOf Tryd.prog 140 0 = some (0, 9) := by kernel_rfl
@[simp] theorem ty_field140_1 : fieldOf Tryd.prog 140 1 = some (1, 35) := by kernel_rfl
@[simp] theorem ty_field140_2 : fieldOf Tryd.prog 140 2 = some (2, 132) := by kernel_rfl
@[simp] theorem ty_cells141 : Tryd.prog.cellsOf 141 = 9 := by kernel_rfl
@[simp] theorem ty_bytes141 : Tryd.prog.bytesOf 141 = 168 := by kernel_rfl
@[simp] theorem ty_zeroD141 : zeroD Tryd.prog 141 = some [.str [], .nils, .int .i64 0, .str [], .int .i64 0, .nils, .nils, .nils, .nils] := by kernel_rfl
@[simp] theorem ty_zeroV141 : zeroValD Tryd.prog 141 = some (.agg [.str [], .nils, .int .i64 0, .str [], .int .i64 0, .nils, .nils, .nils, .nils]) := by kernel_rfl
@[simp] theorem ty_isStruct141 : isStruct Tryd.prog 141 = true := by kernel_rfl
@[simp] theorem ty_field141_0 : fieldOf Tryd.prog 141 0 = some (0, 9) := by kernel_rfl
@[simp] theorem ty_field141_1 : fieldOf Tryd.prog 141 1 = some (1, 35) := by kernel_rfl
@[simp] theorem ty_field141_2 : fieldOf Tryd.prog 141 2 = some (2, 132) := by kernel_rfl
@[simp] theorem ty_elemOk5 : elemOk Tryd.prog 5 = true := by kernel_rfl
@[simp] theorem ty_elemOk9 : elemOk Tryd.prog 9 = true := by kernel_rfl
@[simp] theorem ty_elemOk46 : elemOk Tryd.prog 46 = true := by kernel_rfl
@[simp] theorem ty_elemOk66 : elemOk Tryd.prog 66 = true := by kernel_rfl
@[simp] theorem ty_elemOk71 : elemOk Tryd.prog 71 = true := by kernel_rfl
@[simp] theorem ty_elemOk124 : elemOk Tryd.prog 124 = true := by kernel_rfl
@[simp] theorem ty_elemOk126 : elemOk Tryd.prog 126 = true := by kernel_rfl
@[simp] theorem ty_elemOk132 : elemOk Tryd.prog 132 = true := by kernel_rfl
@[simp] theorem ty_elemOk134 : elemOk Tryd.prog 134 = true := by kernel_rfl
@[simp] theorem ty_elemOk137 : elemOk Tryd.prog 137 = true := by kernel_rfl
@[simp] theorem ty_elemOk139 : elemOk Tryd.prog 139 = true := by kernel_rfl
@[simp] theorem ty_elemOk141 : elemOk Tryd.prog 141 = true := by kernel_rfl
end Go.Proofs.YtdnkdeplpnbojaaDoor
