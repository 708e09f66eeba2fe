/- The facts on this translation's types that the machine on data asks, one closed fact each. By a program of ours. No condition. -/
import Derived.Test.YtbljhkgdeojliaaDoorZF
import Derived.KernelRfl
import Derived.Test.YtbljhkgdeojliaaDoorProg
set_option linter.unusedVariables false
set_option linter.unusedSimpArgs false
namespace Go.Proofs.YtbljhkgdeojliaaDoor
open Go Go.VM
@[simp] theorem ty_cells1 : Tryd.prog.cellsOf 1 = 1 := by kernel_rfl
@[simp] theorem ty_bytes1 : Tryd.prog.bytesOf 1 = 8 := by kernel_rfl
@[simp] theorem ty_zeroD1 : zeroD Tryd.prog 1 = none := by kernel_rfl
@[simp] theorem ty_zeroC1 : zeroC Tryd.prog 1 = some [.undef] := by kernel_rfl
@[simp] theorem ty_zeroO1 : zeroO Tryd.prog 1 = some [.undef] := by kernel_rfl
@[simp] theorem ty_cells2 : Tryd.prog.cellsOf 2 = 1 := by kernel_rfl
@[simp] theorem ty_bytes2 : Tryd.prog.bytesOf 2 = 8 := by kernel_rfl
@[simp] theorem ty_zeroD2 : zeroD Tryd.prog 2 = some [.int .i64 0] := by kernel_rfl
@[simp] theorem ty_zeroV2 : zeroValD Tryd.prog 2 = some (.int .i64 0) := by kernel_rfl
@[simp] theorem ty_cells3 : Tryd.prog.cellsOf 3 = 1 := by kernel_rfl
@[simp] theorem ty_bytes3 : Tryd.prog.bytesOf 3 = 8 := by kernel_rfl
@[simp] theorem ty_zeroD3 : zeroD Tryd.prog 3 = some [.int .i64 0] := by kernel_rfl
@[simp] theorem ty_zeroV3 : zeroValD Tryd.prog 3 = some (.int .i64 0) := by kernel_rfl
@[simp] theorem ty_cells4 : Tryd.prog.cellsOf 4 = 1 := by kernel_rfl
@[simp] theorem ty_bytes4 : Tryd.prog.bytesOf 4 = 1 := by kernel_rfl
@[simp] theorem ty_zeroD4 : zeroD Tryd.prog 4 = some [.bool false] := by kernel_rfl
@[simp] theorem ty_zeroV4 : zeroValD Tryd.prog 4 = some (.bool false) := by kernel_rfl
@[simp] theorem ty_cells5 : Tryd.prog.cellsOf 5 = 1 := by kernel_rfl
@[simp] theorem ty_bytes5 : Tryd.prog.bytesOf 5 = 1 := by kernel_rfl
@[simp] theorem ty_zeroD5 : zeroD Tryd.prog 5 = some [.int .u8 0] := by kernel_rfl
@[simp] theorem ty_zeroV5 : zeroValD Tryd.prog 5 = some (.int .u8 0) := by kernel_rfl
@[simp] theorem ty_cells6 : Tryd.prog.cellsOf 6 = 1 := by kernel_rfl
@[simp] theorem ty_bytes6 : Tryd.prog.bytesOf 6 = 1 := by kernel_rfl
@[simp] theorem ty_zeroD6 : zeroD Tryd.prog 6 = some [.int .u8 0] := by kernel_rfl
@[simp] theorem ty_zeroV6 : zeroValD Tryd.prog 6 = some (.int .u8 0) := by kernel_rfl
@[simp] theorem ty_cells7 : Tryd.prog.cellsOf 7 = 4 := by kernel_rfl
@[simp] theorem ty_bytes7 : Tryd.prog.bytesOf 7 = 24 := by kernel_rfl
@[simp] theorem ty_zeroD7 : zeroD Tryd.prog 7 = some [.int .i64 0, .int .i64 0, .bool false, .int .u8 0] := by kernel_rfl
@[simp] theorem ty_zeroV7 : zeroValD Tryd.prog 7 = some (.agg [.int .i64 0, .int .i64 0, .bool false, .int .u8 0]) := by kernel_rfl
@[simp] theorem ty_isStruct7 : isStruct Tryd.prog 7 = true := by kernel_rfl
@[simp] theorem ty_field7_0 : fieldOf Tryd.prog 7 0 = some (0, 2) := by kernel_rfl
@[simp] theorem ty_field7_1 : fieldOf Tryd.prog 7 1 = some (1, 3) := by kernel_rfl
@[simp] theorem ty_field7_2 : fieldOf Tryd.prog 7 2 = some (2, 4) := by kernel_rfl
@[simp] theorem ty_field7_3 : fieldOf Tryd.prog 7 3 = some (3, 6) := by kernel_rfl
@[simp] theorem ty_cells8 : Tryd.prog.cellsOf 8 = 4 := by kernel_rfl
@[simp] theorem ty_bytes8 : Tryd.prog.bytesOf 8 = 24 := by kernel_rfl
@[simp] theorem ty_zeroD8 : zeroD Tryd.prog 8 = some [.int .i64 0, .int .i64 0, .bool false, .int .u8 0] := by kernel_rfl
@[simp] theorem ty_zeroV8 : zeroValD Tryd.prog 8 = some (.agg [.int .i64 0, .int .i64 0, .bool false, .int .u8 0]) := by kernel_rfl
@[simp] theorem ty_isStruct8 : isStruct Tryd.prog 8 = true := by kernel_rfl
@[simp] theorem ty_field8_0 : fieldOf Tryd.prog 8 0 = some (0, 2) := by kernel_rfl
@[simp] theorem ty_field8_1 : fieldOf Tryd.prog 8 1 = some (1, 3) := by kernel_rfl
@[simp] theorem ty_field8_2 : fieldOf Tryd.prog 8 2 = some (2, 4) := by kernel_rfl
@[simp] theorem ty_field8_3 : fieldOf Tryd.prog 8 3 = some (3, 6) := by kernel_rfl
@[simp] theorem ty_cells9 : Tryd.prog.cellsOf 9 = 1 := by kernel_rfl
@[simp] theorem ty_bytes9 : Tryd.prog.bytesOf 9 = 16 := by kernel_rfl
@[simp] theorem ty_zeroD9 : zeroD Tryd.prog 9 = some [.str []] := by kernel_rfl
@[simp] theorem ty_zeroV9 : zeroValD Tryd.prog 9 = some (.str []) := by kernel_rfl
@[simp] theorem ty_cells10 : Tryd.prog.cellsOf 10 = 1 := by kernel_rfl
@[simp] theorem ty_bytes10 : Tryd.prog.bytesOf 10 = 16 := by kernel_rfl
@[simp] theorem ty_zeroD10 : zeroD Tryd.prog 10 = some [.str []] := by kernel_rfl
@[simp] theorem ty_zeroV10 : zeroValD Tryd.prog 10 = some (.str []) := by kernel_rfl
@[simp] theorem ty_cells11 : Tryd.prog.cellsOf 11 = 1 := by kernel_rfl
@[simp] theorem ty_bytes11 : Tryd.prog.bytesOf 11 = 16 := by kernel_rfl
@[simp] theorem ty_zeroD11 : zeroD Tryd.prog 11 = some [.str []] := by kernel_rfl
@[simp] theorem ty_zeroV11 : zeroValD Tryd.prog 11 = some (.str []) := by kernel_rfl
@[simp] theorem ty_cells12 : Tryd.prog.cellsOf 12 = 1 := by kernel_rfl
@[simp] theorem ty_bytes12 : Tryd.prog.bytesOf 12 = 8 := by kernel_rfl
@[simp] theorem ty_zeroD12 : zeroD Tryd.prog 12 = some [.int .u64 0] := by kernel_rfl
@[simp] theorem ty_zeroV12 : zeroValD Tryd.prog 12 = some (.int .u64 0) := by kernel_rfl
@[simp] theorem ty_cells13 : Tryd.prog.cellsOf 13 = 2 := by kernel_rfl
@[simp] theorem ty_bytes13 : Tryd.prog.bytesOf 13 = 24 := by kernel_rfl
@[simp] theorem ty_zeroD13 : zeroD Tryd.prog 13 = some [.str [], .int .u64 0] := by kernel_rfl
@[simp] theorem ty_zeroV13 : zeroValD Tryd.prog 13 = some (.agg [.str [], .int .u64 0]) := by kernel_rfl
@[simp] theorem ty_isStruct13 : isStruct Tryd.prog 13 = true := by kernel_rfl
@[simp] theorem ty_field13_0 : fieldOf Tryd.prog 13 0 = some (0, 9) := by kernel_rfl
@[simp] theorem ty_field13_1 : fieldOf Tryd.prog 13 1 = some (1, 12) := by kernel_rfl
@[simp] theorem ty_cells14 : Tryd.prog.cellsOf 14 = 2 := by kernel_rfl
@[simp] theorem ty_bytes14 : Tryd.prog.bytesOf 14 = 24 := by kernel_rfl
@[simp] theorem ty_zeroD14 : zeroD Tryd.prog 14 = some [.str [], .int .u64 0] := by kernel_rfl
@[simp] theorem ty_zeroV14 : zeroValD Tryd.prog 14 = some (.agg [.str [], .int .u64 0]) := by kernel_rfl
@[simp] theorem ty_isStruct14 : isStruct Tryd.prog 14 = true := by kernel_rfl
@[simp] theorem ty_field14_0 : fieldOf Tryd.prog 14 0 = some (0, 9) := by kernel_rfl
@[simp] theorem ty_field14_1 : fieldOf Tryd.prog 14 1 = some (1, 12) := by kernel_rfl
@[simp] theorem ty_cells15 : Tryd.prog.cellsOf 15 = 1 := by kernel_rfl
@[simp] theorem ty_bytes15 : Tryd.prog.bytesOf 15 = 8 := by kernel_rfl
@[simp] theorem ty_zeroD15 : zeroD Tryd.prog 15 = none := by kernel_rfl
@[simp] theorem ty_zeroC15 : zeroC Tryd.prog 15 = some [.undef] := by kernel_rfl
@[simp] theorem ty_zeroO15 : zeroO Tryd.prog 15 = some [.undef] := by kernel_rfl
@[simp] theorem ty_cells16 : Tryd.prog.cellsOf 16 = 1 := by kernel_rfl
@[simp] theorem ty_bytes16 : Tryd.prog.bytesOf 16 = 8 := by kernel_rfl
@[simp] theorem ty_zeroD16 : zeroD Tryd.prog 16 = none := by kernel_rfl
@[simp] theorem ty_zeroC16 : zeroC Tryd.prog 16 = some [.undef] := by kernel_rfl
@[simp] theorem ty_zeroO16 : zeroO Tryd.prog 16 = some [.undef] := by kernel_rfl
@[simp] theorem ty_cells17 : Tryd.prog.cellsOf 17 = 1 := by kernel_rfl
@[simp] theorem ty_bytes17 : Tryd.prog.bytesOf 17 = 8 := by kernel_rfl
@[simp] theorem ty_zeroD17 : zeroD Tryd.prog 17 = none := by kernel_rfl
@[simp] theorem ty_zeroC17 : zeroC Tryd.prog 17 = some [.undef] := by kernel_rfl
@[simp] theorem ty_zeroO17 : zeroO Tryd.prog 17 = some [.undef] := by kernel_rfl
@[simp] theorem ty_cells18 : Tryd.prog.cellsOf 18 = 1 := by kernel_rfl
@[simp] theorem ty_bytes18 : Tryd.prog.bytesOf 18 = 8 := by kernel_rfl
@[simp] theorem ty_zeroD18 : zeroD Tryd.prog 18 = none := by kernel_rfl
@[simp] theorem ty_zeroC18 : zeroC Tryd.prog 18 = some [.undef] := by kernel_rfl
@[simp] theorem ty_zeroO18 : zeroO Tryd.prog 18 = some [.undef] := by kernel_rfl
@[simp] theorem ty_field18_0 : fieldOf Tryd.prog 18 0 = some (0, 17) := by kernel_rfl
@[simp] theorem ty_cells19 : Tryd.prog.cellsOf 19 = 1 := by kernel_rfl
@[simp] theorem ty_bytes19 : Tryd.prog.bytesOf 19 = 8 := by kernel_rfl
@[simp] theorem ty_zeroD19 : zeroD Tryd.prog 19 = none := by kernel_rfl
@[simp] theorem ty_zeroC19 : zeroC Tryd.prog 19 = some [.undef] := by kernel_rfl
@[simp] theorem ty_zeroO19 : zeroO Tryd.prog 19 = some [.undef] := by kernel_rfl
@[simp] theorem ty_field19_0 : fieldOf Tryd.prog 19 0 = some (0, 17) := by kernel_rfl
@[simp] theorem ty_zeroD20 : zeroD Tryd.prog 20 = none := by kernel_rfl
@[simp] theorem ty_zeroC20 : zeroC Tryd.prog 20 = some [.undef] := by kernel_rfl
@[simp] theorem ty_zeroO20 : zeroO Tryd.prog 20 = some [.undef] := by kernel_rfl
@[simp] theorem ty_cells21 : Tryd.prog.cellsOf 21 = 1 := by kernel_rfl
@[simp] theorem ty_bytes21 : Tryd.prog.bytesOf 21 = 4 := by kernel_rfl
@[simp] theorem ty_zeroD21 : zeroD Tryd.prog 21 = some [.int .i32 0] := by kernel_rfl
@[simp] theorem ty_zeroV21 : zeroValD Tryd.prog 21 = some (.int .i32 0) := by kernel_rfl
@[simp] theorem ty_cells22 : Tryd.prog.cellsOf 22 = 1 := by kernel_rfl
@[simp] theorem ty_bytes22 : Tryd.prog.bytesOf 22 = 24 := by kernel_rfl
@[simp] theorem ty_zeroD22 : zeroD Tryd.prog 22 = some [.nils] := by kernel_rfl
@[simp] theorem ty_zeroV22 : zeroValD Tryd.prog 22 = some (.nils) := by kernel_rfl
@[simp] theorem ty_elem22 : elemOfD Tryd.prog 22 = some 193 := by kernel_rfl
@[simp] theorem ty_cells23 : Tryd.prog.cellsOf 23 = 1 := by kernel_rfl
@[simp] theorem ty_bytes23 : Tryd.prog.bytesOf 23 = 24 := by kernel_rfl
@[simp] theorem ty_zeroD23 : zeroD Tryd.prog 23 = some [.nils] := by kernel_rfl
@[simp] theorem ty_zeroV23 : zeroValD Tryd.prog 23 = some (.nils) := by kernel_rfl
@[simp] theorem ty_elem23 : elemOfD Tryd.prog 23 = some 92 := by kernel_rfl
@[simp] theorem ty_cells24 : Tryd.prog.cellsOf 24 = 1 := by kernel_rfl
@[simp] theorem ty_bytes24 : Tryd.prog.bytesOf 24 = 24 := by kernel_rfl
@[simp] theorem ty_zeroD24 : zeroD Tryd.prog 24 = some [.nils] := by kernel_rfl
@[simp] theorem ty_zeroV24 : zeroValD Tryd.prog 24 = some (.nils) := by kernel_rfl
@[simp] theorem ty_elem24 : elemOfD Tryd.prog 24 = some 57 := by kernel_rfl
@[simp] theorem ty_cells25 : Tryd.prog.cellsOf 25 = 1 := by kernel_rfl
@[simp] theorem ty_bytes25 : Tryd.prog.bytesOf 25 = 24 := by kernel_rfl
@[simp] theorem ty_zeroD25 : zeroD Tryd.prog 25 = some [.nils] := by kernel_rfl
@[simp] theorem ty_zeroV25 : zeroValD Tryd.prog 25 = some (.nils) := by kernel_rfl
@[simp] theorem ty_elem25 : elemOfD Tryd.prog 25 = some 197 := by kernel_rfl
@[simp] theorem ty_cells26 : Tryd.prog.cellsOf 26 = 1 := by kernel_rfl
@[simp] theorem ty_bytes26 : Tryd.prog.bytesOf 26 = 24 := by kernel_rfl
@[simp] theorem ty_zeroD26 : zeroD Tryd.prog 26 = some [.nils] := by kernel_rfl
@[simp] theorem ty_zeroV26 : zeroValD Tryd.prog 26 = some (.nils) := by kernel_rfl
@[simp] theorem ty_elem26 : elemOfD Tryd.prog 26 = some 199 := by kernel_rfl
@[simp] theorem ty_cells27 : Tryd.prog.cellsOf 27 = 1 := by kernel_rfl
@[simp] theorem ty_bytes27 : Tryd.prog.bytesOf 27 = 24 := by kernel_rfl
@[simp] theorem ty_zeroD27 : zeroD Tryd.prog 27 = some [.nils] := by kernel_rfl
@[simp] theorem ty_zeroV27 : zeroValD Tryd.prog 27 = some (.nils) := by kernel_rfl
@[simp] theorem ty_elem27 : elemOfD Tryd.prog 27 = some 68 := by kernel_rfl
@[simp] theorem ty_cells28 : Tryd.prog.cellsOf 28 = 6 := by kernel_rfl
@[simp] theorem ty_bytes28 : Tryd.prog.bytesOf 28 = 144 := by kernel_rfl
@[simp] theorem ty_zeroD28 : zeroD Tryd.prog 28 = some [.nils, .nils, .nils, .nils, .nils, .nils] := by kernel_rfl
@[simp] theorem ty_zeroV28 : zeroValD Tryd.prog 28 = some (.agg [.nils, .nils, .nils, .nils, .nils, .nils]) := by kernel_rfl
@[simp] theorem ty_isStruct28 : isStruct Tryd.prog 28 = true := by kernel_rfl
@[simp] theorem ty_field28_0 : fieldOf Tryd.prog 28 0 = some (0, 22) := by kernel_rfl
@[simp] theorem ty_field28_1 : fieldOf Tryd.prog 28 1 = some (1, 23) := by kernel_rfl
@[simp] theorem ty_field28_2 : fieldOf Tryd.prog 28 2 = some (2, 24) := by kernel_rfl
@[simp] theorem ty_field28_3 : fieldOf Tryd.prog 28 3 = some (3, 25) := by kernel_rfl
@[simp] theorem ty_field28_4 : fieldOf Tryd.prog 28 4 = some (4, 26) := by kernel_rfl
@[simp] theorem ty_field28_5 : fieldOf Tryd.prog 28 5 = some (5, 27) := by kernel_rfl
@[simp] theorem ty_cells29 : Tryd.prog.cellsOf 29 = 6 := by kernel_rfl
@[simp] theorem ty_bytes29 : Tryd.prog.bytesOf 29 = 144 := by kernel_rfl
@[simp] theorem ty_zeroD29 : zeroD Tryd.prog 29 = some [.nils, .nils, .nils, .nils, .nils, .nils] := by kernel_rfl
@[simp] theorem ty_zeroV29 : zeroValD Tryd.prog 29 = some (.agg [.nils, .nils, .nils, .nils, .nils, .nils]) := by kernel_rfl
@[simp] theorem ty_isStruct29 : isStruct Tryd.prog 29 = true := by kernel_rfl
@[simp] theorem ty_field29_0 : fieldOf Tryd.prog 29 0 = some (0, 22) := by kernel_rfl
@[simp] theorem ty_field29_1 : fieldOf Tryd.prog 29 1 = some (1, 23) := by kernel_rfl
@[simp] theorem ty_field29_2 : fieldOf Tryd.prog 29 2 = some (2, 24) := by kernel_rfl
@[simp] theorem ty_field29_3 : fieldOf Tryd.prog 29 3 = some (3, 25) := by kernel_rfl
@[simp] theorem ty_field29_4 : fieldOf Tryd.prog 29 4 = some (4, 26) := by kernel_rfl
@[simp] theorem ty_field29_5 : fieldOf Tryd.prog 29 5 = some (5, 27) := by kernel_rfl
@[simp] theorem ty_cells30 : Tryd.prog.cellsOf 30 = 1 := by kernel_rfl
@[simp] theorem ty_bytes30 : Tryd.prog.bytesOf 30 = 8 := by kernel_rfl
@[simp] theorem ty_zeroD30 : zeroD Tryd.prog 30 = none := by kernel_rfl
@[simp] theorem ty_zeroC30 : zeroC Tryd.prog 30 = some [.undef] := by kernel_rfl
@[simp] theorem ty_zeroO30 : zeroO Tryd.prog 30 = some [.undef] := by kernel_rfl
@[simp] theorem ty_cells31 : Tryd.prog.cellsOf 31 = 1 := by kernel_rfl
@[simp] theorem ty_bytes31 : Tryd.prog.bytesOf 31 = 8 := by kernel_rfl
@[simp] theorem ty_zeroD31 : zeroD Tryd.prog 31 = some [.int .i64 0] := by kernel_rfl
@[simp] theorem ty_zeroV31 : zeroValD Tryd.prog 31 = some (.int .i64 0) := by kernel_rfl
@[simp] theorem ty_cells32 : Tryd.prog.cellsOf 32 = 1 := by kernel_rfl
@[simp] theorem ty_bytes32 : Tryd.prog.bytesOf 32 = 8 := by kernel_rfl
@[simp] theorem ty_zeroD32 : zeroD Tryd.prog 32 = none := by kernel_rfl
@[simp] theorem ty_zeroC32 : zeroC Tryd.prog 32 = some [.undef] := by kernel_rfl
@[simp] theorem ty_zeroO32 : zeroO Tryd.prog 32 = some [.undef] := by kernel_rfl
@[simp] theorem ty_cells33 : Tryd.prog.cellsOf 33 = 1 := by kernel_rfl
@[simp] theorem ty_bytes33 : Tryd.prog.bytesOf 33 = 8 := by kernel_rfl
@[simp] theorem ty_zeroD33 : zeroD Tryd.prog 33 = none := by kernel_rfl
@[simp] theorem ty_zeroC33 : zeroC Tryd.prog 33 = some [.undef] := by kernel_rfl
@[simp] theorem ty_zeroO33 : zeroO Tryd.prog 33 = some [.undef] := by kernel_rfl
@[simp] theorem ty_cells34 : Tryd.prog.cellsOf 34 = 1 := by kernel_rfl
@[simp] theorem ty_bytes34 : Tryd.prog.bytesOf 34 = 24 := by kernel_rfl
@[simp] theorem ty_zeroD34 : zeroD Tryd.prog 34 = some [.nils] := by kernel_rfl
@[simp] theorem ty_zeroV34 : zeroValD Tryd.prog 34 = some (.nils) := by kernel_rfl
@[simp] theorem ty_elem34 : elemOfD Tryd.prog 34 = some 48 := by kernel_rfl
@[simp] theorem ty_cells35 : Tryd.prog.cellsOf 35 = 1 := by kernel_rfl
@[simp] theorem ty_bytes35 : Tryd.prog.bytesOf 35 = 8 := by kernel_rfl
@[simp] theorem ty_zeroD35 : zeroD Tryd.prog 35 = some [.int .i64 0] := by kernel_rfl
@[simp] theorem ty_zeroV35 : zeroValD Tryd.prog 35 = some (.int .i64 0) := by kernel_rfl
@[simp] theorem ty_cells36 : Tryd.prog.cellsOf 36 = 1 := by kernel_rfl
@[simp] theorem ty_bytes36 : Tryd.prog.bytesOf 36 = 24 := by kernel_rfl
@[simp] theorem ty_zeroD36 : zeroD Tryd.prog 36 = some [.nils] := by kernel_rfl
@[simp] theorem ty_zeroV36 : zeroValD Tryd.prog 36 = some (.nils) := by kernel_rfl
@[simp] theorem ty_elem36 : elemOfD Tryd.prog 36 = some 43 := by kernel_rfl
@[simp] theorem ty_cells37 : Tryd.prog.cellsOf 37 = 1 := by kernel_rfl
@[simp] theorem ty_bytes37 : Tryd.prog.bytesOf 37 = 24 := by kernel_rfl
@[simp] theorem ty_zeroD37 : zeroD Tryd.prog 37 = some [.nils] := by kernel_rfl
@[simp] theorem ty_zeroV37 : zeroValD Tryd.prog 37 = some (.nils) := by kernel_rfl
@[simp] theorem ty_elem37 : elemOfD Tryd.prog 37 = some 9 := by kernel_rfl
@[simp] theorem ty_cells38 : Tryd.prog.cellsOf 38 = 1 := by kernel_rfl
@[simp] theorem ty_bytes38 : Tryd.prog.bytesOf 38 = 8 := by kernel_rfl
@[simp] theorem ty_zeroD38 : zeroD Tryd.prog 38 = some [.int .i64 0] := by kernel_rfl
@[simp] theorem ty_zeroV38 : zeroValD Tryd.prog 38 = some (.int .i64 0) := by kernel_rfl
@[simp] theorem ty_cells39 : Tryd.prog.cellsOf 39 = 1 := by kernel_rfl
@[simp] theorem ty_bytes39 : Tryd.prog.bytesOf 39 = 24 := by kernel_rfl
@[simp] theorem ty_zeroD39 : zeroD Tryd.prog 39 = some [.nils] := by kernel_rfl
@[simp] theorem ty_zeroV39 : zeroValD Tryd.prog 39 = some (.nils) := by kernel_rfl
@[simp] theorem ty_elem39 : elemOfD Tryd.prog 39 = some 41 := by kernel_rfl
@[simp] theorem ty_cells40 : Tryd.prog.cellsOf 40 = 4 := by kernel_rfl
@[simp] theorem ty_bytes40 : Tryd.prog.bytesOf 40 = 56 := by kernel_rfl
@[simp] theorem ty_zeroD40 : zeroD Tryd.prog 40 = some [.int .i64 0, .str [], .int .i64 0, .nils] := by kernel_rfl
@[simp] theorem ty_zeroV40 : zeroValD Tryd.prog 40 = some (.agg [.int .i64 0, .str [], .int .i64 0, .nils]) := by kernel_rfl
@[simp] theorem ty_isStruct40 : isStruct Tryd.prog 40 = true := by kernel_rfl
@[simp] theorem ty_field40_0 : fieldOf Tryd.prog 40 0 = some (0, 38) := by kernel_rfl
@[simp] theorem ty_field40_1 : fieldOf Tryd.prog 40 1 = some (1, 9) := by kernel_rfl
@[simp] theorem ty_field40_2 : fieldOf Tryd.prog 40 2 = some (2, 3) := by kernel_rfl
@[simp] theorem ty_field40_3 : fieldOf Tryd.prog 40 3 = some (3, 39) := by kernel_rfl
@[simp] theorem ty_cells41 : Tryd.prog.cellsOf 41 = 4 := by kernel_rfl
@[simp] theorem ty_bytes41 : Tryd.prog.bytesOf 41 = 56 := by kernel_rfl
@[simp] theorem ty_zeroD41 : zeroD Tryd.prog 41 = some [.int .i64 0, .str [], .int .i64 0, .nils] := by kernel_rfl
@[simp] theorem ty_zeroV41 : zeroValD Tryd.prog 41 = some (.agg [.int .i64 0, .str [], .int .i64 0, .nils]) := by kernel_rfl
@[simp] theorem ty_isStruct41 : isStruct Tryd.prog 41 = true := by kernel_rfl
@[simp] theorem ty_field41_0 : fieldOf Tryd.prog 41 0 = some (0, 38) := by kernel_rfl
@[simp] theorem ty_field41_1 : fieldOf Tryd.prog 41 1 = some (1, 9) := by kernel_rfl
@[simp] theorem ty_field41_2 : fieldOf Tryd.prog 41 2 = some (2, 3) := by kernel_rfl
@[simp] theorem ty_field41_3 : fieldOf Tryd.prog 41 3 = some (3, 39) := by kernel_rfl
@[simp] theorem ty_cells42 : Tryd.prog.cellsOf 42 = 9 := by kernel_rfl
@[simp] theorem ty_bytes42 : Tryd.prog.bytesOf 42 = 152 := by kernel_rfl
@[simp] theorem ty_zeroD42 : zeroD Tryd.prog 42 = some [.int .i64 0, .str [], .nils, .nils, .int .i64 0, .str [], .int .i64 0, .nils, .nils] := by kernel_rfl
@[simp] theorem ty_zeroV42 : zeroValD Tryd.prog 42 = some (.agg [.int .i64 0, .str [], .nils, .nils, .int .i64 0, .str [], .int .i64 0, .nils, .nils]) := by kernel_rfl
@[simp] theorem ty_isStruct42 : isStruct Tryd.prog 42 = true := by kernel_rfl
@[simp] theorem ty_field42_0 : fieldOf Tryd.prog 42 0 = some (0, 35) := by kernel_rfl
@[simp] theorem ty_field42_1 : fieldOf Tryd.prog 42 1 = some (1, 9) := by kernel_rfl
@[simp] theorem ty_field42_2 : fieldOf Tryd.prog 42 2 = some (2, 36) := by kernel_rfl
@[simp] theorem ty_field42_3 : fieldOf Tryd.prog 42 3 = some (3, 37) := by kernel_rfl
@[simp] theorem ty_field42_4 : fieldOf Tryd.prog 42 4 = some (4, 41) := by kernel_rfl
@[simp] theorem ty_field42_5 : fieldOf Tryd.prog 42 5 = some (8, 39) := by kernel_rfl
@[simp] theorem ty_cells43 : Tryd.prog.cellsOf 43 = 9 := by kernel_rfl
@[simp] theorem ty_bytes43 : Tryd.prog.bytesOf 43 = 152 := by kernel_rfl
@[simp] theorem ty_zeroD43 : zeroD Tryd.prog 43 = some [.int .i64 0, .str [], .nils, .nils, .int .i64 0, .str [], .int .i64 0, .nils, .nils] := by kernel_rfl
@[simp] theorem ty_zeroV43 : zeroValD Tryd.prog 43 = some (.agg [.int .i64 0, .str [], .nils, .nils, .int .i64 0, .str [], .int .i64 0, .nils, .nils]) := by kernel_rfl
@[simp] theorem ty_isStruct43 : isStruct Tryd.prog 43 = true := by kernel_rfl
@[simp] theorem ty_field43_0 : fieldOf Tryd.prog 43 0 = some (0, 35) := by kernel_rfl
@[simp] theorem ty_field43_1 : fieldOf Tryd.prog 43 1 = some (1, 9) := by kernel_rfl
@[simp] theorem ty_field43_2 : fieldOf Tryd.prog 43 2 = some (2, 36) := by kernel_rfl
@[simp] theorem ty_field43_3 : fieldOf Tryd.prog 43 3 = some (3, 37) := by kernel_rfl
@[simp] theorem ty_field43_4 : fieldOf Tryd.prog 43 4 = some (4, 41) := by kernel_rfl
@[simp] theorem ty_field43_5 : fieldOf Tryd.prog 43 5 = some (8, 39) := by kernel_rfl
@[simp] theorem ty_cells45 : Tryd.prog.cellsOf 45 = 1 := by kernel_rfl
@[simp] theorem ty_bytes45 : Tryd.prog.bytesOf 45 = 8 := by kernel_rfl
@[simp] theorem ty_zeroD45 : zeroD Tryd.prog 45 = none := by kernel_rfl
@[simp] theorem ty_zeroC45 : zeroC Tryd.prog 45 = some [.undef] := by kernel_rfl
@[simp] theorem ty_zeroO45 : zeroO Tryd.prog 45 = some [.undef] := by kernel_rfl
@[simp] theorem ty_cells46 : Tryd.prog.cellsOf 46 = 1 := by kernel_rfl
@[simp] theorem ty_bytes46 : Tryd.prog.bytesOf 46 = 8 := by kernel_rfl
@[simp] theorem ty_zeroD46 : zeroD Tryd.prog 46 = none := by kernel_rfl
@[simp] theorem ty_zeroC46 : zeroC Tryd.prog 46 = some [.undef] := by kernel_rfl
@[simp] theorem ty_zeroO46 : zeroO Tryd.prog 46 = some [.undef] := by kernel_rfl
@[simp] theorem ty_cells47 : Tryd.prog.cellsOf 47 = 2 := by kernel_rfl
@[simp] theorem ty_bytes47 : Tryd.prog.bytesOf 47 = 32 := by kernel_rfl
@[simp] theorem ty_zeroD47 : zeroD Tryd.prog 47 = some [.str [], .str []] := by kernel_rfl
@[simp] theorem ty_zeroV47 : zeroValD Tryd.prog 47 = some (.agg [.str [], .str []]) := by kernel_rfl
@[simp] theorem ty_isStruct47 : isStruct Tryd.prog 47 = true := by kernel_rfl
@[simp] theorem ty_field47_0 : fieldOf Tryd.prog 47 0 = some (0, 9) := by kernel_rfl
@[simp] theorem ty_field47_1 : fieldOf Tryd.prog 47 1 = some (1, 9) := by kernel_rfl
@[simp] theorem ty_cells48 : Tryd.prog.cellsOf 48 = 2 := by kernel_rfl
@[simp] theorem ty_bytes48 : Tryd.prog.bytesOf 48 = 32 := by kernel_rfl
@[simp] theorem ty_zeroD48 : zeroD Tryd.prog 48 = some [.str [], .str []] := by kernel_rfl
@[simp] theorem ty_zeroV48 : zeroValD Tryd.prog 48 = some (.agg [.str [], .str []]) := by kernel_rfl
@[simp] theorem ty_isStruct48 : isStruct Tryd.prog 48 = true := by kernel_rfl
@[simp] theorem ty_field48_0 : fieldOf Tryd.prog 48 0 = some (0, 9) := by kernel_rfl
@[simp] theorem ty_field48_1 : fieldOf Tryd.prog 48 1 = some (1, 9) := by kernel_rfl
@[simp] theorem ty_flat48 : flatDescs Tryd.prog 48 = some [.string, .string] := by kernel_rfl
@[simp] theorem ty_cells49 : Tryd.prog.cellsOf 49 = 1 := by kernel_rfl
@[simp] theorem ty_bytes49 : Tryd.prog.bytesOf 49 = 24 := by kernel_rfl
@[simp] theorem ty_zeroD49 : zeroD Tryd.prog 49 = some [.nils] := by kernel_rfl
@[simp] theorem ty_zeroV49 : zeroValD Tryd.prog 49 = some (.nils) := by kernel_rfl
@[simp] theorem ty_elem49 : elemOfD Tryd.prog 49 = some 201 := by kernel_rfl
@[simp] theorem ty_cells50 : Tryd.prog.cellsOf 50 = 1 := by kernel_rfl
@[simp] theorem ty_bytes50 : Tryd.prog.bytesOf 50 = 24 := by kernel_rfl
@[simp] theorem ty_zeroD50 : zeroD Tryd.prog 50 = some [.nils] := by kernel_rfl
@[simp] theorem ty_zeroV50 : zeroValD Tryd.prog 50 = some (.nils) := by kernel_rfl
@[simp] theorem ty_elem50 : elemOfD Tryd.prog 50 = some 203 := by kernel_rfl
@[simp] theorem ty_cells51 : Tryd.prog.cellsOf 51 = 14 := by kernel_rfl
@[simp] theorem ty_bytes51 : Tryd.prog.bytesOf 51 = 272 := by kernel_rfl
@[simp] theorem ty_zeroD51 : zeroD Tryd.prog 51 = some [.nils, .nils, .nils, .nils, .int .i64 0, .str [], .nils, .nils, .int .i64 0, .str [], .int .i64 0, .nils, .nils, .nils] := by kernel_rfl
@[simp] theorem ty_zeroV51 : zeroValD Tryd.prog 51 = some (.agg [.nils, .nils, .nils, .nils, .int .i64 0, .str [], .nils, .nils, .int .i64 0, .str [], .int .i64 0, .nils, .nils, .nils]) := by kernel_rfl
@[simp] theorem ty_isStruct51 : isStruct Tryd.prog 51 = true := by kernel_rfl
@[simp] theorem ty_field51_0 : fieldOf Tryd.prog 51 0 = some (0, 37) := by kernel_rfl
@[simp] theorem ty_field51_1 : fieldOf Tryd.prog 51 1 = some (1, 34) := by kernel_rfl
@[simp] theorem ty_field51_2 : fieldOf Tryd.prog 51 2 = some (2, 49) := by kernel_rfl
@[simp] theorem ty_field51_3 : fieldOf Tryd.prog 51 3 = some (3, 50) := by kernel_rfl
@[simp] theorem ty_field51_4 : fieldOf Tryd.prog 51 4 = some (4, 43) := by kernel_rfl
@[simp] theorem ty_field51_5 : fieldOf Tryd.prog 51 5 = some (13, 39) := by kernel_rfl
@[simp] theorem ty_cells52 : Tryd.prog.cellsOf 52 = 14 := by kernel_rfl
@[simp] theorem ty_bytes52 : Tryd.prog.bytesOf 52 = 272 := by kernel_rfl
@[simp] theorem ty_zeroD52 : zeroD Tryd.prog 52 = some [.nils, .nils, .nils, .nils, .int .i64 0, .str [], .nils, .nils, .int .i64 0, .str [], .int .i64 0, .nils, .nils, .nils] := by kernel_rfl
@[simp] theorem ty_zeroV52 : zeroValD Tryd.prog 52 = some (.agg [.nils, .nils, .nils, .nils, .int .i64 0, .str [], .nils, .nils, .int .i64 0, .str [], .int .i64 0, .nils, .nils, .nils]) := by kernel_rfl
@[simp] theorem ty_isStruct52 : isStruct Tryd.prog 52 = true := by kernel_rfl
@[simp] theorem ty_field52_0 : fieldOf Tryd.prog 52 0 = some (0, 37) := by kernel_rfl
@[simp] theorem ty_field52_1 : fieldOf Tryd.prog 52 1 = some (1, 34) := by kernel_rfl
@[simp] theorem ty_field52_2 : fieldOf Tryd.prog 52 2 = some (2, 49) := by kernel_rfl
@[simp] theorem ty_field52_3 : fieldOf Tryd.prog 52 3 = some (3, 50) := by kernel_rfl
@[simp] theorem ty_field52_4 : fieldOf Tryd.prog 52 4 = some (4, 43) := by kernel_rfl
@[simp] theorem ty_field52_5 : fieldOf Tryd.prog 52 5 = some (13, 39) := by kernel_rfl
@[simp] theorem ty_cells53 : Tryd.prog.cellsOf 53 = 1 := by kernel_rfl
@[simp] theorem ty_bytes53 : Tryd.prog.bytesOf 53 = 8 := by kernel_rfl
@[simp] theorem ty_zeroD53 : zeroD Tryd.prog 53 = none := by kernel_rfl
@[simp] theorem ty_zeroC53 : zeroC Tryd.prog 53 = some [.undef] := by kernel_rfl
@[simp] theorem ty_zeroO53 : zeroO Tryd.prog 53 = some [.undef] := by kernel_rfl
@[simp] theorem ty_cells54 : Tryd.prog.cellsOf 54 = 1 := by kernel_rfl
@[simp] theorem ty_bytes54 : Tryd.prog.bytesOf 54 = 8 := by kernel_rfl
@[simp] theorem ty_zeroD54 : zeroD Tryd.prog 54 = none := by kernel_rfl
@[simp] theorem ty_zeroC54 : zeroC Tryd.prog 54 = some [.undef] := by kernel_rfl
@[simp] theorem ty_zeroO54 : zeroO Tryd.prog 54 = some [.undef] := by kernel_rfl
@[simp] theorem ty_cells55 : Tryd.prog.cellsOf 55 = 1 := by kernel_rfl
@[simp] theorem ty_bytes55 : Tryd.prog.bytesOf 55 = 8 := by kernel_rfl
@[simp] theorem ty_zeroD55 : zeroD Tryd.prog 55 = none := by kernel_rfl
@[simp] theorem ty_zeroC55 : zeroC Tryd.prog 55 = some [.undef] := by kernel_rfl
@[simp] theorem ty_zeroO55 : zeroO Tryd.prog 55 = some [.undef] := by kernel_rfl
@[simp] theorem ty_cells56 : Tryd.prog.cellsOf 56 = 12 := by kernel_rfl
@[simp] theorem ty_bytes56 : Tryd.prog.bytesOf 56 = 216 := by kernel_rfl
@[simp] theorem ty_zeroD56 : zeroD Tryd.prog 56 = some [.str [], .int .i64 0, .str [], .nils, .nils, .int .i64 0, .str [], .int .i64 0, .nils, .nils, .nils, .nils] := by kernel_rfl
@[simp] theorem ty_zeroV56 : zeroValD Tryd.prog 56 = some (.agg [.str [], .int .i64 0, .str [], .nils, .nils, .int .i64 0, .str [], .int .i64 0, .nils, .nils, .nils, .nils]) := by kernel_rfl
@[simp] theorem ty_isStruct56 : isStruct Tryd.prog 56 = true := by kernel_rfl
@[simp] theorem ty_field56_0 : fieldOf Tryd.prog 56 0 = some (0, 9) := by kernel_rfl
@[simp] theorem ty_field56_1 : fieldOf Tryd.prog 56 1 = some (1, 43) := by kernel_rfl
@[simp] theorem ty_field56_2 : fieldOf Tryd.prog 56 2 = some (10, 34) := by kernel_rfl
@[simp] theorem ty_field56_3 : fieldOf Tryd.prog 56 3 = some (11, 27) := by kernel_rfl
@[simp] theorem ty_cells57 : Tryd.prog.cellsOf 57 = 12 := by kernel_rfl
@[simp] theorem ty_bytes57 : Tryd.prog.bytesOf 57 = 216 := by kernel_rfl
@[simp] theorem ty_zeroD57 : zeroD Tryd.prog 57 = some [.str [], .int .i64 0, .str [], .nils, .nils, .int .i64 0, .str [], .int .i64 0, .nils, .nils, .nils, .nils] := by kernel_rfl
@[simp] theorem ty_zeroV57 : zeroValD Tryd.prog 57 = some (.agg [.str [], .int .i64 0, .str [], .nils, .nils, .int .i64 0, .str [], .int .i64 0, .nils, .nils, .nils, .nils]) := by kernel_rfl
@[simp] theorem ty_isStruct57 : isStruct Tryd.prog 57 = true := by kernel_rfl
@[simp] theorem ty_field57_0 : fieldOf Tryd.prog 57 0 = some (0, 9) := by kernel_rfl
@[simp] theorem ty_field57_1 : fieldOf Tryd.prog 57 1 = some (1, 43) := by kernel_rfl
@[simp] theorem ty_field57_2 : fieldOf Tryd.prog 57 2 = some (10, 34) := by kernel_rfl
@[simp] theorem ty_field57_3 : fieldOf Tryd.prog 57 3 = some (11, 27) := by kernel_rfl
@[simp] theorem ty_cells58 : Tryd.prog.cellsOf 58 = 1 := by kernel_rfl
@[simp] theorem ty_bytes58 : Tryd.prog.bytesOf 58 = 8 := by kernel_rfl
@[simp] theorem ty_zeroD58 : zeroD Tryd.prog 58 = none := by kernel_rfl
@[simp] theorem ty_zeroC58 : zeroC Tryd.prog 58 = some [.undef] := by kernel_rfl
@[simp] theorem ty_zeroO58 : zeroO Tryd.prog 58 = some [.undef] := by kernel_rfl
@[simp] theorem ty_cells59 : Tryd.prog.cellsOf 59 = 1 := by kernel_rfl
@[simp] theorem ty_bytes59 : Tryd.prog.bytesOf 59 = 8 := by kernel_rfl
@[simp] theorem ty_zeroD59 : zeroD Tryd.prog 59 = none := by kernel_rfl
@[simp] theorem ty_zeroC59 : zeroC Tryd.prog 59 = some [.undef] := by kernel_rfl
@[simp] theorem ty_zeroO59 : zeroO Tryd.prog 59 = some [.undef] := by kernel_rfl
@[simp] theorem ty_cells60 : Tryd.prog.cellsOf 60 = 1 := by kernel_rfl
@[simp] theorem ty_bytes60 : Tryd.prog.bytesOf 60 = 8 := by kernel_rfl
@[simp] theorem ty_zeroD60 : zeroD Tryd.prog 60 = some [.int .i64 0] := by kernel_rfl
@[simp] theorem ty_zeroV60 : zeroValD Tryd.prog 60 = some (.int .i64 0) := by kernel_rfl
@[simp] theorem ty_cells61 : Tryd.prog.cellsOf 61 = 1 := by kernel_rfl
@[simp] theorem ty_bytes61 : Tryd.prog.bytesOf 61 = 24 := by kernel_rfl
@[simp] theorem ty_zeroD61 : zeroD Tryd.prog 61 = some [.nils] := by kernel_rfl
@[simp] theorem ty_zeroV61 : zeroValD Tryd.prog 61 = some (.nils) := by kernel_rfl
@[simp] theorem ty_elem61 : elemOfD Tryd.prog 61 = some 65 := by kernel_rfl
@[simp] theorem ty_cells62 : Tryd.prog.cellsOf 62 = 1 := by kernel_rfl
@[simp] theorem ty_bytes62 : Tryd.prog.bytesOf 62 = 24 := by kernel_rfl
@[simp] theorem ty_zeroD62 : zeroD Tryd.prog 62 = some [.nils] := by kernel_rfl
@[simp] theorem ty_zeroV62 : zeroValD Tryd.prog 62 = some (.nils) := by kernel_rfl
@[simp] theorem ty_elem62 : elemOfD Tryd.prog 62 = some 204 := by kernel_rfl
@[simp] theorem ty_cells63 : Tryd.prog.cellsOf 63 = 1 := by kernel_rfl
@[simp] theorem ty_bytes63 : Tryd.prog.bytesOf 63 = 24 := by kernel_rfl
@[simp] theorem ty_zeroD63 : zeroD Tryd.prog 63 = some [.nils] := by kernel_rfl
@[simp] theorem ty_zeroV63 : zeroValD Tryd.prog 63 = some (.nils) := by kernel_rfl
@[simp] theorem ty_elem63 : elemOfD Tryd.prog 63 = some 206 := by kernel_rfl
@[simp] theorem ty_cells64 : Tryd.prog.cellsOf 64 = 7 := by kernel_rfl
@[simp] theorem ty_bytes64 : Tryd.prog.bytesOf 64 = 128 := by kernel_rfl
@[simp] theorem ty_zeroD64 : zeroD Tryd.prog 64 = some [.int .i64 0, .str [], .int .i64 0, .nils, .nils, .nils, .nils] := by kernel_rfl
@[simp] theorem ty_zeroV64 : zeroValD Tryd.prog 64 = some (.agg [.int .i64 0, .str [], .int .i64 0, .nils, .nils, .nils, .nils]) := by kernel_rfl
@[simp] theorem ty_isStruct64 : isStruct Tryd.prog 64 = true := by kernel_rfl
@[simp] theorem ty_field64_0 : fieldOf Tryd.prog 64 0 = some (0, 60) := by kernel_rfl
@[simp] theorem ty_field64_1 : fieldOf Tryd.prog 64 1 = some (1, 9) := by kernel_rfl
@[simp] theorem ty_field64_2 : fieldOf Tryd.prog 64 2 = some (2, 3) := by kernel_rfl
@[simp] theorem ty_field64_3 : fieldOf Tryd.prog 64 3 = some (3, 61) := by kernel_rfl
@[simp] theorem ty_field64_4 : fieldOf Tryd.prog 64 4 = some (4, 62) := by kernel_rfl
@[simp] theorem ty_field64_5 : fieldOf Tryd.prog 64 5 = some (5, 63) := by kernel_rfl
@[simp] theorem ty_field64_6 : fieldOf Tryd.prog 64 6 = some (6, 36) := by kernel_rfl
@[simp] theorem ty_cells65 : Tryd.prog.cellsOf 65 = 7 := by kernel_rfl
@[simp] theorem ty_bytes65 : Tryd.prog.bytesOf 65 = 128 := by kernel_rfl
@[simp] theorem ty_zeroD65 : zeroD Tryd.prog 65 = some [.int .i64 0, .str [], .int .i64 0, .nils, .nils, .nils, .nils] := by kernel_rfl
@[simp] theorem ty_zeroV65 : zeroValD Tryd.prog 65 = some (.agg [.int .i64 0, .str [], .int .i64 0, .nils, .nils, .nils, .nils]) := by kernel_rfl
@[simp] theorem ty_isStruct65 : isStruct Tryd.prog 65 = true := by kernel_rfl
@[simp] theorem ty_field65_0 : fieldOf Tryd.prog 65 0 = some (0, 60) := by kernel_rfl
@[simp] theorem ty_field65_1 : fieldOf Tryd.prog 65 1 = some (1, 9) := by kernel_rfl
@[simp] theorem ty_field65_2 : fieldOf Tryd.prog 65 2 = some (2, 3) := by kernel_rfl
@[simp] theorem ty_field65_3 : fieldOf Tryd.prog 65 3 = some (3, 61) := by kernel_rfl
@[simp] theorem ty_field65_4 : fieldOf Tryd.prog 65 4 = some (4, 62) := by kernel_rfl
@[simp] theorem ty_field65_5 : fieldOf Tryd.prog 65 5 = some (5, 63) := by kernel_rfl
@[simp] theorem ty_field65_6 : fieldOf Tryd.prog 65 6 = some (6, 36) := by kernel_rfl
@[simp] theorem ty_cells66 : Tryd.prog.cellsOf 66 = 1 := by kernel_rfl
@[simp] theorem ty_bytes66 : Tryd.prog.bytesOf 66 = 8 := by kernel_rfl
@[simp] theorem ty_zeroD66 : zeroD Tryd.prog 66 = some [.int .i64 0] := by kernel_rfl
@[simp] theorem ty_zeroV66 : zeroValD Tryd.prog 66 = some (.int .i64 0) := by kernel_rfl
@[simp] theorem ty_cells67 : Tryd.prog.cellsOf 67 = 25 := by kernel_rfl
@[simp] theorem ty_bytes67 : Tryd.prog.bytesOf 67 = 456 := by kernel_rfl
@[simp] theorem ty_zeroD67 : zeroD Tryd.prog 67 = some [.str [], .nils, .int .i64 0, .str [], .int .i64 0, .nils, .nils, .nils, .nils, .int .i64 0, .bool false, .nils, .nils, .nils, .nils, .int .i64 0, .str [], .nils, .nils, .int .i64 0, .str [], .int .i64 0, .nils, .nils, .nils] := by kernel_rfl
@[simp] theorem ty_zeroV67 : zeroValD Tryd.prog 67 = some (.agg [.str [], .nils, .int .i64 0, .str [], .int .i64 0, .nils, .nils, .nils, .nils, .int .i64 0, .bool false, .nils, .nils, .nils, .nils, .int .i64 0, .str [], .nils, .nils, .int .i64 0, .str [], .int .i64 0, .nils, .nils, .nils]) := by kernel_rfl
@[simp] theorem ty_isStruct67 : isStruct Tryd.prog 67 = true := by kernel_rfl
@[simp] theorem ty_field67_0 : fieldOf Tryd.prog 67 0 = some (0, 9) := by kernel_rfl
@[simp] theorem ty_field67_1 : fieldOf Tryd.prog 67 1 = some (1, 37) := by kernel_rfl
@[simp] theorem ty_field67_2 : fieldOf Tryd.prog 67 2 = some (2, 65) := by kernel_rfl
@[simp] theorem ty_field67_3 : fieldOf Tryd.prog 67 3 = some (9, 66) := by kernel_rfl
@[simp] theorem ty_field67_4 : fieldOf Tryd.prog 67 4 = some (10, 4) := by kernel_rfl
@[simp] theorem ty_field67_5 : fieldOf Tryd.prog 67 5 = some (11, 52) := by kernel_rfl
@[simp] theorem ty_cells68 : Tryd.prog.cellsOf 68 = 25 := by kernel_rfl
@[simp] theorem ty_bytes68 : Tryd.prog.bytesOf 68 = 456 := by kernel_rfl
@[simp] theorem ty_zeroD68 : zeroD Tryd.prog 68 = some [.str [], .nils, .int .i64 0, .str [], .int .i64 0, .nils, .nils, .nils, .nils, .int .i64 0, .bool false, .nils, .nils, .nils, .nils, .int .i64 0, .str [], .nils, .nils, .int .i64 0, .str [], .int .i64 0, .nils, .nils, .nils] := by kernel_rfl
@[simp] theorem ty_zeroV68 : zeroValD Tryd.prog 68 = some (.agg [.str [], .nils, .int .i64 0, .str [], .int .i64 0, .nils, .nils, .nils, .nils, .int .i64 0, .bool false, .nils, .nils, .nils, .nils, .int .i64 0, .str [], .nils, .nils, .int .i64 0, .str [], .int .i64 0, .nils, .nils, .nils]) := by kernel_rfl
@[simp] theorem ty_isStruct68 : isStruct Tryd.prog 68 = true := by kernel_rfl
@[simp] theorem ty_field68_0 : fieldOf Tryd.prog 68 0 = some (0, 9) := by kernel_rfl
@[simp] theorem ty_field68_1 : fieldOf Tryd.prog 68 1 = some (1, 37) := by kernel_rfl
@[simp] theorem ty_field68_2 : fieldOf Tryd.prog 68 2 = some (2, 65) := by kernel_rfl
@[simp] theorem ty_field68_3 : fieldOf Tryd.prog 68 3 = some (9, 66) := by kernel_rfl
@[simp] theorem ty_field68_4 : fieldOf Tryd.prog 68 4 = some (10, 4) := by kernel_rfl
@[simp] theorem ty_field68_5 : fieldOf Tryd.prog 68 5 = some (11, 52) := by kernel_rfl
@[simp] theorem ty_cells70 : Tryd.prog.cellsOf 70 = 1 := by kernel_rfl
@[simp] theorem ty_bytes70 : Tryd.prog.bytesOf 70 = 8 := by kernel_rfl
@[simp] theorem ty_zeroD70 : zeroD Tryd.prog 70 = none := by kernel_rfl
@[simp] theorem ty_zeroC70 : zeroC Tryd.prog 70 = some [.undef] := by kernel_rfl
@[simp] theorem ty_zeroO70 : zeroO Tryd.prog 70 = some [.undef] := by kernel_rfl
@[simp] theorem ty_cells71 : Tryd.prog.cellsOf 71 = 1 := by kernel_rfl
@[simp] theorem ty_bytes71 : Tryd.prog.bytesOf 71 = 8 := by kernel_rfl
@[simp] theorem ty_zeroD71 : zeroD Tryd.prog 71 = none := by kernel_rfl
@[simp] theorem ty_zeroC71 : zeroC Tryd.prog 71 = some [.undef] := by kernel_rfl
@[simp] theorem ty_zeroO71 : zeroO Tryd.prog 71 = some [.undef] := by kernel_rfl
@[simp] theorem ty_cells72 : Tryd.prog.cellsOf 72 = 1 := by kernel_rfl
@[simp] theorem ty_bytes72 : Tryd.prog.bytesOf 72 = 8 := by kernel_rfl
@[simp] theorem ty_zeroD72 : zeroD Tryd.prog 72 = none := by kernel_rfl
@[simp] theorem ty_zeroC72 : zeroC Tryd.prog 72 = some [.undef] := by kernel_rfl
@[simp] theorem ty_zeroO72 : zeroO Tryd.prog 72 = some [.undef] := by kernel_rfl
@[simp] theorem ty_cells73 : Tryd.prog.cellsOf 73 = 1 := by kernel_rfl
@[simp] theorem ty_bytes73 : Tryd.prog.bytesOf 73 = 8 := by kernel_rfl
@[simp] theorem ty_zeroD73 : zeroD Tryd.prog 73 = none := by kernel_rfl
@[simp] theorem ty_zeroC73 : zeroC Tryd.prog 73 = some [.undef] := by kernel_rfl
@[simp] theorem ty_zeroO73 : zeroO Tryd.prog 73 = some [.undef] := by kernel_rfl
@[simp] theorem ty_cells74 : Tryd.prog.cellsOf 74 = 1 := by kernel_rfl
@[simp] theorem ty_bytes74 : Tryd.prog.bytesOf 74 = 8 := by kernel_rfl
@[simp] theorem ty_zeroD74 : zeroD Tryd.prog 74 = none := by kernel_rfl
@[simp] theorem ty_zeroC74 : zeroC Tryd.prog 74 = some [.undef] := by kernel_rfl
@[simp] theorem ty_zeroO74 : zeroO Tryd.prog 74 = some [.undef] := by kernel_rfl
@[simp] theorem ty_cells75 : Tryd.prog.cellsOf 75 = 1 := by kernel_rfl
@[simp] theorem ty_bytes75 : Tryd.prog.bytesOf 75 = 8 := by kernel_rfl
@[simp] theorem ty_zeroD75 : zeroD Tryd.prog 75 = none := by kernel_rfl
@[simp] theorem ty_zeroC75 : zeroC Tryd.prog 75 = some [.undef] := by kernel_rfl
@[simp] theorem ty_zeroO75 : zeroO Tryd.prog 75 = some [.undef] := by kernel_rfl
@[simp] theorem ty_cells76 : Tryd.prog.cellsOf 76 = 1 := by kernel_rfl
@[simp] theorem ty_bytes76 : Tryd.prog.bytesOf 76 = 8 := by kernel_rfl
@[simp] theorem ty_zeroD76 : zeroD Tryd.prog 76 = none := by kernel_rfl
@[simp] theorem ty_zeroC76 : zeroC Tryd.prog 76 = some [.undef] := by kernel_rfl
@[simp] theorem ty_zeroO76 : zeroO Tryd.prog 76 = some [.undef] := by kernel_rfl
@[simp] theorem ty_cells77 : Tryd.prog.cellsOf 77 = 1 := by kernel_rfl
@[simp] theorem ty_bytes77 : Tryd.prog.bytesOf 77 = 8 := by kernel_rfl
@[simp] theorem ty_zeroD77 : zeroD Tryd.prog 77 = none := by kernel_rfl
@[simp] theorem ty_zeroC77 : zeroC Tryd.prog 77 = some [.undef] := by kernel_rfl
@[simp] theorem ty_zeroO77 : zeroO Tryd.prog 77 = some [.undef] := by kernel_rfl
@[simp] theorem ty_cells78 : Tryd.prog.cellsOf 78 = 1 := by kernel_rfl
@[simp] theorem ty_bytes78 : Tryd.prog.bytesOf 78 = 8 := by kernel_rfl
@[simp] theorem ty_zeroD78 : zeroD Tryd.prog 78 = none := by kernel_rfl
@[simp] theorem ty_zeroC78 : zeroC Tryd.prog 78 = some [.undef] := by kernel_rfl
@[simp] theorem ty_zeroO78 : zeroO Tryd.prog 78 = some [.undef] := by kernel_rfl
@[simp] theorem ty_cells79 : Tryd.prog.cellsOf 79 = 1 := by kernel_rfl
@[simp] theorem ty_bytes79 : Tryd.prog.bytesOf 79 = 8 := by kernel_rfl
@[simp] theorem ty_zeroD79 : zeroD Tryd.prog 79 = none := by kernel_rfl
@[simp] theorem ty_zeroC79 : zeroC Tryd.prog 79 = some [.undef] := by kernel_rfl
@[simp] theorem ty_zeroO79 : zeroO Tryd.prog 79 = some [.undef] := by kernel_rfl
@[simp] theorem ty_cells80 : Tryd.prog.cellsOf 80 = 1 := by kernel_rfl
@[simp] theorem ty_bytes80 : Tryd.prog.bytesOf 80 = 8 := by kernel_rfl
@[simp] theorem ty_zeroD80 : zeroD Tryd.prog 80 = none := by kernel_rfl
@[simp] theorem ty_zeroC80 : zeroC Tryd.prog 80 = some [.undef] := by kernel_rfl
@[simp] theorem ty_zeroO80 : zeroO Tryd.prog 80 = some [.undef] := by kernel_rfl
@[simp] theorem ty_cells82 : Tryd.prog.cellsOf 82 = 1 := by kernel_rfl
@[simp] theorem ty_bytes82 : Tryd.prog.bytesOf 82 = 8 := by kernel_rfl
@[simp] theorem ty_zeroD82 : zeroD Tryd.prog 82 = none := by kernel_rfl
@[simp] theorem ty_zeroC82 : zeroC Tryd.prog 82 = some [.undef] := by kernel_rfl
@[simp] theorem ty_zeroO82 : zeroO Tryd.prog 82 = some [.undef] := by kernel_rfl
@[simp] theorem ty_cells84 : Tryd.prog.cellsOf 84 = 1 := by kernel_rfl
@[simp] theorem ty_bytes84 : Tryd.prog.bytesOf 84 = 8 := by kernel_rfl
@[simp] theorem ty_zeroD84 : zeroD Tryd.prog 84 = none := by kernel_rfl
@[simp] theorem ty_zeroC84 : zeroC Tryd.prog 84 = some [.undef] := by kernel_rfl
@[simp] theorem ty_zeroO84 : zeroO Tryd.prog 84 = some [.undef] := by kernel_rfl
@[simp] theorem ty_cells85 : Tryd.prog.cellsOf 85 = 1 := by kernel_rfl
@[simp] theorem ty_bytes85 : Tryd.prog.bytesOf 85 = 8 := by kernel_rfl
@[simp] theorem ty_zeroD85 : zeroD Tryd.prog 85 = none := by kernel_rfl
@[simp] theorem ty_zeroC85 : zeroC Tryd.prog 85 = some [.undef] := by kernel_rfl
@[simp] theorem ty_zeroO85 : zeroO Tryd.prog 85 = some [.undef] := by kernel_rfl
@[simp] theorem ty_cells86 : Tryd.prog.cellsOf 86 = 1 := by kernel_rfl
@[simp] theorem ty_bytes86 : Tryd.prog.bytesOf 86 = 8 := by kernel_rfl
@[simp] theorem ty_zeroD86 : zeroD Tryd.prog 86 = none := by kernel_rfl
@[simp] theorem ty_zeroC86 : zeroC Tryd.prog 86 = some [.undef] := by kernel_rfl
@[simp] theorem ty_zeroO86 : zeroO Tryd.prog 86 = some [.undef] := by kernel_rfl
@[simp] theorem ty_cells87 : Tryd.prog.cellsOf 87 = 1 := by kernel_rfl
@[simp] theorem ty_bytes87 : Tryd.prog.bytesOf 87 = 8 := by kernel_rfl
@[simp] theorem ty_zeroD87 : zeroD Tryd.prog 87 = none := by kernel_rfl
@[simp] theorem ty_zeroC87 : zeroC Tryd.prog 87 = some [.undef] := by kernel_rfl
@[simp] theorem ty_zeroO87 : zeroO Tryd.prog 87 = some [.undef] := by kernel_rfl
@[simp] theorem ty_cells88 : Tryd.prog.cellsOf 88 = 1 := by kernel_rfl
@[simp] theorem ty_bytes88 : Tryd.prog.bytesOf 88 = 8 := by kernel_rfl
@[simp] theorem ty_zeroD88 : zeroD Tryd.prog 88 = none := by kernel_rfl
@[simp] theorem ty_zeroC88 : zeroC Tryd.prog 88 = some [.undef] := by kernel_rfl
@[simp] theorem ty_zeroO88 : zeroO Tryd.prog 88 = some [.undef] := by kernel_rfl
@[simp] theorem ty_cells89 : Tryd.prog.cellsOf 89 = 1 := by kernel_rfl
@[simp] theorem ty_bytes89 : Tryd.prog.bytesOf 89 = 8 := by kernel_rfl
@[simp] theorem ty_zeroD89 : zeroD Tryd.prog 89 = none := by kernel_rfl
@[simp] theorem ty_zeroC89 : zeroC Tryd.prog 89 = some [.undef] := by kernel_rfl
@[simp] theorem ty_zeroO89 : zeroO Tryd.prog 89 = some [.undef] := by kernel_rfl
@[simp] theorem ty_cells90 : Tryd.prog.cellsOf 90 = 1 := by kernel_rfl
@[simp] theorem ty_bytes90 : Tryd.prog.bytesOf 90 = 24 := by kernel_rfl
@[simp] theorem ty_zeroD90 : zeroD Tryd.prog 90 = some [.nils] := by kernel_rfl
@[simp] theorem ty_zeroV90 : zeroValD Tryd.prog 90 = some (.nils) := by kernel_rfl
@[simp] theorem ty_elem90 : elemOfD Tryd.prog 90 = some 94 := by kernel_rfl
@[simp] theorem ty_cells91 : Tryd.prog.cellsOf 91 = 3 := by kernel_rfl
@[simp] theorem ty_bytes91 : Tryd.prog.bytesOf 91 = 56 := by kernel_rfl
@[simp] theorem ty_zeroD91 : zeroD Tryd.prog 91 = some [.str [], .str [], .nils] := by kernel_rfl
@[simp] theorem ty_zeroV91 : zeroValD Tryd.prog 91 = some (.agg [.str [], .str [], .nils]) := by kernel_rfl
@[simp] theorem ty_isStruct91 : isStruct Tryd.prog 91 = true := by kernel_rfl
@[simp] theorem ty_field91_0 : fieldOf Tryd.prog 91 0 = some (0, 9) := by kernel_rfl
@[simp] theorem ty_field91_1 : fieldOf Tryd.prog 91 1 = some (1, 9) := by kernel_rfl
@[simp] theorem ty_field91_2 : fieldOf Tryd.prog 91 2 = some (2, 90) := by kernel_rfl
@[simp] theorem ty_cells92 : Tryd.prog.cellsOf 92 = 3 := by kernel_rfl
@[simp] theorem ty_bytes92 : Tryd.prog.bytesOf 92 = 56 := by kernel_rfl
@[simp] theorem ty_zeroD92 : zeroD Tryd.prog 92 = some [.str [], .str [], .nils] := by kernel_rfl
@[simp] theorem ty_zeroV92 : zeroValD Tryd.prog 92 = some (.agg [.str [], .str [], .nils]) := by kernel_rfl
@[simp] theorem ty_isStruct92 : isStruct Tryd.prog 92 = true := by kernel_rfl
@[simp] theorem ty_field92_0 : fieldOf Tryd.prog 92 0 = some (0, 9) := by kernel_rfl
@[simp] theorem ty_field92_1 : fieldOf Tryd.prog 92 1 = some (1, 9) := by kernel_rfl
@[simp] theorem ty_field92_2 : fieldOf Tryd.prog 92 2 = some (2, 90) := by kernel_rfl
@[simp] theorem ty_cells93 : Tryd.prog.cellsOf 93 = 10 := by kernel_rfl
@[simp] theorem ty_bytes93 : Tryd.prog.bytesOf 93 = 168 := by kernel_rfl
@[simp] theorem ty_zeroD93 : zeroD Tryd.prog 93 = some [.str [], .int .i64 0, .str [], .nils, .nils, .int .i64 0, .str [], .int .i64 0, .nils, .nils] := by kernel_rfl
@[simp] theorem ty_zeroV93 : zeroValD Tryd.prog 93 = some (.agg [.str [], .int .i64 0, .str [], .nils, .nils, .int .i64 0, .str [], .int .i64 0, .nils, .nils]) := by kernel_rfl
@[simp] theorem ty_isStruct93 : isStruct Tryd.prog 93 = true := by kernel_rfl
@[simp] theorem ty_field93_0 : fieldOf Tryd.prog 93 0 = some (0, 9) := by kernel_rfl
@[simp] theorem ty_field93_1 : fieldOf Tryd.prog 93 1 = some (1, 43) := by kernel_rfl
@[simp] theorem ty_cells94 : Tryd.prog.cellsOf 94 = 10 := by kernel_rfl
@[simp] theorem ty_bytes94 : Tryd.prog.bytesOf 94 = 168 := by kernel_rfl
@[simp] theorem ty_zeroD94 : zeroD Tryd.prog 94 = some [.str [], .int .i64 0, .str [], .nils, .nils, .int .i64 0, .str [], .int .i64 0, .nils, .nils] := by kernel_rfl
@[simp] theorem ty_zeroV94 : zeroValD Tryd.prog 94 = some (.agg [.str [], .int .i64 0, .str [], .nils, .nils, .int .i64 0, .str [], .int .i64 0, .nils, .nils]) := by kernel_rfl
@[simp] theorem ty_isStruct94 : isStruct Tryd.prog 94 = true := by kernel_rfl
@[simp] theorem ty_field94_0 : fieldOf Tryd.prog 94 0 = some (0, 9) := by kernel_rfl
@[simp] theorem ty_field94_1 : fieldOf Tryd.prog 94 1 = some (1, 43) := by kernel_rfl
@[simp] theorem ty_cells95 : Tryd.prog.cellsOf 95 = 6 := by kernel_rfl
@[simp] theorem ty_bytes95 : Tryd.prog.bytesOf 95 = 144 := by kernel_rfl
@[simp] theorem ty_zeroD95 : zeroD Tryd.prog 95 = some [.nils, .nils, .nils, .nils, .nils, .nils] := by kernel_rfl
@[simp] theorem ty_zeroV95 : zeroValD Tryd.prog 95 = some (.agg [.nils, .nils, .nils, .nils, .nils, .nils]) := by kernel_rfl
@[simp] theorem ty_isStruct95 : isStruct Tryd.prog 95 = true := by kernel_rfl
@[simp] theorem ty_field95_0 : fieldOf Tryd.prog 95 0 = some (0, 29) := by kernel_rfl
@[simp] theorem ty_cells96 : Tryd.prog.cellsOf 96 = 6 := by kernel_rfl
@[simp] theorem ty_bytes96 : Tryd.prog.bytesOf 96 = 144 := by kernel_rfl
@[simp] theorem ty_zeroD96 : zeroD Tryd.prog 96 = some [.nils, .nils, .nils, .nils, .nils, .nils] := by kernel_rfl
@[simp] theorem ty_zeroV96 : zeroValD Tryd.prog 96 = some (.agg [.nils, .nils, .nils, .nils, .nils, .nils]) := by kernel_rfl
@[simp] theorem ty_isStruct96 : isStruct Tryd.prog 96 = true := by kernel_rfl
@[simp] theorem ty_field96_0 : fieldOf Tryd.prog 96 0 = some (0, 29) := by kernel_rfl
@[simp] theorem ty_cells97 : Tryd.prog.cellsOf 97 = 6 := by kernel_rfl
@[simp] theorem ty_bytes97 : Tryd.prog.bytesOf 97 = 144 := by kernel_rfl
@[simp] theorem ty_zeroD97 : zeroD Tryd.prog 97 = some [.nils, .nils, .nils, .nils, .nils, .nils] := by kernel_rfl
@[simp] theorem ty_zeroV97 : zeroValD Tryd.prog 97 = some (.agg [.nils, .nils, .nils, .nils, .nils, .nils]) := by kernel_rfl
@[simp] theorem ty_isStruct97 : isStruct Tryd.prog 97 = true := by kernel_rfl
@[simp] theorem ty_field97_0 : fieldOf Tryd.prog 97 0 = some (0, 96) := by kernel_rfl
@[simp] theorem ty_cells98 : Tryd.prog.cellsOf 98 = 6 := by kernel_rfl
@[simp] theorem ty_bytes98 : Tryd.prog.bytesOf 98 = 144 := by kernel_rfl
@[simp] theorem ty_zeroD98 : zeroD Tryd.prog 98 = some [.nils, .nils, .nils, .nils, .nils, .nils] := by kernel_rfl
@[simp] theorem ty_zeroV98 : zeroValD Tryd.prog 98 = some (.agg [.nils, .nils, .nils, .nils, .nils, .nils]) := by kernel_rfl
@[simp] theorem ty_isStruct98 : isStruct Tryd.prog 98 = true := by kernel_rfl
@[simp] theorem ty_field98_0 : fieldOf Tryd.prog 98 0 = some (0, 96) := by kernel_rfl
@[simp] theorem ty_cells99 : Tryd.prog.cellsOf 99 = 1 := by kernel_rfl
@[simp] theorem ty_bytes99 : Tryd.prog.bytesOf 99 = 8 := by kernel_rfl
@[simp] theorem ty_zeroD99 : zeroD Tryd.prog 99 = none := by kernel_rfl
@[simp] theorem ty_zeroC99 : zeroC Tryd.prog 99 = some [.undef] := by kernel_rfl
@[simp] theorem ty_zeroO99 : zeroO Tryd.prog 99 = some [.undef] := by kernel_rfl
@[simp] theorem ty_cells100 : Tryd.prog.cellsOf 100 = 1 := by kernel_rfl
@[simp] theorem ty_bytes100 : Tryd.prog.bytesOf 100 = 8 := by kernel_rfl
@[simp] theorem ty_zeroD100 : zeroD Tryd.prog 100 = none := by kernel_rfl
@[simp] theorem ty_zeroC100 : zeroC Tryd.prog 100 = some [.undef] := by kernel_rfl
@[simp] theorem ty_zeroO100 : zeroO Tryd.prog 100 = some [.undef] := by kernel_rfl
@[simp] theorem ty_cells102 : Tryd.prog.cellsOf 102 = 1 := by kernel_rfl
@[simp] theorem ty_bytes102 : Tryd.prog.bytesOf 102 = 8 := by kernel_rfl
@[simp] theorem ty_zeroD102 : zeroD Tryd.prog 102 = none := by kernel_rfl
@[simp] theorem ty_zeroC102 : zeroC Tryd.prog 102 = some [.undef] := by kernel_rfl
@[simp] theorem ty_zeroO102 : zeroO Tryd.prog 102 = some [.undef] := by kernel_rfl
@[simp] theorem ty_cells103 : Tryd.prog.cellsOf 103 = 1 := by kernel_rfl
@[simp] theorem ty_bytes103 : Tryd.prog.bytesOf 103 = 8 := by kernel_rfl
@[simp] theorem ty_zeroD103 : zeroD Tryd.prog 103 = none := by kernel_rfl
@[simp] theorem ty_zeroC103 : zeroC Tryd.prog 103 = some [.undef] := by kernel_rfl
@[simp] theorem ty_zeroO103 : zeroO Tryd.prog 103 = some [.undef] := by kernel_rfl
@[simp] theorem ty_cells104 : Tryd.prog.cellsOf 104 = 1 := by kernel_rfl
@[simp] theorem ty_bytes104 : Tryd.prog.bytesOf 104 = 8 := by kernel_rfl
@[simp] theorem ty_zeroD104 : zeroD Tryd.prog 104 = none := by kernel_rfl
@[simp] theorem ty_zeroC104 : zeroC Tryd.prog 104 = some [.undef] := by kernel_rfl
@[simp] theorem ty_zeroO104 : zeroO Tryd.prog 104 = some [.undef] := by kernel_rfl
@[simp] theorem ty_cells105 : Tryd.prog.cellsOf 105 = 1 := by kernel_rfl
@[simp] theorem ty_bytes105 : Tryd.prog.bytesOf 105 = 8 := by kernel_rfl
@[simp] theorem ty_zeroD105 : zeroD Tryd.prog 105 = none := by kernel_rfl
@[simp] theorem ty_zeroC105 : zeroC Tryd.prog 105 = some [.undef] := by kernel_rfl
@[simp] theorem ty_zeroO105 : zeroO Tryd.prog 105 = some [.undef] := by kernel_rfl
@[simp] theorem ty_cells106 : Tryd.prog.cellsOf 106 = 1 := by kernel_rfl
@[simp] theorem ty_bytes106 : Tryd.prog.bytesOf 106 = 8 := by kernel_rfl
@[simp] theorem ty_zeroD106 : zeroD Tryd.prog 106 = none := by kernel_rfl
@[simp] theorem ty_zeroC106 : zeroC Tryd.prog 106 = some [.undef] := by kernel_rfl
@[simp] theorem ty_zeroO106 : zeroO Tryd.prog 106 = some [.undef] := by kernel_rfl
@[simp] theorem ty_cells108 : Tryd.prog.cellsOf 108 = 1 := by kernel_rfl
@[simp] theorem ty_bytes108 : Tryd.prog.bytesOf 108 = 8 := by kernel_rfl
@[simp] theorem ty_zeroD108 : zeroD Tryd.prog 108 = none := by kernel_rfl
@[simp] theorem ty_zeroC108 : zeroC Tryd.prog 108 = some [.undef] := by kernel_rfl
@[simp] theorem ty_zeroO108 : zeroO Tryd.prog 108 = some [.undef] := by kernel_rfl
@[simp] theorem ty_cells109 : Tryd.prog.cellsOf 109 = 1 := by kernel_rfl
@[simp] theorem ty_bytes109 : Tryd.prog.bytesOf 109 = 8 := by kernel_rfl
@[simp] theorem ty_zeroD109 : zeroD Tryd.prog 109 = none := by kernel_rfl
@[simp] theorem ty_zeroC109 : zeroC Tryd.prog 109 = some [.undef] := by kernel_rfl
@[simp] theorem ty_zeroO109 : zeroO Tryd.prog 109 = some [.undef] := by kernel_rfl
@[simp] theorem ty_cells110 : Tryd.prog.cellsOf 110 = 1 := by kernel_rfl
@[simp] theorem ty_bytes110 : Tryd.prog.bytesOf 110 = 8 := by kernel_rfl
@[simp] theorem ty_zeroD110 : zeroD Tryd.prog 110 = none := by kernel_rfl
@[simp] theorem ty_zeroC110 : zeroC Tryd.prog 110 = some [.undef] := by kernel_rfl
@[simp] theorem ty_zeroO110 : zeroO Tryd.prog 110 = some [.undef] := by kernel_rfl
@[simp] theorem ty_cells111 : Tryd.prog.cellsOf 111 = 1 := by kernel_rfl
@[simp] theorem ty_bytes111 : Tryd.prog.bytesOf 111 = 8 := by kernel_rfl
@[simp] theorem ty_zeroD111 : zeroD Tryd.prog 111 = none := by kernel_rfl
@[simp] theorem ty_zeroC111 : zeroC Tryd.prog 111 = some [.undef] := by kernel_rfl
@[simp] theorem ty_zeroO111 : zeroO Tryd.prog 111 = some [.undef] := by kernel_rfl
@[simp] theorem ty_cells112 : Tryd.prog.cellsOf 112 = 1 := by kernel_rfl
@[simp] theorem ty_bytes112 : Tryd.prog.bytesOf 112 = 8 := by kernel_rfl
@[simp] theorem ty_zeroD112 : zeroD Tryd.prog 112 = none := by kernel_rfl
@[simp] theorem ty_zeroC112 : zeroC Tryd.prog 112 = some [.undef] := by kernel_rfl
@[simp] theorem ty_zeroO112 : zeroO Tryd.prog 112 = some [.undef] := by kernel_rfl
@[simp] theorem ty_cells113 : Tryd.prog.cellsOf 113 = 1 := by kernel_rfl
@[simp] theorem ty_bytes113 : Tryd.prog.bytesOf 113 = 8 := by kernel_rfl
@[simp] theorem ty_zeroD113 : zeroD Tryd.prog 113 = none := by kernel_rfl
@[simp] theorem ty_zeroC113 : zeroC Tryd.prog 113 = some [.undef] := by kernel_rfl
@[simp] theorem ty_zeroO113 : zeroO Tryd.prog 113 = some [.undef] := by kernel_rfl
@[simp] theorem ty_cells114 : Tryd.prog.cellsOf 114 = 1 := by kernel_rfl
@[simp] theorem ty_bytes114 : Tryd.prog.bytesOf 114 = 8 := by kernel_rfl
@[simp] theorem ty_zeroD114 : zeroD Tryd.prog 114 = none := by kernel_rfl
@[simp] theorem ty_zeroC114 : zeroC Tryd.prog 114 = some [.undef] := by kernel_rfl
@[simp] theorem ty_zeroO114 : zeroO Tryd.prog 114 = some [.undef] := by kernel_rfl
@[simp] theorem ty_cells115 : Tryd.prog.cellsOf 115 = 1 := by kernel_rfl
@[simp] theorem ty_bytes115 : Tryd.prog.bytesOf 115 = 8 := by kernel_rfl
@[simp] theorem ty_zeroD115 : zeroD Tryd.prog 115 = none := by kernel_rfl
@[simp] theorem ty_zeroC115 : zeroC Tryd.prog 115 = some [.undef] := by kernel_rfl
@[simp] theorem ty_zeroO115 : zeroO Tryd.prog 115 = some [.undef] := by kernel_rfl
@[simp] theorem ty_cells116 : Tryd.prog.cellsOf 116 = 1 := by kernel_rfl
@[simp] theorem ty_bytes116 : Tryd.prog.bytesOf 116 = 8 := by kernel_rfl
@[simp] theorem ty_zeroD116 : zeroD Tryd.prog 116 = none := by kernel_rfl
@[simp] theorem ty_zeroC116 : zeroC Tryd.prog 116 = some [.undef] := by kernel_rfl
@[simp] theorem ty_zeroO116 : zeroO Tryd.prog 116 = some [.undef] := by kernel_rfl
@[simp] theorem ty_map116 : mapOf Tryd.prog 116 = some (9, 4) := by kernel_rfl
@[simp] theorem ty_cells117 : Tryd.prog.cellsOf 117 = 1 := by kernel_rfl
@[simp] theorem ty_bytes117 : Tryd.prog.bytesOf 117 = 8 := by kernel_rfl
@[simp] theorem ty_zeroD117 : zeroD Tryd.prog 117 = none := by kernel_rfl
@[simp] theorem ty_zeroC117 : zeroC Tryd.prog 117 = some [.undef] := by kernel_rfl
@[simp] theorem ty_zeroO117 : zeroO Tryd.prog 117 = some [.undef] := by kernel_rfl
@[simp] theorem ty_cells118 : Tryd.prog.cellsOf 118 = 1 := by kernel_rfl
@[simp] theorem ty_bytes118 : Tryd.prog.bytesOf 118 = 8 := by kernel_rfl
@[simp] theorem ty_zeroD118 : zeroD Tryd.prog 118 = none := by kernel_rfl
@[simp] theorem ty_zeroC118 : zeroC Tryd.prog 118 = some [.undef] := by kernel_rfl
@[simp] theorem ty_zeroO118 : zeroO Tryd.prog 118 = some [.undef] := by kernel_rfl
@[simp] theorem ty_cells119 : Tryd.prog.cellsOf 119 = 1 := by kernel_rfl
@[simp] theorem ty_bytes119 : Tryd.prog.bytesOf 119 = 8 := by kernel_rfl
@[simp] theorem ty_zeroD119 : zeroD Tryd.prog 119 = none := by kernel_rfl
@[simp] theorem ty_zeroC119 : zeroC Tryd.prog 119 = some [.undef] := by kernel_rfl
@[simp] theorem ty_zeroO119 : zeroO Tryd.prog 119 = some [.undef] := by kernel_rfl
@[simp] theorem ty_cells120 : Tryd.prog.cellsOf 120 = 1 := by kernel_rfl
@[simp] theorem ty_bytes120 : Tryd.prog.bytesOf 120 = 8 := by kernel_rfl
@[simp] theorem ty_zeroD120 : zeroD Tryd.prog 120 = none := by kernel_rfl
@[simp] theorem ty_zeroC120 : zeroC Tryd.prog 120 = some [.undef] := by kernel_rfl
@[simp] theorem ty_zeroO120 : zeroO Tryd.prog 120 = some [.undef] := by kernel_rfl
@[simp] theorem ty_map120 : mapOf Tryd.prog 120 = some (9, 3) := by kernel_rfl
@[simp] theorem ty_cells121 : Tryd.prog.cellsOf 121 = 1 := by kernel_rfl
@[simp] theorem ty_bytes121 : Tryd.prog.bytesOf 121 = 8 := by kernel_rfl
@[simp] theorem ty_zeroD121 : zeroD Tryd.prog 121 = none := by kernel_rfl
@[simp] theorem ty_zeroC121 : zeroC Tryd.prog 121 = some [.undef] := by kernel_rfl
@[simp] theorem ty_zeroO121 : zeroO Tryd.prog 121 = some [.undef] := by kernel_rfl
@[simp] theorem ty_map121 : mapOf Tryd.prog 121 = some (9, 43) := by kernel_rfl
@[simp] theorem ty_cells122 : Tryd.prog.cellsOf 122 = 2 := by kernel_rfl
@[simp] theorem ty_bytes122 : Tryd.prog.bytesOf 122 = 16 := by kernel_rfl
@[simp] theorem ty_zeroD122 : zeroD Tryd.prog 122 = none := by kernel_rfl
@[simp] theorem ty_zeroC122 : zeroC Tryd.prog 122 = some [.undef, .undef] := by kernel_rfl
@[simp] theorem ty_zeroO122 : zeroO Tryd.prog 122 = some [.undef, .undef] := by kernel_rfl
@[simp] theorem ty_field122_0 : fieldOf Tryd.prog 122 0 = some (0, 120) := by kernel_rfl
@[simp] theorem ty_field122_1 : fieldOf Tryd.prog 122 1 = some (1, 121) := by kernel_rfl
@[simp] theorem ty_cells123 : Tryd.prog.cellsOf 123 = 2 := by kernel_rfl
@[simp] theorem ty_bytes123 : Tryd.prog.bytesOf 123 = 16 := by kernel_rfl
@[simp] theorem ty_zeroD123 : zeroD Tryd.prog 123 = none := by kernel_rfl
@[simp] theorem ty_zeroC123 : zeroC Tryd.prog 123 = some [.undef, .undef] := by kernel_rfl
@[simp] theorem ty_zeroO123 : zeroO Tryd.prog 123 = some [.undef, .undef] := by kernel_rfl
@[simp] theorem ty_isStruct123 : isStruct Tryd.prog 123 = true := by kernel_rfl
@[simp] theorem ty_field123_0 : fieldOf Tryd.prog 123 0 = some (0, 120) := by kernel_rfl
@[simp] theorem ty_field123_1 : fieldOf Tryd.prog 123 1 = some (1, 121) := by kernel_rfl
@[simp] theorem ty_cells126 : Tryd.prog.cellsOf 126 = 2 := by kernel_rfl
@[simp] theorem ty_bytes126 : Tryd.prog.bytesOf 126 = 48 := by kernel_rfl
@[simp] theorem ty_zeroD126 : zeroD Tryd.prog 126 = some [.nils, .nils] := by kernel_rfl
@[simp] theorem ty_zeroV126 : zeroValD Tryd.prog 126 = some (.agg [.nils, .nils]) := by kernel_rfl
@[simp] theorem ty_isStruct126 : isStruct Tryd.prog 126 = true := by kernel_rfl
@[simp] theorem ty_field126_0 : fieldOf Tryd.prog 126 0 = some (0, 37) := by kernel_rfl
@[simp] theorem ty_field126_1 : fieldOf Tryd.prog 126 1 = some (1, 36) := by kernel_rfl
@[simp] theorem ty_cells127 : Tryd.prog.cellsOf 127 = 2 := by kernel_rfl
@[simp] theorem ty_bytes127 : Tryd.prog.bytesOf 127 = 48 := by kernel_rfl
@[simp] theorem ty_zeroD127 : zeroD Tryd.prog 127 = some [.nils, .nils] := by kernel_rfl
@[simp] theorem ty_zeroV127 : zeroValD Tryd.prog 127 = some (.agg [.nils, .nils]) := by kernel_rfl
@[simp] theorem ty_isStruct127 : isStruct Tryd.prog 127 = true := by kernel_rfl
@[simp] theorem ty_field127_0 : fieldOf Tryd.prog 127 0 = some (0, 37) := by kernel_rfl
@[simp] theorem ty_field127_1 : fieldOf Tryd.prog 127 1 = some (1, 36) := by kernel_rfl
@[simp] theorem ty_cells129 : Tryd.prog.cellsOf 129 = 1 := by kernel_rfl
@[simp] theorem ty_bytes129 : Tryd.prog.bytesOf 129 = 8 := by kernel_rfl
@[simp] theorem ty_zeroD129 : zeroD Tryd.prog 129 = none := by kernel_rfl
@[simp] theorem ty_zeroC129 : zeroC Tryd.prog 129 = some [.undef] := by kernel_rfl
@[simp] theorem ty_zeroO129 : zeroO Tryd.prog 129 = some [.undef] := by kernel_rfl
@[simp] theorem ty_cells130 : Tryd.prog.cellsOf 130 = 18 := by kernel_rfl
@[simp] theorem ty_bytes130 : Tryd.prog.bytesOf 130 = 304 := by kernel_rfl
@[simp] theorem ty_zeroD130 : zeroD Tryd.prog 130 = some [.int .i64 0, .str [], .nils, .nils, .int .i64 0, .str [], .int .i64 0, .nils, .nils, .int .i64 0, .str [], .nils, .nils, .int .i64 0, .str [], .int .i64 0, .nils, .nils] := by kernel_rfl
@[simp] theorem ty_zeroV130 : zeroValD Tryd.prog 130 = some (.agg [.int .i64 0, .str [], .nils, .nils, .int .i64 0, .str [], .int .i64 0, .nils, .nils, .int .i64 0, .str [], .nils, .nils, .int .i64 0, .str [], .int .i64 0, .nils, .nils]) := by kernel_rfl
@[simp] theorem ty_isStruct130 : isStruct Tryd.prog 130 = true := by kernel_rfl
@[simp] theorem ty_field130_0 : fieldOf Tryd.prog 130 0 = some (0, 43) := by kernel_rfl
@[simp] theorem ty_field130_1 : fieldOf Tryd.prog 130 1 = some (9, 43) := by kernel_rfl
@[simp] theorem ty_cells131 : Tryd.prog.cellsOf 131 = 18 := by kernel_rfl
@[simp] theorem ty_bytes131 : Tryd.prog.bytesOf 131 = 304 := by kernel_rfl
@[simp] theorem ty_zeroD131 : zeroD Tryd.prog 131 = some [.int .i64 0, .str [], .nils, .nils, .int .i64 0, .str [], .int .i64 0, .nils, .nils, .int .i64 0, .str [], .nils, .nils, .int .i64 0, .str [], .int .i64 0, .nils, .nils] := by kernel_rfl
@[simp] theorem ty_zeroV131 : zeroValD Tryd.prog 131 = some (.agg [.int .i64 0, .str [], .nils, .nils, .int .i64 0, .str [], .int .i64 0, .nils, .nils, .int .i64 0, .str [], .nils, .nils, .int .i64 0, .str [], .int .i64 0, .nils, .nils]) := by kernel_rfl
@[simp] theorem ty_isStruct131 : isStruct Tryd.prog 131 = true := by kernel_rfl
@[simp] theorem ty_field131_0 : fieldOf Tryd.prog 131 0 = some (0, 43) := by kernel_rfl
@[simp] theorem ty_field131_1 : fieldOf Tryd.prog 131 1 = some (9, 43) := by kernel_rfl
@[simp] theorem ty_cells132 : Tryd.prog.cellsOf 132 = 1 := by kernel_rfl
@[simp] theorem ty_bytes132 : Tryd.prog.bytesOf 132 = 24 := by kernel_rfl
@[simp] theorem ty_zeroD132 : zeroD Tryd.prog 132 = some [.nils] := by kernel_rfl
@[simp] theorem ty_zeroV132 : zeroValD Tryd.prog 132 = some (.nils) := by kernel_rfl
@[simp] theorem ty_elem132 : elemOfD Tryd.prog 132 = some 131 := by kernel_rfl
@[simp] theorem ty_cells133 : Tryd.prog.cellsOf 133 = 1 := by kernel_rfl
@[simp] theorem ty_bytes133 : Tryd.prog.bytesOf 133 = 8 := by kernel_rfl
@[simp] theorem ty_zeroD133 : zeroD Tryd.prog 133 = none := by kernel_rfl
@[simp] theorem ty_zeroC133 : zeroC Tryd.prog 133 = some [.undef] := by kernel_rfl
@[simp] theorem ty_zeroO133 : zeroO Tryd.prog 133 = some [.undef] := by kernel_rfl
@[simp] theorem ty_cells134 : Tryd.prog.cellsOf 134 = 1 := by kernel_rfl
@[simp] theorem ty_bytes134 : Tryd.prog.bytesOf 134 = 8 := by kernel_rfl
@[simp] theorem ty_zeroD134 : zeroD Tryd.prog 134 = none := by kernel_rfl
@[simp] theorem ty_zeroC134 : zeroC Tryd.prog 134 = some [.undef] := by kernel_rfl
@[simp] theorem ty_zeroO134 : zeroO Tryd.prog 134 = some [.undef] := by kernel_rfl
@[simp] theorem ty_cells135 : Tryd.prog.cellsOf 135 = 1 := by kernel_rfl
@[simp] theorem ty_bytes135 : Tryd.prog.bytesOf 135 = 8 := by kernel_rfl
@[simp] theorem ty_zeroD135 : zeroD Tryd.prog 135 = none := by kernel_rfl
@[simp] theorem ty_zeroC135 : zeroC Tryd.prog 135 = some [.undef] := by kernel_rfl
@[simp] theorem ty_zeroO135 : zeroO Tryd.prog 135 = some [.undef] := by kernel_rfl
@[simp] theorem ty_cells136 : Tryd.prog.cellsOf 136 = 1 := by kernel_rfl
@[simp] theorem ty_bytes136 : Tryd.prog.bytesOf 136 = 8 := by kernel_rfl
@[simp] theorem ty_zeroD136 : zeroD Tryd.prog 136 = none := by kernel_rfl
@[simp] theorem ty_zeroC136 : zeroC Tryd.prog 136 = some [.undef] := by kernel_rfl
@[simp] theorem ty_zeroO136 : zeroO Tryd.prog 136 = some [.undef] := by kernel_rfl
@[simp] theorem ty_cells137 : Tryd.prog.cellsOf 137 = 1 := by kernel_rfl
@[simp] theorem ty_bytes137 : Tryd.prog.bytesOf 137 = 8 := by kernel_rfl
@[simp] theorem ty_zeroD137 : zeroD Tryd.prog 137 = none := by kernel_rfl
@[simp] theorem ty_zeroC137 : zeroC Tryd.prog 137 = some [.undef] := by kernel_rfl
@[simp] theorem ty_zeroO137 : zeroO Tryd.prog 137 = some [.undef] := by kernel_rfl
@[simp] theorem ty_cells138 : Tryd.prog.cellsOf 138 = 1 := by kernel_rfl
@[simp] theorem ty_bytes138 : Tryd.prog.bytesOf 138 = 8 := by kernel_rfl
@[simp] theorem ty_zeroD138 : zeroD Tryd.prog 138 = none := by kernel_rfl
@[simp] theorem ty_zeroC138 : zeroC Tryd.prog 138 = some [.undef] := by kernel_rfl
@[simp] theorem ty_zeroO138 : zeroO Tryd.prog 138 = some [.undef] := by kernel_rfl
@[simp] theorem ty_cells139 : Tryd.prog.cellsOf 139 = 1 := by kernel_rfl
@[simp] theorem ty_bytes139 : Tryd.prog.bytesOf 139 = 8 := by kernel_rfl
@[simp] theorem ty_zeroD139 : zeroD Tryd.prog 139 = none := by kernel_rfl
@[simp] theorem ty_zeroC139 : zeroC Tryd.prog 139 = some [.undef] := by kernel_rfl
@[simp] theorem ty_zeroO139 : zeroO Tryd.prog 139 = some [.undef] := by kernel_rfl
@[simp] theorem ty_cells140 : Tryd.prog.cellsOf 140 = 1 := by kernel_rfl
@[simp] theorem ty_bytes140 : Tryd.prog.bytesOf 140 = 8 := by kernel_rfl
@[simp] theorem ty_zeroD140 : zeroD Tryd.prog 140 = none := by kernel_rfl
@[simp] theorem ty_zeroC140 : zeroC Tryd.prog 140 = some [.undef] := by kernel_rfl
@[simp] theorem ty_zeroO140 : zeroO Tryd.prog 140 = some [.undef] := by kernel_rfl
@[simp] theorem ty_cells141 : Tryd.prog.cellsOf 141 = 1 := by kernel_rfl
@[simp] theorem ty_bytes141 : Tryd.prog.bytesOf 141 = 8 := by kernel_rfl
@[simp] theorem ty_zeroD141 : zeroD Tryd.prog 141 = none := by kernel_rfl
@[simp] theorem ty_zeroC141 : zeroC Tryd.prog 141 = some [.undef] := by kernel_rfl
@[simp] theorem ty_zeroO141 : zeroO Tryd.prog 141 = some [.undef] := by kernel_rfl
@[simp] theorem ty_cells142 : Tryd.prog.cellsOf 142 = 1 := by kernel_rfl
@[simp] theorem ty_bytes142 : Tryd.prog.bytesOf 142 = 8 := by kernel_rfl
@[simp] theorem ty_zeroD142 : zeroD Tryd.prog 142 = none := by kernel_rfl
@[simp] theorem ty_zeroC142 : zeroC Tryd.prog 142 = some [.undef] := by kernel_rfl
@[simp] theorem ty_zeroO142 : zeroO Tryd.prog 142 = some [.undef] := by kernel_rfl
@[simp] theorem ty_cells143 : Tryd.prog.cellsOf 143 = 1 := by kernel_rfl
@[simp] theorem ty_bytes143 : Tryd.prog.bytesOf 143 = 24 := by kernel_rfl
@[simp] theorem ty_zeroD143 : zeroD Tryd.prog 143 = some [.nils] := by kernel_rfl
@[simp] theorem ty_zeroV143 : zeroValD Tryd.prog 143 = some (.nils) := by kernel_rfl
@[simp] theorem ty_elem143 : elemOfD Tryd.prog 143 = some 5 := by kernel_rfl
@[simp] theorem ty_cells144 : Tryd.prog.cellsOf 144 = 1 := by kernel_rfl
@[simp] theorem ty_bytes144 : Tryd.prog.bytesOf 144 = 8 := by kernel_rfl
@[simp] theorem ty_zeroD144 : zeroD Tryd.prog 144 = none := by kernel_rfl
@[simp] theorem ty_zeroC144 : zeroC Tryd.prog 144 = some [.undef] := by kernel_rfl
@[simp] theorem ty_zeroO144 : zeroO Tryd.prog 144 = some [.undef] := by kernel_rfl
@[simp] theorem ty_cells145 : Tryd.prog.cellsOf 145 = 1 := by kernel_rfl
@[simp] theorem ty_bytes145 : Tryd.prog.bytesOf 145 = 8 := by kernel_rfl
@[simp] theorem ty_zeroD145 : zeroD Tryd.prog 145 = none := by kernel_rfl
@[simp] theorem ty_zeroC145 : zeroC Tryd.prog 145 = some [.undef] := by kernel_rfl
@[simp] theorem ty_zeroO145 : zeroO Tryd.prog 145 = some [.undef] := by kernel_rfl
@[simp] theorem ty_cells146 : Tryd.prog.cellsOf 146 = 1 := by kernel_rfl
@[simp] theorem ty_bytes146 : Tryd.prog.bytesOf 146 = 8 := by kernel_rfl
@[simp] theorem ty_zeroD146 : zeroD Tryd.prog 146 = none := by kernel_rfl
@[simp] theorem ty_zeroC146 : zeroC Tryd.prog 146 = some [.undef] := by kernel_rfl
@[simp] theorem ty_zeroO146 : zeroO Tryd.prog 146 = some [.undef] := by kernel_rfl
@[simp] theorem ty_cells147 : Tryd.prog.cellsOf 147 = 1 := by kernel_rfl
@[simp] theorem ty_bytes147 : Tryd.prog.bytesOf 147 = 8 := by kernel_rfl
@[simp] theorem ty_zeroD147 : zeroD Tryd.prog 147 = none := by kernel_rfl
@[simp] theorem ty_zeroC147 : zeroC Tryd.prog 147 = some [.undef] := by kernel_rfl
@[simp] theorem ty_zeroO147 : zeroO Tryd.prog 147 = some [.undef] := by kernel_rfl
@[simp] theorem ty_cells149 : Tryd.prog.cellsOf 149 = 1 := by kernel_rfl
@[simp] theorem ty_bytes149 : Tryd.prog.bytesOf 149 = 8 := by kernel_rfl
@[simp] theorem ty_zeroD149 : zeroD Tryd.prog 149 = none := by kernel_rfl
@[simp] theorem ty_zeroC149 : zeroC Tryd.prog 149 = some [.undef] := by kernel_rfl
@[simp] theorem ty_zeroO149 : zeroO Tryd.prog 149 = some [.undef] := by kernel_rfl
@[simp] theorem ty_cells150 : Tryd.prog.cellsOf 150 = 1 := by kernel_rfl
@[simp] theorem ty_bytes150 : Tryd.prog.bytesOf 150 = 8 := by kernel_rfl
@[simp] theorem ty_zeroD150 : zeroD Tryd.prog 150 = none := by kernel_rfl
@[simp] theorem ty_zeroC150 : zeroC Tryd.prog 150 = some [.undef] := by kernel_rfl
@[simp] theorem ty_zeroO150 : zeroO Tryd.prog 150 = some [.undef] := by kernel_rfl
@[simp] theorem ty_cells151 : Tryd.prog.cellsOf 151 = 1 := by kernel_rfl
@[simp] theorem ty_bytes151 : Tryd.prog.bytesOf 151 = 8 := by kernel_rfl
@[simp] theorem ty_zeroD151 : zeroD Tryd.prog 151 = none := by kernel_rfl
@[simp] theorem ty_zeroC151 : zeroC Tryd.prog 151 = some [.undef] := by kernel_rfl
@[simp] theorem ty_zeroO151 : zeroO Tryd.prog 151 = some [.undef] := by kernel_rfl
@[simp] theorem ty_cells152 : Tryd.prog.cellsOf 152 = 1 := by kernel_rfl
@[simp] theorem ty_bytes152 : Tryd.prog.bytesOf 152 = 8 := by kernel_rfl
@[simp] theorem ty_zeroD152 : zeroD Tryd.prog 152 = none := by kernel_rfl
@[simp] theorem ty_zeroC152 : zeroC Tryd.prog 152 = some [.undef] := by kernel_rfl
@[simp] theorem ty_zeroO152 : zeroO Tryd.prog 152 = some [.undef] := by kernel_rfl
@[simp] theorem ty_cells153 : Tryd.prog.cellsOf 153 = 1 := by kernel_rfl
@[simp] theorem ty_bytes153 : Tryd.prog.bytesOf 153 = 8 := by kernel_rfl
@[simp] theorem ty_zeroD153 : zeroD Tryd.prog 153 = none := by kernel_rfl
@[simp] theorem ty_zeroC153 : zeroC Tryd.prog 153 = some [.undef] := by kernel_rfl
@[simp] theorem ty_zeroO153 : zeroO Tryd.prog 153 = some [.undef] := by kernel_rfl
@[simp] theorem ty_cells154 : Tryd.prog.cellsOf 154 = 1 := by kernel_rfl
@[simp] theorem ty_bytes154 : Tryd.prog.bytesOf 154 = 8 := by kernel_rfl
@[simp] theorem ty_zeroD154 : zeroD Tryd.prog 154 = none := by kernel_rfl
@[simp] theorem ty_zeroC154 : zeroC Tryd.prog 154 = some [.undef] := by kernel_rfl
@[simp] theorem ty_zeroO154 : zeroO Tryd.prog 154 = some [.undef] := by kernel_rfl
@[simp] theorem ty_cells155 : Tryd.prog.cellsOf 155 = 24 := by kernel_rfl
@[simp] theorem ty_bytes155 : Tryd.prog.bytesOf 155 = 24 := by kernel_rfl
@[simp] theorem ty_zeroD155 : zeroD Tryd.prog 155 = some [.int .u8 0, .int .u8 0, .int .u8 0, .int .u8 0, .int .u8 0, .int .u8 0, .int .u8 0, .int .u8 0, .int .u8 0, .int .u8 0, .int .u8 0, .int .u8 0, .int .u8 0, .int .u8 0, .int .u8 0, .int .u8 0, .int .u8 0, .int .u8 0, .int .u8 0, .int .u8 0, .int .u8 0, .int .u8 0, .int .u8 0, .int .u8 0] := by kernel_rfl
@[simp] theorem ty_cells156 : Tryd.prog.cellsOf 156 = 1 := by kernel_rfl
@[simp] theorem ty_bytes156 : Tryd.prog.bytesOf 156 = 8 := by kernel_rfl
@[simp] theorem ty_zeroD156 : zeroD Tryd.prog 156 = some [.int .u64 0] := by kernel_rfl
@[simp] theorem ty_zeroV156 : zeroValD Tryd.prog 156 = some (.int .u64 0) := by kernel_rfl
@[simp] theorem ty_cells157 : Tryd.prog.cellsOf 157 = 1 := by kernel_rfl
@[simp] theorem ty_bytes157 : Tryd.prog.bytesOf 157 = 8 := by kernel_rfl
@[simp] theorem ty_zeroD157 : zeroD Tryd.prog 157 = none := by kernel_rfl
@[simp] theorem ty_zeroC157 : zeroC Tryd.prog 157 = some [.undef] := by kernel_rfl
@[simp] theorem ty_zeroO157 : zeroO Tryd.prog 157 = some [.undef] := by kernel_rfl
@[simp] theorem ty_cells158 : Tryd.prog.cellsOf 158 = 1 := by kernel_rfl
@[simp] theorem ty_bytes158 : Tryd.prog.bytesOf 158 = 8 := by kernel_rfl
@[simp] theorem ty_zeroD158 : zeroD Tryd.prog 158 = none := by kernel_rfl
@[simp] theorem ty_zeroC158 : zeroC Tryd.prog 158 = some [.undef] := by kernel_rfl
@[simp] theorem ty_zeroO158 : zeroO Tryd.prog 158 = some [.undef] := by kernel_rfl
@[simp] theorem ty_cells160 : Tryd.prog.cellsOf 160 = 1 := by kernel_rfl
@[simp] theorem ty_bytes160 : Tryd.prog.bytesOf 160 = 8 := by kernel_rfl
@[simp] theorem ty_zeroD160 : zeroD Tryd.prog 160 = none := by kernel_rfl
@[simp] theorem ty_zeroC160 : zeroC Tryd.prog 160 = some [.undef] := by kernel_rfl
@[simp] theorem ty_zeroO160 : zeroO Tryd.prog 160 = some [.undef] := by kernel_rfl
@[simp] theorem ty_cells161 : Tryd.prog.cellsOf 161 = 42 := by kernel_rfl
@[simp] theorem ty_bytes161 : Tryd.prog.bytesOf 161 = 672 := by kernel_rfl
@[simp] theorem ty_zeroD161 : zeroD Tryd.prog 161 = some [.str [], .str [], .str [], .str [], .str [], .str [], .str [], .str [], .str [], .str [], .str [], .str [], .str [], .str [], .str [], .str [], .str [], .str [], .str [], .str [], .str [], .str [], .str [], .str [], .str [], .str [], .str [], .str [], .str [], .str [], .str [], .str [], .str [], .str [], .str [], .str [], .str [], .str [], .str [], .str [], .str [], .str []] := by kernel_rfl
@[simp] theorem ty_cells162 : Tryd.prog.cellsOf 162 = 1 := by kernel_rfl
@[simp] theorem ty_bytes162 : Tryd.prog.bytesOf 162 = 8 := by kernel_rfl
@[simp] theorem ty_zeroD162 : zeroD Tryd.prog 162 = none := by kernel_rfl
@[simp] theorem ty_zeroC162 : zeroC Tryd.prog 162 = some [.undef] := by kernel_rfl
@[simp] theorem ty_zeroO162 : zeroO Tryd.prog 162 = some [.undef] := by kernel_rfl
@[simp] theorem ty_cells163 : Tryd.prog.cellsOf 163 = 1 := by kernel_rfl
@[simp] theorem ty_bytes163 : Tryd.prog.bytesOf 163 = 8 := by kernel_rfl
@[simp] theorem ty_zeroD163 : zeroD Tryd.prog 163 = none := by kernel_rfl
@[simp] theorem ty_zeroC163 : zeroC Tryd.prog 163 = some [.undef] := by kernel_rfl
@[simp] theorem ty_zeroO163 : zeroO Tryd.prog 163 = some [.undef] := by kernel_rfl
@[simp] theorem ty_cells164 : Tryd.prog.cellsOf 164 = 1 := by kernel_rfl
@[simp] theorem ty_bytes164 : Tryd.prog.bytesOf 164 = 8 := by kernel_rfl
@[simp] theorem ty_zeroD164 : zeroD Tryd.prog 164 = none := by kernel_rfl
@[simp] theorem ty_zeroC164 : zeroC Tryd.prog 164 = some [.undef] := by kernel_rfl
@[simp] theorem ty_zeroO164 : zeroO Tryd.prog 164 = some [.undef] := by kernel_rfl
@[simp] theorem ty_cells165 : Tryd.prog.cellsOf 165 = 20 := by kernel_rfl
@[simp] theorem ty_bytes165 : Tryd.prog.bytesOf 165 = 160 := by kernel_rfl
@[simp] theorem ty_zeroD165 : zeroD Tryd.prog 165 = some [.int .u64 0, .int .u64 0, .int .u64 0, .int .u64 0, .int .u64 0, .int .u64 0, .int .u64 0, .int .u64 0, .int .u64 0, .int .u64 0, .int .u64 0, .int .u64 0, .int .u64 0, .int .u64 0, .int .u64 0, .int .u64 0, .int .u64 0, .int .u64 0, .int .u64 0, .int .u64 0] := by kernel_rfl
@[simp] theorem ty_cells166 : Tryd.prog.cellsOf 166 = 1 := by kernel_rfl
@[simp] theorem ty_bytes166 : Tryd.prog.bytesOf 166 = 4 := by kernel_rfl
@[simp] theorem ty_zeroD166 : zeroD Tryd.prog 166 = some [.int .u32 0] := by kernel_rfl
@[simp] theorem ty_zeroV166 : zeroValD Tryd.prog 166 = some (.int .u32 0) := by kernel_rfl
@[simp] theorem ty_cells167 : Tryd.prog.cellsOf 167 = 65 := by kernel_rfl
@[simp] theorem ty_bytes167 : Tryd.prog.bytesOf 167 = 65 := by kernel_rfl
@[simp] theorem ty_cells168 : Tryd.prog.cellsOf 168 = 1 := by kernel_rfl
@[simp] theorem ty_bytes168 : Tryd.prog.bytesOf 168 = 8 := by kernel_rfl
@[simp] theorem ty_zeroD168 : zeroD Tryd.prog 168 = none := by kernel_rfl
@[simp] theorem ty_zeroC168 : zeroC Tryd.prog 168 = some [.undef] := by kernel_rfl
@[simp] theorem ty_zeroO168 : zeroO Tryd.prog 168 = some [.undef] := by kernel_rfl
@[simp] theorem ty_cells169 : Tryd.prog.cellsOf 169 = 1 := by kernel_rfl
@[simp] theorem ty_bytes169 : Tryd.prog.bytesOf 169 = 8 := by kernel_rfl
@[simp] theorem ty_zeroD169 : zeroD Tryd.prog 169 = some [.int .u64 0] := by kernel_rfl
@[simp] theorem ty_zeroV169 : zeroValD Tryd.prog 169 = some (.int .u64 0) := by kernel_rfl
@[simp] theorem ty_cells170 : Tryd.prog.cellsOf 170 = 1 := by kernel_rfl
@[simp] theorem ty_bytes170 : Tryd.prog.bytesOf 170 = 8 := by kernel_rfl
@[simp] theorem ty_zeroD170 : zeroD Tryd.prog 170 = none := by kernel_rfl
@[simp] theorem ty_zeroC170 : zeroC Tryd.prog 170 = some [.undef] := by kernel_rfl
@[simp] theorem ty_zeroO170 : zeroO Tryd.prog 170 = some [.undef] := by kernel_rfl
@[simp] theorem ty_cells171 : Tryd.prog.cellsOf 171 = 1 := by kernel_rfl
@[simp] theorem ty_bytes171 : Tryd.prog.bytesOf 171 = 8 := by kernel_rfl
@[simp] theorem ty_zeroD171 : zeroD Tryd.prog 171 = none := by kernel_rfl
@[simp] theorem ty_zeroC171 : zeroC Tryd.prog 171 = some [.undef] := by kernel_rfl
@[simp] theorem ty_zeroO171 : zeroO Tryd.prog 171 = some [.undef] := by kernel_rfl
@[simp] theorem ty_cells172 : Tryd.prog.cellsOf 172 = 1 := by kernel_rfl
@[simp] theorem ty_bytes172 : Tryd.prog.bytesOf 172 = 8 := by kernel_rfl
@[simp] theorem ty_zeroD172 : zeroD Tryd.prog 172 = none := by kernel_rfl
@[simp] theorem ty_zeroC172 : zeroC Tryd.prog 172 = some [.undef] := by kernel_rfl
@[simp] theorem ty_zeroO172 : zeroO Tryd.prog 172 = some [.undef] := by kernel_rfl
@[simp] theorem ty_cells173 : Tryd.prog.cellsOf 173 = 32 := by kernel_rfl
@[simp] theorem ty_bytes173 : Tryd.prog.bytesOf 173 = 32 := by kernel_rfl
@[simp] theorem ty_zeroD173 : zeroD Tryd.prog 173 = some [.int .u8 0, .int .u8 0, .int .u8 0, .int .u8 0, .int .u8 0, .int .u8 0, .int .u8 0, .int .u8 0, .int .u8 0, .int .u8 0, .int .u8 0, .int .u8 0, .int .u8 0, .int .u8 0, .int .u8 0, .int .u8 0, .int .u8 0, .int .u8 0, .int .u8 0, .int .u8 0, .int .u8 0, .int .u8 0, .int .u8 0, .int .u8 0, .int .u8 0, .int .u8 0, .int .u8 0, .int .u8 0, .int .u8 0, .int .u8 0, .int .u8 0, .int .u8 0] := by kernel_rfl
@[simp] theorem ty_cells174 : Tryd.prog.cellsOf 174 = 64 := by kernel_rfl
@[simp] theorem ty_bytes174 : Tryd.prog.bytesOf 174 = 64 := by kernel_rfl
@[simp] theorem ty_zeroD174 : zeroD Tryd.prog 174 = some [.int .u8 0, .int .u8 0, .int .u8 0, .int .u8 0, .int .u8 0, .int .u8 0, .int .u8 0, .int .u8 0, .int .u8 0, .int .u8 0, .int .u8 0, .int .u8 0, .int .u8 0, .int .u8 0, .int .u8 0, .int .u8 0, .int .u8 0, .int .u8 0, .int .u8 0, .int .u8 0, .int .u8 0, .int .u8 0, .int .u8 0, .int .u8 0, .int .u8 0, .int .u8 0, .int .u8 0, .int .u8 0, .int .u8 0, .int .u8 0, .int .u8 0, .int .u8 0, .int .u8 0, .int .u8 0, .int .u8 0, .int .u8 0, .int .u8 0, .int .u8 0, .int .u8 0, .int .u8 0, .int .u8 0, .int .u8 0, .int .u8 0, .int .u8 0, .int .u8 0, .int .u8 0, .int .u8 0, .int .u8 0, .int .u8 0, .int .u8 0, .int .u8 0, .int .u8 0, .int .u8 0, .int .u8 0, .int .u8 0, .int .u8 0, .int .u8 0, .int .u8 0, .int .u8 0, .int .u8 0, .int .u8 0, .int .u8 0, .int .u8 0, .int .u8 0] := by kernel_rfl
@[simp] theorem ty_cells175 : Tryd.prog.cellsOf 175 = 1 := by kernel_rfl
@[simp] theorem ty_bytes175 : Tryd.prog.bytesOf 175 = 8 := by kernel_rfl
@[simp] theorem ty_zeroD175 : zeroD Tryd.prog 175 = none := by kernel_rfl
@[simp] theorem ty_zeroC175 : zeroC Tryd.prog 175 = some [.undef] := by kernel_rfl
@[simp] theorem ty_zeroO175 : zeroO Tryd.prog 175 = some [.undef] := by kernel_rfl
@[simp] theorem ty_cells176 : Tryd.prog.cellsOf 176 = 4 := by kernel_rfl
@[simp] theorem ty_bytes176 : Tryd.prog.bytesOf 176 = 40 := by kernel_rfl
@[simp] theorem ty_zeroD176 : zeroD Tryd.prog 176 = none := by kernel_rfl
@[simp] theorem ty_zeroC176 : zeroC Tryd.prog 176 = some [.undef, .undef, .undef, .d (.str [])] := by kernel_rfl
@[simp] theorem ty_zeroO176 : zeroO Tryd.prog 176 = some [.undef, .undef, .undef, .d (.str [])] := by kernel_rfl
@[simp] theorem ty_field176_0 : fieldOf Tryd.prog 176 0 = some (0, 17) := by kernel_rfl
@[simp] theorem ty_field176_1 : fieldOf Tryd.prog 176 1 = some (1, 17) := by kernel_rfl
@[simp] theorem ty_field176_2 : fieldOf Tryd.prog 176 2 = some (2, 17) := by kernel_rfl
@[simp] theorem ty_field176_3 : fieldOf Tryd.prog 176 3 = some (3, 9) := by kernel_rfl
@[simp] theorem ty_cells177 : Tryd.prog.cellsOf 177 = 4 := by kernel_rfl
@[simp] theorem ty_bytes177 : Tryd.prog.bytesOf 177 = 40 := by kernel_rfl
@[simp] theorem ty_zeroD177 : zeroD Tryd.prog 177 = none := by kernel_rfl
@[simp] theorem ty_zeroC177 : zeroC Tryd.prog 177 = some [.undef, .undef, .undef, .d (.str [])] := by kernel_rfl
@[simp] theorem ty_zeroO177 : zeroO Tryd.prog 177 = some [.undef, .undef, .undef, .d (.str [])] := by kernel_rfl
@[simp] theorem ty_field177_0 : fieldOf Tryd.prog 177 0 = some (0, 17) := by kernel_rfl
@[simp] theorem ty_field177_1 : fieldOf Tryd.prog 177 1 = some (1, 17) := by kernel_rfl
@[simp] theorem ty_field177_2 : fieldOf Tryd.prog 177 2 = some (2, 17) := by kernel_rfl
@[simp] theorem ty_field177_3 : fieldOf Tryd.prog 177 3 = some (3, 9) := by kernel_rfl
@[simp] theorem ty_cells178 : Tryd.prog.cellsOf 178 = 0 := by kernel_rfl
@[simp] theorem ty_bytes178 : Tryd.prog.bytesOf 178 = 0 := by kernel_rfl
@[simp] theorem ty_cells179 : Tryd.prog.cellsOf 179 = 0 := by kernel_rfl
@[simp] theorem ty_bytes179 : Tryd.prog.bytesOf 179 = 0 := by kernel_rfl
@[simp] theorem ty_field179_0 : fieldOf Tryd.prog 179 0 = some (0, 178) := by kernel_rfl
@[simp] theorem ty_cells180 : Tryd.prog.cellsOf 180 = 0 := by kernel_rfl
@[simp] theorem ty_bytes180 : Tryd.prog.bytesOf 180 = 0 := by kernel_rfl
@[simp] theorem ty_field180_0 : fieldOf Tryd.prog 180 0 = some (0, 178) := by kernel_rfl
@[simp] theorem ty_cells181 : Tryd.prog.cellsOf 181 = 1 := by kernel_rfl
@[simp] theorem ty_bytes181 : Tryd.prog.bytesOf 181 = 8 := by kernel_rfl
@[simp] theorem ty_zeroD181 : zeroD Tryd.prog 181 = none := by kernel_rfl
@[simp] theorem ty_zeroC181 : zeroC Tryd.prog 181 = some [.undef] := by kernel_rfl
@[simp] theorem ty_zeroO181 : zeroO Tryd.prog 181 = some [.undef] := by kernel_rfl
@[simp] theorem ty_cells182 : Tryd.prog.cellsOf 182 = 1 := by kernel_rfl
@[simp] theorem ty_bytes182 : Tryd.prog.bytesOf 182 = 1 := by kernel_rfl
@[simp] theorem ty_zeroD182 : zeroD Tryd.prog 182 = some [.int .u8 0] := by kernel_rfl
@[simp] theorem ty_zeroV182 : zeroValD Tryd.prog 182 = some (.int .u8 0) := by kernel_rfl
@[simp] theorem ty_cells183 : Tryd.prog.cellsOf 183 = 1 := by kernel_rfl
@[simp] theorem ty_bytes183 : Tryd.prog.bytesOf 183 = 1 := by kernel_rfl
@[simp] theorem ty_zeroD183 : zeroD Tryd.prog 183 = some [.int .u8 0] := by kernel_rfl
@[simp] theorem ty_zeroV183 : zeroValD Tryd.prog 183 = some (.int .u8 0) := by kernel_rfl
@[simp] theorem ty_cells184 : Tryd.prog.cellsOf 184 = 1 := by kernel_rfl
@[simp] theorem ty_bytes184 : Tryd.prog.bytesOf 184 = 8 := by kernel_rfl
@[simp] theorem ty_zeroD184 : zeroD Tryd.prog 184 = none := by kernel_rfl
@[simp] theorem ty_zeroC184 : zeroC Tryd.prog 184 = some [.undef] := by kernel_rfl
@[simp] theorem ty_zeroO184 : zeroO Tryd.prog 184 = some [.undef] := by kernel_rfl
@[simp] theorem ty_cells185 : Tryd.prog.cellsOf 185 = 1 := by kernel_rfl
@[simp] theorem ty_bytes185 : Tryd.prog.bytesOf 185 = 8 := by kernel_rfl
@[simp] theorem ty_zeroD185 : zeroD Tryd.prog 185 = none := by kernel_rfl
@[simp] theorem ty_zeroC185 : zeroC Tryd.prog 185 = some [.undef] := by kernel_rfl
@[simp] theorem ty_zeroO185 : zeroO Tryd.prog 185 = some [.undef] := by kernel_rfl
@[simp] theorem ty_cells186 : Tryd.prog.cellsOf 186 = 1 := by kernel_rfl
@[simp] theorem ty_bytes186 : Tryd.prog.bytesOf 186 = 4 := by kernel_rfl
@[simp] theorem ty_zeroD186 : zeroD Tryd.prog 186 = some [.int .i32 0] := by kernel_rfl
@[simp] theorem ty_zeroV186 : zeroValD Tryd.prog 186 = some (.int .i32 0) := by kernel_rfl
@[simp] theorem ty_cells187 : Tryd.prog.cellsOf 187 = 1 := by kernel_rfl
@[simp] theorem ty_bytes187 : Tryd.prog.bytesOf 187 = 4 := by kernel_rfl
@[simp] theorem ty_zeroD187 : zeroD Tryd.prog 187 = some [.int .i32 0] := by kernel_rfl
@[simp] theorem ty_zeroV187 : zeroValD Tryd.prog 187 = some (.int .i32 0) := by kernel_rfl
@[simp] theorem ty_cells188 : Tryd.prog.cellsOf 188 = 11 := by kernel_rfl
@[simp] theorem ty_bytes188 : Tryd.prog.bytesOf 188 = 48 := by kernel_rfl
@[simp] theorem ty_zeroD188 : zeroD Tryd.prog 188 = none := by kernel_rfl
@[simp] theorem ty_zeroC188 : zeroC Tryd.prog 188 = some [.d (.int .u64 0), .d (.int .u64 0), .d (.int .u32 0), .d (.int .u8 0), .d (.int .u8 0), .d (.int .u8 0), .d (.int .u8 0), .undef, .undef, .d (.int .i32 0), .d (.int .i32 0)] := by kernel_rfl
@[simp] theorem ty_zeroO188 : zeroO Tryd.prog 188 = some [.d (.int .u64 0), .d (.int .u64 0), .d (.int .u32 0), .d (.int .u8 0), .d (.int .u8 0), .d (.int .u8 0), .d (.int .u8 0), .undef, .undef, .d (.int .i32 0), .d (.int .i32 0)] := by kernel_rfl
@[simp] theorem ty_field188_0 : fieldOf Tryd.prog 188 0 = some (0, 12) := by kernel_rfl
@[simp] theorem ty_field188_1 : fieldOf Tryd.prog 188 1 = some (1, 12) := by kernel_rfl
@[simp] theorem ty_field188_2 : fieldOf Tryd.prog 188 2 = some (2, 166) := by kernel_rfl
@[simp] theorem ty_field188_3 : fieldOf Tryd.prog 188 3 = some (3, 182) := by kernel_rfl
@[simp] theorem ty_field188_4 : fieldOf Tryd.prog 188 4 = some (4, 5) := by kernel_rfl
@[simp] theorem ty_field188_5 : fieldOf Tryd.prog 188 5 = some (5, 5) := by kernel_rfl
@[simp] theorem ty_field188_6 : fieldOf Tryd.prog 188 6 = some (6, 183) := by kernel_rfl
@[simp] theorem ty_field188_7 : fieldOf Tryd.prog 188 7 = some (7, 184) := by kernel_rfl
@[simp] theorem ty_field188_8 : fieldOf Tryd.prog 188 8 = some (8, 185) := by kernel_rfl
@[simp] theorem ty_field188_9 : fieldOf Tryd.prog 188 9 = some (9, 186) := by kernel_rfl
@[simp] theorem ty_field188_10 : fieldOf Tryd.prog 188 10 = some (10, 187) := by kernel_rfl
@[simp] theorem ty_cells189 : Tryd.prog.cellsOf 189 = 11 := by kernel_rfl
@[simp] theorem ty_bytes189 : Tryd.prog.bytesOf 189 = 48 := by kernel_rfl
@[simp] theorem ty_zeroD189 : zeroD Tryd.prog 189 = none := by kernel_rfl
@[simp] theorem ty_zeroC189 : zeroC Tryd.prog 189 = some [.d (.int .u64 0), .d (.int .u64 0), .d (.int .u32 0), .d (.int .u8 0), .d (.int .u8 0), .d (.int .u8 0), .d (.int .u8 0), .undef, .undef, .d (.int .i32 0), .d (.int .i32 0)] := by kernel_rfl
@[simp] theorem ty_zeroO189 : zeroO Tryd.prog 189 = some [.d (.int .u64 0), .d (.int .u64 0), .d (.int .u32 0), .d (.int .u8 0), .d (.int .u8 0), .d (.int .u8 0), .d (.int .u8 0), .undef, .undef, .d (.int .i32 0), .d (.int .i32 0)] := by kernel_rfl
@[simp] theorem ty_field189_0 : fieldOf Tryd.prog 189 0 = some (0, 12) := by kernel_rfl
@[simp] theorem ty_field189_1 : fieldOf Tryd.prog 189 1 = some (1, 12) := by kernel_rfl
@[simp] theorem ty_field189_2 : fieldOf Tryd.prog 189 2 = some (2, 166) := by kernel_rfl
@[simp] theorem ty_field189_3 : fieldOf Tryd.prog 189 3 = some (3, 182) := by kernel_rfl
@[simp] theorem ty_field189_4 : fieldOf Tryd.prog 189 4 = some (4, 5) := by kernel_rfl
@[simp] theorem ty_field189_5 : fieldOf Tryd.prog 189 5 = some (5, 5) := by kernel_rfl
@[simp] theorem ty_field189_6 : fieldOf Tryd.prog 189 6 = some (6, 183) := by kernel_rfl
@[simp] theorem ty_field189_7 : fieldOf Tryd.prog 189 7 = some (7, 184) := by kernel_rfl
@[simp] theorem ty_field189_8 : fieldOf Tryd.prog 189 8 = some (8, 185) := by kernel_rfl
@[simp] theorem ty_field189_9 : fieldOf Tryd.prog 189 9 = some (9, 186) := by kernel_rfl
@[simp] theorem ty_field189_10 : fieldOf Tryd.prog 189 10 = some (10, 187) := by kernel_rfl
@[simp] theorem ty_cells190 : Tryd.prog.cellsOf 190 = 1 := by kernel_rfl
@[simp] theorem ty_bytes190 : Tryd.prog.bytesOf 190 = 24 := by kernel_rfl
@[simp] theorem ty_zeroD190 : zeroD Tryd.prog 190 = some [.nils] := by kernel_rfl
@[simp] theorem ty_zeroV190 : zeroValD Tryd.prog 190 = some (.nils) := by kernel_rfl
@[simp] theorem ty_elem190 : elemOfD Tryd.prog 190 = some 208 := by kernel_rfl
@[simp] theorem ty_cells191 : Tryd.prog.cellsOf 191 = 1 := by kernel_rfl
@[simp] theorem ty_bytes191 : Tryd.prog.bytesOf 191 = 24 := by kernel_rfl
@[simp] theorem ty_zeroD191 : zeroD Tryd.prog 191 = some [.nils] := by kernel_rfl
@[simp] theorem ty_zeroV191 : zeroValD Tryd.prog 191 = some (.nils) := by kernel_rfl
@[simp] theorem ty_elem191 : elemOfD Tryd.prog 191 = some 210 := by kernel_rfl
@[simp] theorem ty_cells192 : Tryd.prog.cellsOf 192 = 4 := by kernel_rfl
@[simp] theorem ty_bytes192 : Tryd.prog.bytesOf 192 = 88 := by kernel_rfl
@[simp] theorem ty_zeroD192 : zeroD Tryd.prog 192 = some [.str [], .nils, .nils, .nils] := by kernel_rfl
@[simp] theorem ty_zeroV192 : zeroValD Tryd.prog 192 = some (.agg [.str [], .nils, .nils, .nils]) := by kernel_rfl
@[simp] theorem ty_isStruct192 : isStruct Tryd.prog 192 = true := by kernel_rfl
@[simp] theorem ty_field192_0 : fieldOf Tryd.prog 192 0 = some (0, 9) := by kernel_rfl
@[simp] theorem ty_field192_1 : fieldOf Tryd.prog 192 1 = some (1, 37) := by kernel_rfl
@[simp] theorem ty_field192_2 : fieldOf Tryd.prog 192 2 = some (2, 190) := by kernel_rfl
@[simp] theorem ty_field192_3 : fieldOf Tryd.prog 192 3 = some (3, 191) := by kernel_rfl
@[simp] theorem ty_cells193 : Tryd.prog.cellsOf 193 = 4 := by kernel_rfl
@[simp] theorem ty_bytes193 : Tryd.prog.bytesOf 193 = 88 := by kernel_rfl
@[simp] theorem ty_zeroD193 : zeroD Tryd.prog 193 = some [.str [], .nils, .nils, .nils] := by kernel_rfl
@[simp] theorem ty_zeroV193 : zeroValD Tryd.prog 193 = some (.agg [.str [], .nils, .nils, .nils]) := by kernel_rfl
@[simp] theorem ty_isStruct193 : isStruct Tryd.prog 193 = true := by kernel_rfl
@[simp] theorem ty_field193_0 : fieldOf Tryd.prog 193 0 = some (0, 9) := by kernel_rfl
@[simp] theorem ty_field193_1 : fieldOf Tryd.prog 193 1 = some (1, 37) := by kernel_rfl
@[simp] theorem ty_field193_2 : fieldOf Tryd.prog 193 2 = some (2, 190) := by kernel_rfl
@[simp] theorem ty_field193_3 : fieldOf Tryd.prog 193 3 = some (3, 191) := by kernel_rfl
@[simp] theorem ty_cells194 : Tryd.prog.cellsOf 194 = 1 := by kernel_rfl
@[simp] theorem ty_bytes194 : Tryd.prog.bytesOf 194 = 16 := by kernel_rfl
@[simp] theorem ty_zeroD194 : zeroD Tryd.prog 194 = some [.str []] := by kernel_rfl
@[simp] theorem ty_zeroV194 : zeroValD Tryd.prog 194 = some (.str []) := by kernel_rfl
@[simp] theorem ty_cells195 : Tryd.prog.cellsOf 195 = 1 := by kernel_rfl
@[simp] theorem ty_bytes195 : Tryd.prog.bytesOf 195 = 24 := by kernel_rfl
@[simp] theorem ty_zeroD195 : zeroD Tryd.prog 195 = some [.nils] := by kernel_rfl
@[simp] theorem ty_zeroV195 : zeroValD Tryd.prog 195 = some (.nils) := by kernel_rfl
@[simp] theorem ty_elem195 : elemOfD Tryd.prog 195 = some 212 := by kernel_rfl
@[simp] theorem ty_cells196 : Tryd.prog.cellsOf 196 = 8 := by kernel_rfl
@[simp] theorem ty_bytes196 : Tryd.prog.bytesOf 196 = 128 := by kernel_rfl
@[simp] theorem ty_zeroD196 : zeroD Tryd.prog 196 = some [.str [], .str [], .str [], .nils, .int .i64 0, .str [], .int .i64 0, .nils] := by kernel_rfl
@[simp] theorem ty_zeroV196 : zeroValD Tryd.prog 196 = some (.agg [.str [], .str [], .str [], .nils, .int .i64 0, .str [], .int .i64 0, .nils]) := by kernel_rfl
@[simp] theorem ty_isStruct196 : isStruct Tryd.prog 196 = true := by kernel_rfl
@[simp] theorem ty_field196_0 : fieldOf Tryd.prog 196 0 = some (0, 9) := by kernel_rfl
@[simp] theorem ty_field196_1 : fieldOf Tryd.prog 196 1 = some (1, 9) := by kernel_rfl
@[simp] theorem ty_field196_2 : fieldOf Tryd.prog 196 2 = some (2, 194) := by kernel_rfl
@[simp] theorem ty_field196_3 : fieldOf Tryd.prog 196 3 = some (3, 195) := by kernel_rfl
@[simp] theorem ty_field196_4 : fieldOf Tryd.prog 196 4 = some (4, 41) := by kernel_rfl
@[simp] theorem ty_cells197 : Tryd.prog.cellsOf 197 = 8 := by kernel_rfl
@[simp] theorem ty_bytes197 : Tryd.prog.bytesOf 197 = 128 := by kernel_rfl
@[simp] theorem ty_zeroD197 : zeroD Tryd.prog 197 = some [.str [], .str [], .str [], .nils, .int .i64 0, .str [], .int .i64 0, .nils] := by kernel_rfl
@[simp] theorem ty_zeroV197 : zeroValD Tryd.prog 197 = some (.agg [.str [], .str [], .str [], .nils, .int .i64 0, .str [], .int .i64 0, .nils]) := by kernel_rfl
@[simp] theorem ty_isStruct197 : isStruct Tryd.prog 197 = true := by kernel_rfl
@[simp] theorem ty_field197_0 : fieldOf Tryd.prog 197 0 = some (0, 9) := by kernel_rfl
@[simp] theorem ty_field197_1 : fieldOf Tryd.prog 197 1 = some (1, 9) := by kernel_rfl
@[simp] theorem ty_field197_2 : fieldOf Tryd.prog 197 2 = some (2, 194) := by kernel_rfl
@[simp] theorem ty_field197_3 : fieldOf Tryd.prog 197 3 = some (3, 195) := by kernel_rfl
@[simp] theorem ty_field197_4 : fieldOf Tryd.prog 197 4 = some (4, 41) := by kernel_rfl
@[simp] theorem ty_cells198 : Tryd.prog.cellsOf 198 = 6 := by kernel_rfl
@[simp] theorem ty_bytes198 : Tryd.prog.bytesOf 198 = 96 := by kernel_rfl
@[simp] theorem ty_zeroD198 : zeroD Tryd.prog 198 = some [.str [], .nils, .int .i64 0, .str [], .int .i64 0, .nils] := by kernel_rfl
@[simp] theorem ty_zeroV198 : zeroValD Tryd.prog 198 = some (.agg [.str [], .nils, .int .i64 0, .str [], .int .i64 0, .nils]) := by kernel_rfl
@[simp] theorem ty_isStruct198 : isStruct Tryd.prog 198 = true := by kernel_rfl
@[simp] theorem ty_field198_0 : fieldOf Tryd.prog 198 0 = some (0, 9) := by kernel_rfl
@[simp] theorem ty_field198_1 : fieldOf Tryd.prog 198 1 = some (1, 190) := by kernel_rfl
@[simp] theorem ty_field198_2 : fieldOf Tryd.prog 198 2 = some (2, 41) := by kernel_rfl
@[simp] theorem ty_cells199 : Tryd.prog.cellsOf 199 = 6 := by kernel_rfl
@[simp] theorem ty_bytes199 : Tryd.prog.bytesOf 199 = 96 := by kernel_rfl
@[simp] theorem ty_zeroD199 : zeroD Tryd.prog 199 = some [.str [], .nils, .int .i64 0, .str [], .int .i64 0, .nils] := by kernel_rfl
@[simp] theorem ty_zeroV199 : zeroValD Tryd.prog 199 = some (.agg [.str [], .nils, .int .i64 0, .str [], .int .i64 0, .nils]) := by kernel_rfl
@[simp] theorem ty_isStruct199 : isStruct Tryd.prog 199 = true := by kernel_rfl
@[simp] theorem ty_field199_0 : fieldOf Tryd.prog 199 0 = some (0, 9) := by kernel_rfl
@[simp] theorem ty_field199_1 : fieldOf Tryd.prog 199 1 = some (1, 190) := by kernel_rfl
@[simp] theorem ty_field199_2 : fieldOf Tryd.prog 199 2 = some (2, 41) := by kernel_rfl
@[simp] theorem ty_cells200 : Tryd.prog.cellsOf 200 = 2 := by kernel_rfl
@[simp] theorem ty_bytes200 : Tryd.prog.bytesOf 200 = 32 := by kernel_rfl
@[simp] theorem ty_zeroD200 : zeroD Tryd.prog 200 = some [.str [], .str []] := by kernel_rfl
@[simp] theorem ty_zeroV200 : zeroValD Tryd.prog 200 = some (.agg [.str [], .str []]) := by kernel_rfl
@[simp] theorem ty_isStruct200 : isStruct Tryd.prog 200 = true := by kernel_rfl
@[simp] theorem ty_field200_0 : fieldOf Tryd.prog 200 0 = some (0, 9) := by kernel_rfl
@[simp] theorem ty_field200_1 : fieldOf Tryd.prog 200 1 = some (1, 194) := by kernel_rfl
@[simp] theorem ty_cells201 : Tryd.prog.cellsOf 201 = 2 := by kernel_rfl
@[simp] theorem ty_bytes201 : Tryd.prog.bytesOf 201 = 32 := by kernel_rfl
@[simp] theorem ty_zeroD201 : zeroD Tryd.prog 201 = some [.str [], .str []] := by kernel_rfl
@[simp] theorem ty_zeroV201 : zeroValD Tryd.prog 201 = some (.agg [.str [], .str []]) := by kernel_rfl
@[simp] theorem ty_isStruct201 : isStruct Tryd.prog 201 = true := by kernel_rfl
@[simp] theorem ty_field201_0 : fieldOf Tryd.prog 201 0 = some (0, 9) := by kernel_rfl
@[simp] theorem ty_field201_1 : fieldOf Tryd.prog 201 1 = some (1, 194) := by kernel_rfl
@[simp] theorem ty_flat201 : flatDescs Tryd.prog 201 = some [.string, .string] := by kernel_rfl
@[simp] theorem ty_cells202 : Tryd.prog.cellsOf 202 = 10 := by kernel_rfl
@[simp] theorem ty_bytes202 : Tryd.prog.bytesOf 202 = 152 := by kernel_rfl
@[simp] theorem ty_zeroD202 : zeroD Tryd.prog 202 = some [.str [], .nils, .int .i64 0, .str [], .int .i64 0, .nils, .int .i64 0, .str [], .int .i64 0, .nils] := by kernel_rfl
@[simp] theorem ty_zeroV202 : zeroValD Tryd.prog 202 = some (.agg [.str [], .nils, .int .i64 0, .str [], .int .i64 0, .nils, .int .i64 0, .str [], .int .i64 0, .nils]) := by kernel_rfl
@[simp] theorem ty_isStruct202 : isStruct Tryd.prog 202 = true := by kernel_rfl
@[simp] theorem ty_field202_0 : fieldOf Tryd.prog 202 0 = some (0, 9) := by kernel_rfl
@[simp] theorem ty_field202_1 : fieldOf Tryd.prog 202 1 = some (1, 190) := by kernel_rfl
@[simp] theorem ty_field202_2 : fieldOf Tryd.prog 202 2 = some (2, 41) := by kernel_rfl
@[simp] theorem ty_field202_3 : fieldOf Tryd.prog 202 3 = some (6, 41) := by kernel_rfl
@[simp] theorem ty_cells203 : Tryd.prog.cellsOf 203 = 10 := by kernel_rfl
@[simp] theorem ty_bytes203 : Tryd.prog.bytesOf 203 = 152 := by kernel_rfl
@[simp] theorem ty_zeroD203 : zeroD Tryd.prog 203 = some [.str [], .nils, .int .i64 0, .str [], .int .i64 0, .nils, .int .i64 0, .str [], .int .i64 0, .nils] := by kernel_rfl
@[simp] theorem ty_zeroV203 : zeroValD Tryd.prog 203 = some (.agg [.str [], .nils, .int .i64 0, .str [], .int .i64 0, .nils, .int .i64 0, .str [], .int .i64 0, .nils]) := by kernel_rfl
@[simp] theorem ty_isStruct203 : isStruct Tryd.prog 203 = true := by kernel_rfl
@[simp] theorem ty_field203_0 : fieldOf Tryd.prog 203 0 = some (0, 9) := by kernel_rfl
@[simp] theorem ty_field203_1 : fieldOf Tryd.prog 203 1 = some (1, 190) := by kernel_rfl
@[simp] theorem ty_field203_2 : fieldOf Tryd.prog 203 2 = some (2, 41) := by kernel_rfl
@[simp] theorem ty_field203_3 : fieldOf Tryd.prog 203 3 = some (6, 41) := by kernel_rfl
@[simp] theorem ty_cells204 : Tryd.prog.cellsOf 204 = 10 := by kernel_rfl
@[simp] theorem ty_bytes204 : Tryd.prog.bytesOf 204 = 168 := by kernel_rfl
@[simp] theorem ty_zeroD204 : zeroD Tryd.prog 204 = some [.str [], .int .i64 0, .str [], .nils, .nils, .int .i64 0, .str [], .int .i64 0, .nils, .nils] := by kernel_rfl
@[simp] theorem ty_zeroV204 : zeroValD Tryd.prog 204 = some (.agg [.str [], .int .i64 0, .str [], .nils, .nils, .int .i64 0, .str [], .int .i64 0, .nils, .nils]) := by kernel_rfl
@[simp] theorem ty_isStruct204 : isStruct Tryd.prog 204 = true := by kernel_rfl
@[simp] theorem ty_field204_0 : fieldOf Tryd.prog 204 0 = some (0, 9) := by kernel_rfl
@[simp] theorem ty_field204_1 : fieldOf Tryd.prog 204 1 = some (1, 43) := by kernel_rfl
@[simp] theorem ty_cells205 : Tryd.prog.cellsOf 205 = 9 := by kernel_rfl
@[simp] theorem ty_bytes205 : Tryd.prog.bytesOf 205 = 168 := by kernel_rfl
@[simp] theorem ty_zeroD205 : zeroD Tryd.prog 205 = some [.str [], .nils, .int .i64 0, .str [], .int .i64 0, .nils, .nils, .nils, .nils] := by kernel_rfl
@[simp] theorem ty_zeroV205 : zeroValD Tryd.prog 205 = some (.agg [.str [], .nils, .int .i64 0, .str [], .int .i64 0, .nils, .nils, .nils, .nils]) := by kernel_rfl
@[simp] theorem ty_isStruct205 : isStruct Tryd.prog 205 = true := by kernel_rfl
@[simp] theorem ty_field205_0 : fieldOf Tryd.prog 205 0 = some (0, 9) := by kernel_rfl
@[simp] theorem ty_field205_1 : fieldOf Tryd.prog 205 1 = some (1, 37) := by kernel_rfl
@[simp] theorem ty_field205_2 : fieldOf Tryd.prog 205 2 = some (2, 65) := by kernel_rfl
@[simp] theorem ty_cells206 : Tryd.prog.cellsOf 206 = 9 := by kernel_rfl
@[simp] theorem ty_bytes206 : Tryd.prog.bytesOf 206 = 168 := by kernel_rfl
@[simp] theorem ty_zeroD206 : zeroD Tryd.prog 206 = some [.str [], .nils, .int .i64 0, .str [], .int .i64 0, .nils, .nils, .nils, .nils] := by kernel_rfl
@[simp] theorem ty_zeroV206 : zeroValD Tryd.prog 206 = some (.agg [.str [], .nils, .int .i64 0, .str [], .int .i64 0, .nils, .nils, .nils, .nils]) := by kernel_rfl
@[simp] theorem ty_isStruct206 : isStruct Tryd.prog 206 = true := by kernel_rfl
@[simp] theorem ty_field206_0 : fieldOf Tryd.prog 206 0 = some (0, 9) := by kernel_rfl
@[simp] theorem ty_field206_1 : fieldOf Tryd.prog 206 1 = some (1, 37) := by kernel_rfl
@[simp] theorem ty_field206_2 : fieldOf Tryd.prog 206 2 = some (2, 65) := by kernel_rfl
@[simp] theorem ty_cells208 : Tryd.prog.cellsOf 208 = 2 := by kernel_rfl
@[simp] theorem ty_bytes208 : Tryd.prog.bytesOf 208 = 32 := by kernel_rfl
@[simp] theorem ty_zeroD208 : zeroD Tryd.prog 208 = some [.str [], .str []] := by kernel_rfl
@[simp] theorem ty_zeroV208 : zeroValD Tryd.prog 208 = some (.agg [.str [], .str []]) := by kernel_rfl
@[simp] theorem ty_isStruct208 : isStruct Tryd.prog 208 = true := by kernel_rfl
@[simp] theorem ty_field208_0 : fieldOf Tryd.prog 208 0 = some (0, 9) := by kernel_rfl
@[simp] theorem ty_field208_1 : fieldOf Tryd.prog 208 1 = some (1, 194) := by kernel_rfl
@[simp] theorem ty_flat208 : flatDescs Tryd.prog 208 = some [.string, .string] := by kernel_rfl
@[simp] theorem ty_cells209 : Tryd.prog.cellsOf 209 = 3 := by kernel_rfl
@[simp] theorem ty_bytes209 : Tryd.prog.bytesOf 209 = 64 := by kernel_rfl
@[simp] theorem ty_zeroD209 : zeroD Tryd.prog 209 = some [.str [], .nils, .nils] := by kernel_rfl
@[simp] theorem ty_zeroV209 : zeroValD Tryd.prog 209 = some (.agg [.str [], .nils, .nils]) := by kernel_rfl
@[simp] theorem ty_isStruct209 : isStruct Tryd.prog 209 = true := by kernel_rfl
@[simp] theorem ty_field209_0 : fieldOf Tryd.prog 209 0 = some (0, 9) := by kernel_rfl
@[simp] theorem ty_field209_1 : fieldOf Tryd.prog 209 1 = some (1, 37) := by kernel_rfl
@[simp] theorem ty_field209_2 : fieldOf Tryd.prog 209 2 = some (2, 36) := by kernel_rfl
@[simp] theorem ty_cells210 : Tryd.prog.cellsOf 210 = 3 := by kernel_rfl
@[simp] theorem ty_bytes210 : Tryd.prog.bytesOf 210 = 64 := by kernel_rfl
@[simp] theorem ty_zeroD210 : zeroD Tryd.prog 210 = some [.str [], .nils, .nils] := by kernel_rfl
@[simp] theorem ty_zeroV210 : zeroValD Tryd.prog 210 = some (.agg [.str [], .nils, .nils]) := by kernel_rfl
@[simp] theorem ty_isStruct210 : isStruct Tryd.prog 210 = true := by kernel_rfl
@[simp] theorem ty_field210_0 : fieldOf Tryd.prog 210 0 = some (0, 9) := by kernel_rfl
@[simp] theorem ty_field210_1 : fieldOf Tryd.prog 210 1 = some (1, 37) := by kernel_rfl
@[simp] theorem ty_field210_2 : fieldOf Tryd.prog 210 2 = some (2, 36) := by kernel_rfl
@[simp] theorem ty_cells211 : Tryd.prog.cellsOf 211 = 6 := by kernel_rfl
@[simp] theorem ty_bytes211 : Tryd.prog.bytesOf 211 = 96 := by kernel_rfl
@[simp] theorem ty_zeroD211 : zeroD Tryd.prog 211 = some [.str [], .nils, .int .i64 0, .str [], .int .i64 0, .nils] := by kernel_rfl
@[simp] theorem ty_zeroV211 : zeroValD Tryd.prog 211 = some (.agg [.str [], .nils, .int .i64 0, .str [], .int .i64 0, .nils]) := by kernel_rfl
@[simp] theorem ty_isStruct211 : isStruct Tryd.prog 211 = true := by kernel_rfl
@[simp] theorem ty_field211_0 : fieldOf Tryd.prog 211 0 = some (0, 9) := by kernel_rfl
@[simp] theorem ty_field211_1 : fieldOf Tryd.prog 211 1 = some (1, 37) := by kernel_rfl
@[simp] theorem ty_field211_2 : fieldOf Tryd.prog 211 2 = some (2, 41) := by kernel_rfl
@[simp] theorem ty_cells212 : Tryd.prog.cellsOf 212 = 6 := by kernel_rfl
@[simp] theorem ty_bytes212 : Tryd.prog.bytesOf 212 = 96 := by kernel_rfl
@[simp] theorem ty_zeroD212 : zeroD Tryd.prog 212 = some [.str [], .nils, .int .i64 0, .str [], .int .i64 0, .nils] := by kernel_rfl
@[simp] theorem ty_zeroV212 : zeroValD Tryd.prog 212 = some (.agg [.str [], .nils, .int .i64 0, .str [], .int .i64 0, .nils]) := by kernel_rfl
@[simp] theorem ty_isStruct212 : isStruct Tryd.prog 212 = true := by kernel_rfl
@[simp] theorem ty_field212_0 : fieldOf Tryd.prog 212 0 = some (0, 9) := by kernel_rfl
@[simp] theorem ty_field212_1 : fieldOf Tryd.prog 212 1 = some (1, 37) := by kernel_rfl
@[simp] theorem ty_field212_2 : fieldOf Tryd.prog 212 2 = some (2, 41) := by kernel_rfl
@[simp] theorem ty_elemOk5 : elemOk Tryd.prog 5 = true := by kernel_rfl
@[simp] theorem ty_elemOk9 : elemOk Tryd.prog 9 = true := by kernel_rfl
@[simp] theorem ty_elemOk41 : elemOk Tryd.prog 41 = true := by kernel_rfl
@[simp] theorem ty_elemOk43 : elemOk Tryd.prog 43 = true := by kernel_rfl
@[simp] theorem ty_elemOk48 : elemOk Tryd.prog 48 = true := by kernel_rfl
@[simp] theorem ty_elemOk57 : elemOk Tryd.prog 57 = true := by kernel_rfl
@[simp] theorem ty_elemOk65 : elemOk Tryd.prog 65 = true := by kernel_rfl
@[simp] theorem ty_elemOk68 : elemOk Tryd.prog 68 = true := by kernel_rfl
@[simp] theorem ty_elemOk92 : elemOk Tryd.prog 92 = true := by kernel_rfl
@[simp] theorem ty_elemOk94 : elemOk Tryd.prog 94 = true := by kernel_rfl
@[simp] theorem ty_elemOk131 : elemOk Tryd.prog 131 = true := by kernel_rfl
@[simp] theorem ty_elemOk193 : elemOk Tryd.prog 193 = true := by kernel_rfl
@[simp] theorem ty_elemOk197 : elemOk Tryd.prog 197 = true := by kernel_rfl
@[simp] theorem ty_elemOk199 : elemOk Tryd.prog 199 = true := by kernel_rfl
@[simp] theorem ty_elemOk201 : elemOk Tryd.prog 201 = true := by kernel_rfl
@[simp] theorem ty_elemOk203 : elemOk Tryd.prog 203 = true := by kernel_rfl
@[simp] theorem ty_elemOk204 : elemOk Tryd.prog 204 = true := by kernel_rfl
@[simp] theorem ty_elemOk206 : elemOk Tryd.prog 206 = true := by kernel_rfl
@[simp] theorem ty_elemOk208 : elemOk Tryd.prog 208 = true := by kernel_rfl
@[simp] theorem ty_elemOk210 : elemOk Tryd.prog 210 = true := by kernel_rfl
@[simp] theorem ty_elemOk212 : elemOk Tryd.prog 212 = true := by kernel_rfl
end Go.Proofs.YtbljhkgdeojliaaDoor
