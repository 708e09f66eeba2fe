/- The facts on this translation's types that the machine on data asks, one closed fact each. By a program of ours. No condition. -/
import Derived.Test.YtbacejmdgfalpaaDoorZF
import Derived.KernelRfl
import Derived.Test.YtbacejmdgfalpaaDoorProg
set_option linter.unusedVariables false
set_option linter.unusedSimpArgs false
namespace Go.Proofs.YtbacejmdgfalpaaDoor
open Go Go.VM
@[simp] theorem ty_cells1 : Tryd.prog.cellsOf 1 = 1 := by kernel_rfl
@[simp] theorem ty_bytes1 : Tryd.prog.bytesOf 1 = 8 := by kernel_rfl
@[simp] theorem ty_zeroD1 : zeroD Tryd.prog 1 = none := by kernel_rfl
@[simp] theorem ty_zeroC1 : zeroC Tryd.prog 1 = some [.undef] := by kernel_rfl
@[simp] theorem ty_zeroO1 : zeroO Tryd.prog 1 = some [.undef] := by kernel_rfl
@[simp] theorem ty_cells2 : Tryd.prog.cellsOf 2 = 1 := by kernel_rfl
@[simp] theorem ty_bytes2 : Tryd.prog.bytesOf 2 = 8 := by kernel_rfl
@[simp] theorem ty_zeroD2 : zeroD Tryd.prog 2 = some [.int .i64 0] := by kernel_rfl
@[simp] theorem ty_zeroV2 : zeroValD Tryd.prog 2 = some (.int .i64 0) := by kernel_rfl
@[simp] theorem ty_cells3 : Tryd.prog.cellsOf 3 = 1 := by kernel_rfl
@[simp] theorem ty_bytes3 : Tryd.prog.bytesOf 3 = 8 := by kernel_rfl
@[simp] theorem ty_zeroD3 : zeroD Tryd.prog 3 = some [.int .i64 0] := by kernel_rfl
@[simp] theorem ty_zeroV3 : zeroValD Tryd.prog 3 = some (.int .i64 0) := by kernel_rfl
@[simp] theorem ty_cells4 : Tryd.prog.cellsOf 4 = 1 := by kernel_rfl
@[simp] theorem ty_bytes4 : Tryd.prog.bytesOf 4 = 1 := by kernel_rfl
@[simp] theorem ty_zeroD4 : zeroD Tryd.prog 4 = some [.bool false] := by kernel_rfl
@[simp] theorem ty_zeroV4 : zeroValD Tryd.prog 4 = some (.bool false) := by kernel_rfl
@[simp] theorem ty_cells5 : Tryd.prog.cellsOf 5 = 1 := by kernel_rfl
@[simp] theorem ty_bytes5 : Tryd.prog.bytesOf 5 = 1 := by kernel_rfl
@[simp] theorem ty_zeroD5 : zeroD Tryd.prog 5 = some [.int .u8 0] := by kernel_rfl
@[simp] theorem ty_zeroV5 : zeroValD Tryd.prog 5 = some (.int .u8 0) := by kernel_rfl
@[simp] theorem ty_cells6 : Tryd.prog.cellsOf 6 = 1 := by kernel_rfl
@[simp] theorem ty_bytes6 : Tryd.prog.bytesOf 6 = 1 := by kernel_rfl
@[simp] theorem ty_zeroD6 : zeroD Tryd.prog 6 = some [.int .u8 0] := by kernel_rfl
@[simp] theorem ty_zeroV6 : zeroValD Tryd.prog 6 = some (.int .u8 0) := by kernel_rfl
@[simp] theorem ty_cells7 : Tryd.prog.cellsOf 7 = 4 := by kernel_rfl
@[simp] theorem ty_bytes7 : Tryd.prog.bytesOf 7 = 24 := by kernel_rfl
@[simp] theorem ty_zeroD7 : zeroD Tryd.prog 7 = some [.int .i64 0, .int .i64 0, .bool false, .int .u8 0] := by kernel_rfl
@[simp] theorem ty_zeroV7 : zeroValD Tryd.prog 7 = some (.agg [.int .i64 0, .int .i64 0, .bool false, .int .u8 0]) := by kernel_rfl
@[simp] theorem ty_isStruct7 : isStruct Tryd.prog 7 = true := by kernel_rfl
@[simp] theorem ty_field7_0 : fieldOf Tryd.prog 7 0 = some (0, 2) := by kernel_rfl
@[simp] theorem ty_field7_1 : fieldOf Tryd.prog 7 1 = some (1, 3) := by kernel_rfl
@[simp] theorem ty_field7_2 : fieldOf Tryd.prog 7 2 = some (2, 4) := by kernel_rfl
@[simp] theorem ty_field7_3 : fieldOf Tryd.prog 7 3 = some (3, 6) := by kernel_rfl
@[simp] theorem ty_cells8 : Tryd.prog.cellsOf 8 = 4 := by kernel_rfl
@[simp] theorem ty_bytes8 : Tryd.prog.bytesOf 8 = 24 := by kernel_rfl
@[simp] theorem ty_zeroD8 : zeroD Tryd.prog 8 = some [.int .i64 0, .int .i64 0, .bool false, .int .u8 0] := by kernel_rfl
@[simp] theorem ty_zeroV8 : zeroValD Tryd.prog 8 = some (.agg [.int .i64 0, .int .i64 0, .bool false, .int .u8 0]) := by kernel_rfl
@[simp] theorem ty_isStruct8 : isStruct Tryd.prog 8 = true := by kernel_rfl
@[simp] theorem ty_field8_0 : fieldOf Tryd.prog 8 0 = some (0, 2) := by kernel_rfl
@[simp] theorem ty_field8_1 : fieldOf Tryd.prog 8 1 = some (1, 3) := by kernel_rfl
@[simp] theorem ty_field8_2 : fieldOf Tryd.prog 8 2 = some (2, 4) := by kernel_rfl
@[simp] theorem ty_field8_3 : fieldOf Tryd.prog 8 3 = some (3, 6) := by kernel_rfl
@[simp] theorem ty_cells9 : Tryd.prog.cellsOf 9 = 1 := by kernel_rfl
@[simp] theorem ty_bytes9 : Tryd.prog.bytesOf 9 = 16 := by kernel_rfl
@[simp] theorem ty_zeroD9 : zeroD Tryd.prog 9 = some [.str []] := by kernel_rfl
@[simp] theorem ty_zeroV9 : zeroValD Tryd.prog 9 = some (.str []) := by kernel_rfl
@[simp] theorem ty_cells10 : Tryd.prog.cellsOf 10 = 1 := by kernel_rfl
@[simp] theorem ty_bytes10 : Tryd.prog.bytesOf 10 = 16 := by kernel_rfl
@[simp] theorem ty_zeroD10 : zeroD Tryd.prog 10 = some [.str []] := by kernel_rfl
@[simp] theorem ty_zeroV10 : zeroValD Tryd.prog 10 = some (.str []) := by kernel_rfl
@[simp] theorem ty_cells11 : Tryd.prog.cellsOf 11 = 1 := by kernel_rfl
@[simp] theorem ty_bytes11 : Tryd.prog.bytesOf 11 = 16 := by kernel_rfl
@[simp] theorem ty_zeroD11 : zeroD Tryd.prog 11 = some [.str []] := by kernel_rfl
@[simp] theorem ty_zeroV11 : zeroValD Tryd.prog 11 = some (.str []) := by kernel_rfl
@[simp] theorem ty_cells12 : Tryd.prog.cellsOf 12 = 1 := by kernel_rfl
@[simp] theorem ty_bytes12 : Tryd.prog.bytesOf 12 = 8 := by kernel_rfl
@[simp] theorem ty_zeroD12 : zeroD Tryd.prog 12 = some [.int .u64 0] := by kernel_rfl
@[simp] theorem ty_zeroV12 : zeroValD Tryd.prog 12 = some (.int .u64 0) := by kernel_rfl
@[simp] theorem ty_cells13 : Tryd.prog.cellsOf 13 = 2 := by kernel_rfl
@[simp] theorem ty_bytes13 : Tryd.prog.bytesOf 13 = 24 := by kernel_rfl
@[simp] theorem ty_zeroD13 : zeroD Tryd.prog 13 = some [.str [], .int .u64 0] := by kernel_rfl
@[simp] theorem ty_zeroV13 : zeroValD Tryd.prog 13 = some (.agg [.str [], .int .u64 0]) := by kernel_rfl
@[simp] theorem ty_isStruct13 : isStruct Tryd.prog 13 = true := by kernel_rfl
@[simp] theorem ty_field13_0 : fieldOf Tryd.prog 13 0 = some (0, 9) := by kernel_rfl
@[simp] theorem ty_field13_1 : fieldOf Tryd.prog 13 1 = some (1, 12) := by kernel_rfl
@[simp] theorem ty_cells14 : Tryd.prog.cellsOf 14 = 2 := by kernel_rfl
@[simp] theorem ty_bytes14 : Tryd.prog.bytesOf 14 = 24 := by kernel_rfl
@[simp] theorem ty_zeroD14 : zeroD Tryd.prog 14 = some [.str [], .int .u64 0] := by kernel_rfl
@[simp] theorem ty_zeroV14 : zeroValD Tryd.prog 14 = some (.agg [.str [], .int .u64 0]) := by kernel_rfl
@[simp] theorem ty_isStruct14 : isStruct Tryd.prog 14 = true := by kernel_rfl
@[simp] theorem ty_field14_0 : fieldOf Tryd.prog 14 0 = some (0, 9) := by kernel_rfl
@[simp] theorem ty_field14_1 : fieldOf Tryd.prog 14 1 = some (1, 12) := by kernel_rfl
@[simp] theorem ty_cells15 : Tryd.prog.cellsOf 15 = 1 := by kernel_rfl
@[simp] theorem ty_bytes15 : Tryd.prog.bytesOf 15 = 8 := by kernel_rfl
@[simp] theorem ty_zeroD15 : zeroD Tryd.prog 15 = none := by kernel_rfl
@[simp] theorem ty_zeroC15 : zeroC Tryd.prog 15 = some [.nilp 15] := by kernel_rfl
@[simp] theorem ty_zeroO15 : zeroO Tryd.prog 15 = some [.undef] := by kernel_rfl
@[simp] theorem ty_cells16 : Tryd.prog.cellsOf 16 = 1 := by kernel_rfl
@[simp] theorem ty_bytes16 : Tryd.prog.bytesOf 16 = 8 := by kernel_rfl
@[simp] theorem ty_zeroD16 : zeroD Tryd.prog 16 = none := by kernel_rfl
@[simp] theorem ty_zeroC16 : zeroC Tryd.prog 16 = some [.nilp 16] := by kernel_rfl
@[simp] theorem ty_zeroO16 : zeroO Tryd.prog 16 = some [.undef] := by kernel_rfl
@[simp] theorem ty_cells17 : Tryd.prog.cellsOf 17 = 1 := by kernel_rfl
@[simp] theorem ty_bytes17 : Tryd.prog.bytesOf 17 = 8 := by kernel_rfl
@[simp] theorem ty_zeroD17 : zeroD Tryd.prog 17 = none := by kernel_rfl
@[simp] theorem ty_zeroC17 : zeroC Tryd.prog 17 = some [.nilp 17] := by kernel_rfl
@[simp] theorem ty_zeroO17 : zeroO Tryd.prog 17 = some [.undef] := by kernel_rfl
@[simp] theorem ty_cells18 : Tryd.prog.cellsOf 18 = 1 := by kernel_rfl
@[simp] theorem ty_bytes18 : Tryd.prog.bytesOf 18 = 8 := by kernel_rfl
@[simp] theorem ty_zeroD18 : zeroD Tryd.prog 18 = none := by kernel_rfl
@[simp] theorem ty_zeroC18 : zeroC Tryd.prog 18 = some [.nilp 18] := by kernel_rfl
@[simp] theorem ty_zeroO18 : zeroO Tryd.prog 18 = some [.undef] := by kernel_rfl
@[simp] theorem ty_field18_0 : fieldOf Tryd.prog 18 0 = some (0, 17) := by kernel_rfl
@[simp] theorem ty_cells19 : Tryd.prog.cellsOf 19 = 1 := by kernel_rfl
@[simp] theorem ty_bytes19 : Tryd.prog.bytesOf 19 = 8 := by kernel_rfl
@[simp] theorem ty_zeroD19 : zeroD Tryd.prog 19 = none := by kernel_rfl
@[simp] theorem ty_zeroC19 : zeroC Tryd.prog 19 = some [.nilp 19] := by kernel_rfl
@[simp] theorem ty_zeroO19 : zeroO Tryd.prog 19 = some [.undef] := by kernel_rfl
@[simp] theorem ty_field19_0 : fieldOf Tryd.prog 19 0 = some (0, 17) := by kernel_rfl
@[simp] theorem ty_zeroD20 : zeroD Tryd.prog 20 = none := by kernel_rfl
@[simp] theorem ty_zeroC20 : zeroC Tryd.prog 20 = some [.undef] := by kernel_rfl
@[simp] theorem ty_zeroO20 : zeroO Tryd.prog 20 = some [.undef] := by kernel_rfl
@[simp] theorem ty_cells21 : Tryd.prog.cellsOf 21 = 1 := by kernel_rfl
@[simp] theorem ty_bytes21 : Tryd.prog.bytesOf 21 = 4 := by kernel_rfl
@[simp] theorem ty_zeroD21 : zeroD Tryd.prog 21 = some [.int .i32 0] := by kernel_rfl
@[simp] theorem ty_zeroV21 : zeroValD Tryd.prog 21 = some (.int .i32 0) := by kernel_rfl
@[simp] theorem ty_cells22 : Tryd.prog.cellsOf 22 = 1 := by kernel_rfl
@[simp] theorem ty_bytes22 : Tryd.prog.bytesOf 22 = 24 := by kernel_rfl
@[simp] theorem ty_zeroD22 : zeroD Tryd.prog 22 = some [.nils] := by kernel_rfl
@[simp] theorem ty_zeroV22 : zeroValD Tryd.prog 22 = some (.nils) := by kernel_rfl
@[simp] theorem ty_elem22 : elemOfD Tryd.prog 22 = some 141 := by kernel_rfl
@[simp] theorem ty_cells23 : Tryd.prog.cellsOf 23 = 1 := by kernel_rfl
@[simp] theorem ty_bytes23 : Tryd.prog.bytesOf 23 = 24 := by kernel_rfl
@[simp] theorem ty_zeroD23 : zeroD Tryd.prog 23 = some [.nils] := by kernel_rfl
@[simp] theorem ty_zeroV23 : zeroValD Tryd.prog 23 = some (.nils) := by kernel_rfl
@[simp] theorem ty_elem23 : elemOfD Tryd.prog 23 = some 75 := by kernel_rfl
@[simp] theorem ty_cells24 : Tryd.prog.cellsOf 24 = 1 := by kernel_rfl
@[simp] theorem ty_bytes24 : Tryd.prog.bytesOf 24 = 24 := by kernel_rfl
@[simp] theorem ty_zeroD24 : zeroD Tryd.prog 24 = some [.nils] := by kernel_rfl
@[simp] theorem ty_zeroV24 : zeroValD Tryd.prog 24 = some (.nils) := by kernel_rfl
@[simp] theorem ty_elem24 : elemOfD Tryd.prog 24 = some 57 := by kernel_rfl
@[simp] theorem ty_cells25 : Tryd.prog.cellsOf 25 = 1 := by kernel_rfl
@[simp] theorem ty_bytes25 : Tryd.prog.bytesOf 25 = 24 := by kernel_rfl
@[simp] theorem ty_zeroD25 : zeroD Tryd.prog 25 = some [.nils] := by kernel_rfl
@[simp] theorem ty_zeroV25 : zeroValD Tryd.prog 25 = some (.nils) := by kernel_rfl
@[simp] theorem ty_elem25 : elemOfD Tryd.prog 25 = some 145 := by kernel_rfl
@[simp] theorem ty_cells26 : Tryd.prog.cellsOf 26 = 1 := by kernel_rfl
@[simp] theorem ty_bytes26 : Tryd.prog.bytesOf 26 = 24 := by kernel_rfl
@[simp] theorem ty_zeroD26 : zeroD Tryd.prog 26 = some [.nils] := by kernel_rfl
@[simp] theorem ty_zeroV26 : zeroValD Tryd.prog 26 = some (.nils) := by kernel_rfl
@[simp] theorem ty_elem26 : elemOfD Tryd.prog 26 = some 147 := by kernel_rfl
@[simp] theorem ty_cells27 : Tryd.prog.cellsOf 27 = 1 := by kernel_rfl
@[simp] theorem ty_bytes27 : Tryd.prog.bytesOf 27 = 24 := by kernel_rfl
@[simp] theorem ty_zeroD27 : zeroD Tryd.prog 27 = some [.nils] := by kernel_rfl
@[simp] theorem ty_zeroV27 : zeroValD Tryd.prog 27 = some (.nils) := by kernel_rfl
@[simp] theorem ty_elem27 : elemOfD Tryd.prog 27 = some 68 := by kernel_rfl
@[simp] theorem ty_cells28 : Tryd.prog.cellsOf 28 = 6 := by kernel_rfl
@[simp] theorem ty_bytes28 : Tryd.prog.bytesOf 28 = 144 := by kernel_rfl
@[simp] theorem ty_zeroD28 : zeroD Tryd.prog 28 = some [.nils, .nils, .nils, .nils, .nils, .nils] := by kernel_rfl
@[simp] theorem ty_zeroV28 : zeroValD Tryd.prog 28 = some (.agg [.nils, .nils, .nils, .nils, .nils, .nils]) := by kernel_rfl
@[simp] theorem ty_isStruct28 : isStruct Tryd.prog 28 = true := by kernel_rfl
@[simp] theorem ty_field28_0 : fieldOf Tryd.prog 28 0 = some (0, 22) := by kernel_rfl
@[simp] theorem ty_field28_1 : fieldOf Tryd.prog 28 1 = some (1, 23) := by kernel_rfl
@[simp] theorem ty_field28_2 : fieldOf Tryd.prog 28 2 = some (2, 24) := by kernel_rfl
@[simp] theorem ty_field28_3 : fieldOf Tryd.prog 28 3 = some (3, 25) := by kernel_rfl
@[simp] theorem ty_field28_4 : fieldOf Tryd.prog 28 4 = some (4, 26) := by kernel_rfl
@[simp] theorem ty_field28_5 : fieldOf Tryd.prog 28 5 = some (5, 27) := by kernel_rfl
@[simp] theorem ty_cells29 : Tryd.prog.cellsOf 29 = 6 := by kernel_rfl
@[simp] theorem ty_bytes29 : Tryd.prog.bytesOf 29 = 144 := by kernel_rfl
@[simp] theorem ty_zeroD29 : zeroD Tryd.prog 29 = some [.nils, .nils, .nils, .nils, .nils, .nils] := by kernel_rfl
@[simp] theorem ty_zeroV29 : zeroValD Tryd.prog 29 = some (.agg [.nils, .nils, .nils, .nils, .nils, .nils]) := by kernel_rfl
@[simp] theorem ty_isStruct29 : isStruct Tryd.prog 29 = true := by kernel_rfl
@[simp] theorem ty_field29_0 : fieldOf Tryd.prog 29 0 = some (0, 22) := by kernel_rfl
@[simp] theorem ty_field29_1 : fieldOf Tryd.prog 29 1 = some (1, 23) := by kernel_rfl
@[simp] theorem ty_field29_2 : fieldOf Tryd.prog 29 2 = some (2, 24) := by kernel_rfl
@[simp] theorem ty_field29_3 : fieldOf Tryd.prog 29 3 = some (3, 25) := by kernel_rfl
@[simp] theorem ty_field29_4 : fieldOf Tryd.prog 29 4 = some (4, 26) := by kernel_rfl
@[simp] theorem ty_field29_5 : fieldOf Tryd.prog 29 5 = some (5, 27) := by kernel_rfl
@[simp] theorem ty_cells30 : Tryd.prog.cellsOf 30 = 1 := by kernel_rfl
@[simp] theorem ty_bytes30 : Tryd.prog.bytesOf 30 = 8 := by kernel_rfl
@[simp] theorem ty_zeroD30 : zeroD Tryd.prog 30 = none := by kernel_rfl
@[simp] theorem ty_zeroC30 : zeroC Tryd.prog 30 = some [.undef] := by kernel_rfl
@[simp] theorem ty_zeroO30 : zeroO Tryd.prog 30 = some [.undef] := by kernel_rfl
@[simp] theorem ty_cells31 : Tryd.prog.cellsOf 31 = 1 := by kernel_rfl
@[simp] theorem ty_bytes31 : Tryd.prog.bytesOf 31 = 8 := by kernel_rfl
@[simp] theorem ty_zeroD31 : zeroD Tryd.prog 31 = some [.int .i64 0] := by kernel_rfl
@[simp] theorem ty_zeroV31 : zeroValD Tryd.prog 31 = some (.int .i64 0) := by kernel_rfl
@[simp] theorem ty_cells32 : Tryd.prog.cellsOf 32 = 1 := by kernel_rfl
@[simp] theorem ty_bytes32 : Tryd.prog.bytesOf 32 = 8 := by kernel_rfl
@[simp] theorem ty_zeroD32 : zeroD Tryd.prog 32 = none := by kernel_rfl
@[simp] theorem ty_zeroC32 : zeroC Tryd.prog 32 = some [.undef] := by kernel_rfl
@[simp] theorem ty_zeroO32 : zeroO Tryd.prog 32 = some [.undef] := by kernel_rfl
@[simp] theorem ty_cells33 : Tryd.prog.cellsOf 33 = 1 := by kernel_rfl
@[simp] theorem ty_bytes33 : Tryd.prog.bytesOf 33 = 8 := by kernel_rfl
@[simp] theorem ty_zeroD33 : zeroD Tryd.prog 33 = none := by kernel_rfl
@[simp] theorem ty_zeroC33 : zeroC Tryd.prog 33 = some [.undef] := by kernel_rfl
@[simp] theorem ty_zeroO33 : zeroO Tryd.prog 33 = some [.undef] := by kernel_rfl
@[simp] theorem ty_cells34 : Tryd.prog.cellsOf 34 = 1 := by kernel_rfl
@[simp] theorem ty_bytes34 : Tryd.prog.bytesOf 34 = 24 := by kernel_rfl
@[simp] theorem ty_zeroD34 : zeroD Tryd.prog 34 = some [.nils] := by kernel_rfl
@[simp] theorem ty_zeroV34 : zeroValD Tryd.prog 34 = some (.nils) := by kernel_rfl
@[simp] theorem ty_elem34 : elemOfD Tryd.prog 34 = some 48 := by kernel_rfl
@[simp] theorem ty_cells35 : Tryd.prog.cellsOf 35 = 1 := by kernel_rfl
@[simp] theorem ty_bytes35 : Tryd.prog.bytesOf 35 = 8 := by kernel_rfl
@[simp] theorem ty_zeroD35 : zeroD Tryd.prog 35 = some [.int .i64 0] := by kernel_rfl
@[simp] theorem ty_zeroV35 : zeroValD Tryd.prog 35 = some (.int .i64 0) := by kernel_rfl
@[simp] theorem ty_cells36 : Tryd.prog.cellsOf 36 = 1 := by kernel_rfl
@[simp] theorem ty_bytes36 : Tryd.prog.bytesOf 36 = 24 := by kernel_rfl
@[simp] theorem ty_zeroD36 : zeroD Tryd.prog 36 = some [.nils] := by kernel_rfl
@[simp] theorem ty_zeroV36 : zeroValD Tryd.prog 36 = some (.nils) := by kernel_rfl
@[simp] theorem ty_elem36 : elemOfD Tryd.prog 36 = some 43 := by kernel_rfl
@[simp] theorem ty_cells37 : Tryd.prog.cellsOf 37 = 1 := by kernel_rfl
@[simp] theorem ty_bytes37 : Tryd.prog.bytesOf 37 = 24 := by kernel_rfl
@[simp] theorem ty_zeroD37 : zeroD Tryd.prog 37 = some [.nils] := by kernel_rfl
@[simp] theorem ty_zeroV37 : zeroValD Tryd.prog 37 = some (.nils) := by kernel_rfl
@[simp] theorem ty_elem37 : elemOfD Tryd.prog 37 = some 9 := by kernel_rfl
@[simp] theorem ty_cells38 : Tryd.prog.cellsOf 38 = 1 := by kernel_rfl
@[simp] theorem ty_bytes38 : Tryd.prog.bytesOf 38 = 8 := by kernel_rfl
@[simp] theorem ty_zeroD38 : zeroD Tryd.prog 38 = some [.int .i64 0] := by kernel_rfl
@[simp] theorem ty_zeroV38 : zeroValD Tryd.prog 38 = some (.int .i64 0) := by kernel_rfl
@[simp] theorem ty_cells39 : Tryd.prog.cellsOf 39 = 1 := by kernel_rfl
@[simp] theorem ty_bytes39 : Tryd.prog.bytesOf 39 = 24 := by kernel_rfl
@[simp] theorem ty_zeroD39 : zeroD Tryd.prog 39 = some [.nils] := by kernel_rfl
@[simp] theorem ty_zeroV39 : zeroValD Tryd.prog 39 = some (.nils) := by kernel_rfl
@[simp] theorem ty_elem39 : elemOfD Tryd.prog 39 = some 41 := by kernel_rfl
@[simp] theorem ty_cells40 : Tryd.prog.cellsOf 40 = 4 := by kernel_rfl
@[simp] theorem ty_bytes40 : Tryd.prog.bytesOf 40 = 56 := by kernel_rfl
@[simp] theorem ty_zeroD40 : zeroD Tryd.prog 40 = some [.int .i64 0, .str [], .int .i64 0, .nils] := by kernel_rfl
@[simp] theorem ty_zeroV40 : zeroValD Tryd.prog 40 = some (.agg [.int .i64 0, .str [], .int .i64 0, .nils]) := by kernel_rfl
@[simp] theorem ty_isStruct40 : isStruct Tryd.prog 40 = true := by kernel_rfl
@[simp] theorem ty_field40_0 : fieldOf Tryd.prog 40 0 = some (0, 38) := by kernel_rfl
@[simp] theorem ty_field40_1 : fieldOf Tryd.prog 40 1 = some (1, 9) := by kernel_rfl
@[simp] theorem ty_field40_2 : fieldOf Tryd.prog 40 2 = some (2, 3) := by kernel_rfl
@[simp] theorem ty_field40_3 : fieldOf Tryd.prog 40 3 = some (3, 39) := by kernel_rfl
@[simp] theorem ty_cells41 : Tryd.prog.cellsOf 41 = 4 := by kernel_rfl
@[simp] theorem ty_bytes41 : Tryd.prog.bytesOf 41 = 56 := by kernel_rfl
@[simp] theorem ty_zeroD41 : zeroD Tryd.prog 41 = some [.int .i64 0, .str [], .int .i64 0, .nils] := by kernel_rfl
@[simp] theorem ty_zeroV41 : zeroValD Tryd.prog 41 = some (.agg [.int .i64 0, .str [], .int .i64 0, .nils]) := by kernel_rfl
@[simp] theorem ty_isStruct41 : isStruct Tryd.prog 41 = true := by kernel_rfl
@[simp] theorem ty_field41_0 : fieldOf Tryd.prog 41 0 = some (0, 38) := by kernel_rfl
@[simp] theorem ty_field41_1 : fieldOf Tryd.prog 41 1 = some (1, 9) := by kernel_rfl
@[simp] theorem ty_field41_2 : fieldOf Tryd.prog 41 2 = some (2, 3) := by kernel_rfl
@[simp] theorem ty_field41_3 : fieldOf Tryd.prog 41 3 = some (3, 39) := by kernel_rfl
@[simp] theorem ty_cells42 : Tryd.prog.cellsOf 42 = 9 := by kernel_rfl
@[simp] theorem ty_bytes42 : Tryd.prog.bytesOf 42 = 152 := by kernel_rfl
@[simp] theorem ty_zeroD42 : zeroD Tryd.prog 42 = some [.int .i64 0, .str [], .nils, .nils, .int .i64 0, .str [], .int .i64 0, .nils, .nils] := by kernel_rfl
@[simp] theorem ty_zeroV42 : zeroValD Tryd.prog 42 = some (.agg [.int .i64 0, .str [], .nils, .nils, .int .i64 0, .str [], .int .i64 0, .nils, .nils]) := by kernel_rfl
@[simp] theorem ty_isStruct42 : isStruct Tryd.prog 42 = true := by kernel_rfl
@[simp] theorem ty_field42_0 : fieldOf Tryd.prog 42 0 = some (0, 35) := by kernel_rfl
@[simp] theorem ty_field42_1 : fieldOf Tryd.prog 42 1 = some (1, 9) := by kernel_rfl
@[simp] theorem ty_field42_2 : fieldOf Tryd.prog 42 2 = some (2, 36) := by kernel_rfl
@[simp] theorem ty_field42_3 : fieldOf Tryd.prog 42 3 = some (3, 37) := by kernel_rfl
@[simp] theorem ty_field42_4 : fieldOf Tryd.prog 42 4 = some (4, 41) := by kernel_rfl
@[simp] theorem ty_field42_5 : fieldOf Tryd.prog 42 5 = some (8, 39) := by kernel_rfl
@[simp] theorem ty_cells43 : Tryd.prog.cellsOf 43 = 9 := by kernel_rfl
@[simp] theorem ty_bytes43 : Tryd.prog.bytesOf 43 = 152 := by kernel_rfl
@[simp] theorem ty_zeroD43 : zeroD Tryd.prog 43 = some [.int .i64 0, .str [], .nils, .nils, .int .i64 0, .str [], .int .i64 0, .nils, .nils] := by kernel_rfl
@[simp] theorem ty_zeroV43 : zeroValD Tryd.prog 43 = some (.agg [.int .i64 0, .str [], .nils, .nils, .int .i64 0, .str [], .int .i64 0, .nils, .nils]) := by kernel_rfl
@[simp] theorem ty_isStruct43 : isStruct Tryd.prog 43 = true := by kernel_rfl
@[simp] theorem ty_field43_0 : fieldOf Tryd.prog 43 0 = some (0, 35) := by kernel_rfl
@[simp] theorem ty_field43_1 : fieldOf Tryd.prog 43 1 = some (1, 9) := by kernel_rfl
@[simp] theorem ty_field43_2 : fieldOf Tryd.prog 43 2 = some (2, 36) := by kernel_rfl
@[simp] theorem ty_field43_3 : fieldOf Tryd.prog 43 3 = some (3, 37) := by kernel_rfl
@[simp] theorem ty_field43_4 : fieldOf Tryd.prog 43 4 = some (4, 41) := by kernel_rfl
@[simp] theorem ty_field43_5 : fieldOf Tryd.prog 43 5 = some (8, 39) := by kernel_rfl
@[simp] theorem ty_cells45 : Tryd.prog.cellsOf 45 = 1 := by kernel_rfl
@[simp] theorem ty_bytes45 : Tryd.prog.bytesOf 45 = 8 := by kernel_rfl
@[simp] theorem ty_zeroD45 : zeroD Tryd.prog 45 = none := by kernel_rfl
@[simp] theorem ty_zeroC45 : zeroC Tryd.prog 45 = some [.undef] := by kernel_rfl
@[simp] theorem ty_zeroO45 : zeroO Tryd.prog 45 = some [.undef] := by kernel_rfl
@[simp] theorem ty_cells46 : Tryd.prog.cellsOf 46 = 1 := by kernel_rfl
@[simp] theorem ty_bytes46 : Tryd.prog.bytesOf 46 = 8 := by kernel_rfl
@[simp] theorem ty_zeroD46 : zeroD Tryd.prog 46 = none := by kernel_rfl
@[simp] theorem ty_zeroC46 : zeroC Tryd.prog 46 = some [.undef] := by kernel_rfl
@[simp] theorem ty_zeroO46 : zeroO Tryd.prog 46 = some [.undef] := by kernel_rfl
@[simp] theorem ty_cells47 : Tryd.prog.cellsOf 47 = 2 := by kernel_rfl
@[simp] theorem ty_bytes47 : Tryd.prog.bytesOf 47 = 32 := by kernel_rfl
@[simp] theorem ty_zeroD47 : zeroD Tryd.prog 47 = some [.str [], .str []] := by kernel_rfl
@[simp] theorem ty_zeroV47 : zeroValD Tryd.prog 47 = some (.agg [.str [], .str []]) := by kernel_rfl
@[simp] theorem ty_isStruct47 : isStruct Tryd.prog 47 = true := by kernel_rfl
@[simp] theorem ty_field47_0 : fieldOf Tryd.prog 47 0 = some (0, 9) := by kernel_rfl
@[simp] theorem ty_field47_1 : fieldOf Tryd.prog 47 1 = some (1, 9) := by kernel_rfl
@[simp] theorem ty_cells48 : Tryd.prog.cellsOf 48 = 2 := by kernel_rfl
@[simp] theorem ty_bytes48 : Tryd.prog.bytesOf 48 = 32 := by kernel_rfl
@[simp] theorem ty_zeroD48 : zeroD Tryd.prog 48 = some [.str [], .str []] := by kernel_rfl
@[simp] theorem ty_zeroV48 : zeroValD Tryd.prog 48 = some (.agg [.str [], .str []]) := by kernel_rfl
@[simp] theorem ty_isStruct48 : isStruct Tryd.prog 48 = true := by kernel_rfl
@[simp] theorem ty_field48_0 : fieldOf Tryd.prog 48 0 = some (0, 9) := by kernel_rfl
@[simp] theorem ty_field48_1 : fieldOf Tryd.prog 48 1 = some (1, 9) := by kernel_rfl
@[simp] theorem ty_flat48 : flatDescs Tryd.prog 48 = some [.string, .string] := by kernel_rfl
@[simp] theorem ty_cells49 : Tryd.prog.cellsOf 49 = 1 := by kernel_rfl
@[simp] theorem ty_bytes49 : Tryd.prog.bytesOf 49 = 24 := by kernel_rfl
@[simp] theorem ty_zeroD49 : zeroD Tryd.prog 49 = some [.nils] := by kernel_rfl
@[simp] theorem ty_zeroV49 : zeroValD Tryd.prog 49 = some (.nils) := by kernel_rfl
@[simp] theorem ty_elem49 : elemOfD Tryd.prog 49 = some 149 := by kernel_rfl
@[simp] theorem ty_cells50 : Tryd.prog.cellsOf 50 = 1 := by kernel_rfl
@[simp] theorem ty_bytes50 : Tryd.prog.bytesOf 50 = 24 := by kernel_rfl
@[simp] theorem ty_zeroD50 : zeroD Tryd.prog 50 = some [.nils] := by kernel_rfl
@[simp] theorem ty_zeroV50 : zeroValD Tryd.prog 50 = some (.nils) := by kernel_rfl
@[simp] theorem ty_elem50 : elemOfD Tryd.prog 50 = some 151 := by kernel_rfl
@[simp] theorem ty_cells51 : Tryd.prog.cellsOf 51 = 14 := by kernel_rfl
@[simp] theorem ty_bytes51 : Tryd.prog.bytesOf 51 = 272 := by kernel_rfl
@[simp] theorem ty_zeroD51 : zeroD Tryd.prog 51 = some [.nils, .nils, .nils, .nils, .int .i64 0, .str [], .nils, .nils, .int .i64 0, .str [], .int .i64 0, .nils, .nils, .nils] := by kernel_rfl
@[simp] theorem ty_zeroV51 : zeroValD Tryd.prog 51 = some (.agg [.nils, .nils, .nils, .nils, .int .i64 0, .str [], .nils, .nils, .int .i64 0, .str [], .int .i64 0, .nils, .nils, .nils]) := by kernel_rfl
@[simp] theorem ty_isStruct51 : isStruct Tryd.prog 51 = true := by kernel_rfl
@[simp] theorem ty_field51_0 : fieldOf Tryd.prog 51 0 = some (0, 37) := by kernel_rfl
@[simp] theorem ty_field51_1 : fieldOf Tryd.prog 51 1 = some (1, 34) := by kernel_rfl
@[simp] theorem ty_field51_2 : fieldOf Tryd.prog 51 2 = some (2, 49) := by kernel_rfl
@[simp] theorem ty_field51_3 : fieldOf Tryd.prog 51 3 = some (3, 50) := by kernel_rfl
@[simp] theorem ty_field51_4 : fieldOf Tryd.prog 51 4 = some (4, 43) := by kernel_rfl
@[simp] theorem ty_field51_5 : fieldOf Tryd.prog 51 5 = some (13, 39) := by kernel_rfl
@[simp] theorem ty_cells52 : Tryd.prog.cellsOf 52 = 14 := by kernel_rfl
@[simp] theorem ty_bytes52 : Tryd.prog.bytesOf 52 = 272 := by kernel_rfl
@[simp] theorem ty_zeroD52 : zeroD Tryd.prog 52 = some [.nils, .nils, .nils, .nils, .int .i64 0, .str [], .nils, .nils, .int .i64 0, .str [], .int .i64 0, .nils, .nils, .nils] := by kernel_rfl
@[simp] theorem ty_zeroV52 : zeroValD Tryd.prog 52 = some (.agg [.nils, .nils, .nils, .nils, .int .i64 0, .str [], .nils, .nils, .int .i64 0, .str [], .int .i64 0, .nils, .nils, .nils]) := by kernel_rfl
@[simp] theorem ty_isStruct52 : isStruct Tryd.prog 52 = true := by kernel_rfl
@[simp] theorem ty_field52_0 : fieldOf Tryd.prog 52 0 = some (0, 37) := by kernel_rfl
@[simp] theorem ty_field52_1 : fieldOf Tryd.prog 52 1 = some (1, 34) := by kernel_rfl
@[simp] theorem ty_field52_2 : fieldOf Tryd.prog 52 2 = some (2, 49) := by kernel_rfl
@[simp] theorem ty_field52_3 : fieldOf Tryd.prog 52 3 = some (3, 50) := by kernel_rfl
@[simp] theorem ty_field52_4 : fieldOf Tryd.prog 52 4 = some (4, 43) := by kernel_rfl
@[simp] theorem ty_field52_5 : fieldOf Tryd.prog 52 5 = some (13, 39) := by kernel_rfl
@[simp] theorem ty_cells53 : Tryd.prog.cellsOf 53 = 1 := by kernel_rfl
@[simp] theorem ty_bytes53 : Tryd.prog.bytesOf 53 = 8 := by kernel_rfl
@[simp] theorem ty_zeroD53 : zeroD Tryd.prog 53 = none := by kernel_rfl
@[simp] theorem ty_zeroC53 : zeroC Tryd.prog 53 = some [.undef] := by kernel_rfl
@[simp] theorem ty_zeroO53 : zeroO Tryd.prog 53 = some [.undef] := by kernel_rfl
@[simp] theorem ty_cells54 : Tryd.prog.cellsOf 54 = 1 := by kernel_rfl
@[simp] theorem ty_bytes54 : Tryd.prog.bytesOf 54 = 8 := by kernel_rfl
@[simp] theorem ty_zeroD54 : zeroD Tryd.prog 54 = none := by kernel_rfl
@[simp] theorem ty_zeroC54 : zeroC Tryd.prog 54 = some [.undef] := by kernel_rfl
@[simp] theorem ty_zeroO54 : zeroO Tryd.prog 54 = some [.undef] := by kernel_rfl
@[simp] theorem ty_cells55 : Tryd.prog.cellsOf 55 = 1 := by kernel_rfl
@[simp] theorem ty_bytes55 : Tryd.prog.bytesOf 55 = 8 := by kernel_rfl
@[simp] theorem ty_zeroD55 : zeroD Tryd.prog 55 = none := by kernel_rfl
@[simp] theorem ty_zeroC55 : zeroC Tryd.prog 55 = some [.undef] := by kernel_rfl
@[simp] theorem ty_zeroO55 : zeroO Tryd.prog 55 = some [.undef] := by kernel_rfl
@[simp] theorem ty_cells56 : Tryd.prog.cellsOf 56 = 12 := by kernel_rfl
@[simp] theorem ty_bytes56 : Tryd.prog.bytesOf 56 = 216 := by kernel_rfl
@[simp] theorem ty_zeroD56 : zeroD Tryd.prog 56 = some [.str [], .int .i64 0, .str [], .nils, .nils, .int .i64 0, .str [], .int .i64 0, .nils, .nils, .nils, .nils] := by kernel_rfl
@[simp] theorem ty_zeroV56 : zeroValD Tryd.prog 56 = some (.agg [.str [], .int .i64 0, .str [], .nils, .nils, .int .i64 0, .str [], .int .i64 0, .nils, .nils, .nils, .nils]) := by kernel_rfl
@[simp] theorem ty_isStruct56 : isStruct Tryd.prog 56 = true := by kernel_rfl
@[simp] theorem ty_field56_0 : fieldOf Tryd.prog 56 0 = some (0, 9) := by kernel_rfl
@[simp] theorem ty_field56_1 : fieldOf Tryd.prog 56 1 = some (1, 43) := by kernel_rfl
@[simp] theorem ty_field56_2 : fieldOf Tryd.prog 56 2 = some (10, 34) := by kernel_rfl
@[simp] theorem ty_field56_3 : fieldOf Tryd.prog 56 3 = some (11, 27) := by kernel_rfl
@[simp] theorem ty_cells57 : Tryd.prog.cellsOf 57 = 12 := by kernel_rfl
@[simp] theorem ty_bytes57 : Tryd.prog.bytesOf 57 = 216 := by kernel_rfl
@[simp] theorem ty_zeroD57 : zeroD Tryd.prog 57 = some [.str [], .int .i64 0, .str [], .nils, .nils, .int .i64 0, .str [], .int .i64 0, .nils, .nils, .nils, .nils] := by kernel_rfl
@[simp] theorem ty_zeroV57 : zeroValD Tryd.prog 57 = some (.agg [.str [], .int .i64 0, .str [], .nils, .nils, .int .i64 0, .str [], .int .i64 0, .nils, .nils, .nils, .nils]) := by kernel_rfl
@[simp] theorem ty_isStruct57 : isStruct Tryd.prog 57 = true := by kernel_rfl
@[simp] theorem ty_field57_0 : fieldOf Tryd.prog 57 0 = some (0, 9) := by kernel_rfl
@[simp] theorem ty_field57_1 : fieldOf Tryd.prog 57 1 = some (1, 43) := by kernel_rfl
@[simp] theorem ty_field57_2 : fieldOf Tryd.prog 57 2 = some (10, 34) := by kernel_rfl
@[simp] theorem ty_field57_3 : fieldOf Tryd.prog 57 3 = some (11, 27) := by kernel_rfl
@[simp] theorem ty_cells58 : Tryd.prog.cellsOf 58 = 1 := by kernel_rfl
@[simp] theorem ty_bytes58 : Tryd.prog.bytesOf 58 = 8 := by kernel_rfl
@[simp] theorem ty_zeroD58 : zeroD Tryd.prog 58 = none := by kernel_rfl
@[simp] theorem ty_zeroC58 : zeroC Tryd.prog 58 = some [.undef] := by kernel_rfl
@[simp] theorem ty_zeroO58 : zeroO Tryd.prog 58 = some [.undef] := by kernel_rfl
@[simp] theorem ty_cells59 : Tryd.prog.cellsOf 59 = 1 := by kernel_rfl
@[simp] theorem ty_bytes59 : Tryd.prog.bytesOf 59 = 8 := by kernel_rfl
@[simp] theorem ty_zeroD59 : zeroD Tryd.prog 59 = none := by kernel_rfl
@[simp] theorem ty_zeroC59 : zeroC Tryd.prog 59 = some [.undef] := by kernel_rfl
@[simp] theorem ty_zeroO59 : zeroO Tryd.prog 59 = some [.undef] := by kernel_rfl
@[simp] theorem ty_cells60 : Tryd.prog.cellsOf 60 = 1 := by kernel_rfl
@[simp] theorem ty_bytes60 : Tryd.prog.bytesOf 60 = 8 := by kernel_rfl
@[simp] theorem ty_zeroD60 : zeroD Tryd.prog 60 = some [.int .i64 0] := by kernel_rfl
@[simp] theorem ty_zeroV60 : zeroValD Tryd.prog 60 = some (.int .i64 0) := by kernel_rfl
@[simp] theorem ty_cells61 : Tryd.prog.cellsOf 61 = 1 := by kernel_rfl
@[simp] theorem ty_bytes61 : Tryd.prog.bytesOf 61 = 24 := by kernel_rfl
@[simp] theorem ty_zeroD61 : zeroD Tryd.prog 61 = some [.nils] := by kernel_rfl
@[simp] theorem ty_zeroV61 : zeroValD Tryd.prog 61 = some (.nils) := by kernel_rfl
@[simp] theorem ty_elem61 : elemOfD Tryd.prog 61 = some 65 := by kernel_rfl
@[simp] theorem ty_cells62 : Tryd.prog.cellsOf 62 = 1 := by kernel_rfl
@[simp] theorem ty_bytes62 : Tryd.prog.bytesOf 62 = 24 := by kernel_rfl
@[simp] theorem ty_zeroD62 : zeroD Tryd.prog 62 = some [.nils] := by kernel_rfl
@[simp] theorem ty_zeroV62 : zeroValD Tryd.prog 62 = some (.nils) := by kernel_rfl
@[simp] theorem ty_elem62 : elemOfD Tryd.prog 62 = some 152 := by kernel_rfl
@[simp] theorem ty_cells63 : Tryd.prog.cellsOf 63 = 1 := by kernel_rfl
@[simp] theorem ty_bytes63 : Tryd.prog.bytesOf 63 = 24 := by kernel_rfl
@[simp] theorem ty_zeroD63 : zeroD Tryd.prog 63 = some [.nils] := by kernel_rfl
@[simp] theorem ty_zeroV63 : zeroValD Tryd.prog 63 = some (.nils) := by kernel_rfl
@[simp] theorem ty_elem63 : elemOfD Tryd.prog 63 = some 154 := by kernel_rfl
@[simp] theorem ty_cells64 : Tryd.prog.cellsOf 64 = 7 := by kernel_rfl
@[simp] theorem ty_bytes64 : Tryd.prog.bytesOf 64 = 128 := by kernel_rfl
@[simp] theorem ty_zeroD64 : zeroD Tryd.prog 64 = some [.int .i64 0, .str [], .int .i64 0, .nils, .nils, .nils, .nils] := by kernel_rfl
@[simp] theorem ty_zeroV64 : zeroValD Tryd.prog 64 = some (.agg [.int .i64 0, .str [], .int .i64 0, .nils, .nils, .nils, .nils]) := by kernel_rfl
@[simp] theorem ty_isStruct64 : isStruct Tryd.prog 64 = true := by kernel_rfl
@[simp] theorem ty_field64_0 : fieldOf Tryd.prog 64 0 = some (0, 60) := by kernel_rfl
@[simp] theorem ty_field64_1 : fieldOf Tryd.prog 64 1 = some (1, 9) := by kernel_rfl
@[simp] theorem ty_field64_2 : fieldOf Tryd.prog 64 2 = some (2, 3) := by kernel_rfl
@[simp] theorem ty_field64_3 : fieldOf Tryd.prog 64 3 = some (3, 61) := by kernel_rfl
@[simp] theorem ty_field64_4 : fieldOf Tryd.prog 64 4 = some (4, 62) := by kernel_rfl
@[simp] theorem ty_field64_5 : fieldOf Tryd.prog 64 5 = some (5, 63) := by kernel_rfl
@[simp] theorem ty_field64_6 : fieldOf Tryd.prog 64 6 = some (6, 36) := by kernel_rfl
@[simp] theorem ty_cells65 : Tryd.prog.cellsOf 65 = 7 := by kernel_rfl
@[simp] theorem ty_bytes65 : Tryd.prog.bytesOf 65 = 128 := by kernel_rfl
@[simp] theorem ty_zeroD65 : zeroD Tryd.prog 65 = some [.int .i64 0, .str [], .int .i64 0, .nils, .nils, .nils, .nils] := by kernel_rfl
@[simp] theorem ty_zeroV65 : zeroValD Tryd.prog 65 = some (.agg [.int .i64 0, .str [], .int .i64 0, .nils, .nils, .nils, .nils]) := by kernel_rfl
@[simp] theorem ty_isStruct65 : isStruct Tryd.prog 65 = true := by kernel_rfl
@[simp] theorem ty_field65_0 : fieldOf Tryd.prog 65 0 = some (0, 60) := by kernel_rfl
@[simp] theorem ty_field65_1 : fieldOf Tryd.prog 65 1 = some (1, 9) := by kernel_rfl
@[simp] theorem ty_field65_2 : fieldOf Tryd.prog 65 2 = some (2, 3) := by kernel_rfl
@[simp] theorem ty_field65_3 : fieldOf Tryd.prog 65 3 = some (3, 61) := by kernel_rfl
@[simp] theorem ty_field65_4 : fieldOf Tryd.prog 65 4 = some (4, 62) := by kernel_rfl
@[simp] theorem ty_field65_5 : fieldOf Tryd.prog 65 5 = some (5, 63) := by kernel_rfl
@[simp] theorem ty_field65_6 : fieldOf Tryd.prog 65 6 = some (6, 36) := by kernel_rfl
@[simp] theorem ty_cells66 : Tryd.prog.cellsOf 66 = 1 := by kernel_rfl
@[simp] theorem ty_bytes66 : Tryd.prog.bytesOf 66 = 8 := by kernel_rfl
@[simp] theorem ty_zeroD66 : zeroD Tryd.prog 66 = some [.int .i64 0] := by kernel_rfl
@[simp] theorem ty_zeroV66 : zeroValD Tryd.prog 66 = some (.int .i64 0) := by kernel_rfl
@[simp] theorem ty_cells67 : Tryd.prog.cellsOf 67 = 25 := by kernel_rfl
@[simp] theorem ty_bytes67 : Tryd.prog.bytesOf 67 = 456 := by kernel_rfl
@[simp] theorem ty_zeroD67 : zeroD Tryd.prog 67 = some [.str [], .nils, .int .i64 0, .str [], .int .i64 0, .nils, .nils, .nils, .nils, .int .i64 0, .bool false, .nils, .nils, .nils, .nils, .int .i64 0, .str [], .nils, .nils, .int .i64 0, .str [], .int .i64 0, .nils, .nils, .nils] := by kernel_rfl
@[simp] theorem ty_zeroV67 : zeroValD Tryd.prog 67 = some (.agg [.str [], .nils, .int .i64 0, .str [], .int .i64 0, .nils, .nils, .nils, .nils, .int .i64 0, .bool false, .nils, .nils, .nils, .nils, .int .i64 0, .str [], .nils, .nils, .int .i64 0, .str [], .int .i64 0, .nils, .nils, .nils]) := by kernel_rfl
@[simp] theorem ty_isStruct67 : isStruct Tryd.prog 67 = true := by kernel_rfl
@[simp] theorem ty_field67_0 : fieldOf Tryd.prog 67 0 = some (0, 9) := by kernel_rfl
@[simp] theorem ty_field67_1 : fieldOf Tryd.prog 67 1 = some (1, 37) := by kernel_rfl
@[simp] theorem ty_field67_2 : fieldOf Tryd.prog 67 2 = some (2, 65) := by kernel_rfl
@[simp] theorem ty_field67_3 : fieldOf Tryd.prog 67 3 = some (9, 66) := by kernel_rfl
@[simp] theorem ty_field67_4 : fieldOf Tryd.prog 67 4 = some (10, 4) := by kernel_rfl
@[simp] theorem ty_field67_5 : fieldOf Tryd.prog 67 5 = some (11, 52) := by kernel_rfl
@[simp] theorem ty_cells68 : Tryd.prog.cellsOf 68 = 25 := by kernel_rfl
@[simp] theorem ty_bytes68 : Tryd.prog.bytesOf 68 = 456 := by kernel_rfl
@[simp] theorem ty_zeroD68 : zeroD Tryd.prog 68 = some [.str [], .nils, .int .i64 0, .str [], .int .i64 0, .nils, .nils, .nils, .nils, .int .i64 0, .bool false, .nils, .nils, .nils, .nils, .int .i64 0, .str [], .nils, .nils, .int .i64 0, .str [], .int .i64 0, .nils, .nils, .nils] := by kernel_rfl
@[simp] theorem ty_zeroV68 : zeroValD Tryd.prog 68 = some (.agg [.str [], .nils, .int .i64 0, .str [], .int .i64 0, .nils, .nils, .nils, .nils, .int .i64 0, .bool false, .nils, .nils, .nils, .nils, .int .i64 0, .str [], .nils, .nils, .int .i64 0, .str [], .int .i64 0, .nils, .nils, .nils]) := by kernel_rfl
@[simp] theorem ty_isStruct68 : isStruct Tryd.prog 68 = true := by kernel_rfl
@[simp] theorem ty_field68_0 : fieldOf Tryd.prog 68 0 = some (0, 9) := by kernel_rfl
@[simp] theorem ty_field68_1 : fieldOf Tryd.prog 68 1 = some (1, 37) := by kernel_rfl
@[simp] theorem ty_field68_2 : fieldOf Tryd.prog 68 2 = some (2, 65) := by kernel_rfl
@[simp] theorem ty_field68_3 : fieldOf Tryd.prog 68 3 = some (9, 66) := by kernel_rfl
@[simp] theorem ty_field68_4 : fieldOf Tryd.prog 68 4 = some (10, 4) := by kernel_rfl
@[simp] theorem ty_field68_5 : fieldOf Tryd.prog 68 5 = some (11, 52) := by kernel_rfl
@[simp] theorem ty_cells70 : Tryd.prog.cellsOf 70 = 1 := by kernel_rfl
@[simp] theorem ty_bytes70 : Tryd.prog.bytesOf 70 = 8 := by kernel_rfl
@[simp] theorem ty_zeroD70 : zeroD Tryd.prog 70 = none := by kernel_rfl
@[simp] theorem ty_zeroC70 : zeroC Tryd.prog 70 = some [.undef] := by kernel_rfl
@[simp] theorem ty_zeroO70 : zeroO Tryd.prog 70 = some [.undef] := by kernel_rfl
@[simp] theorem ty_cells71 : Tryd.prog.cellsOf 71 = 1 := by kernel_rfl
@[simp] theorem ty_bytes71 : Tryd.prog.bytesOf 71 = 8 := by kernel_rfl
@[simp] theorem ty_zeroD71 : zeroD Tryd.prog 71 = none := by kernel_rfl
@[simp] theorem ty_zeroC71 : zeroC Tryd.prog 71 = some [.undef] := by kernel_rfl
@[simp] theorem ty_zeroO71 : zeroO Tryd.prog 71 = some [.undef] := by kernel_rfl
@[simp] theorem ty_cells72 : Tryd.prog.cellsOf 72 = 1 := by kernel_rfl
@[simp] theorem ty_bytes72 : Tryd.prog.bytesOf 72 = 8 := by kernel_rfl
@[simp] theorem ty_zeroD72 : zeroD Tryd.prog 72 = none := by kernel_rfl
@[simp] theorem ty_zeroC72 : zeroC Tryd.prog 72 = some [.undef] := by kernel_rfl
@[simp] theorem ty_zeroO72 : zeroO Tryd.prog 72 = some [.undef] := by kernel_rfl
@[simp] theorem ty_cells73 : Tryd.prog.cellsOf 73 = 1 := by kernel_rfl
@[simp] theorem ty_bytes73 : Tryd.prog.bytesOf 73 = 24 := by kernel_rfl
@[simp] theorem ty_zeroD73 : zeroD Tryd.prog 73 = some [.nils] := by kernel_rfl
@[simp] theorem ty_zeroV73 : zeroValD Tryd.prog 73 = some (.nils) := by kernel_rfl
@[simp] theorem ty_elem73 : elemOfD Tryd.prog 73 = some 77 := by kernel_rfl
@[simp] theorem ty_cells74 : Tryd.prog.cellsOf 74 = 3 := by kernel_rfl
@[simp] theorem ty_bytes74 : Tryd.prog.bytesOf 74 = 56 := by kernel_rfl
@[simp] theorem ty_zeroD74 : zeroD Tryd.prog 74 = some [.str [], .str [], .nils] := by kernel_rfl
@[simp] theorem ty_zeroV74 : zeroValD Tryd.prog 74 = some (.agg [.str [], .str [], .nils]) := by kernel_rfl
@[simp] theorem ty_isStruct74 : isStruct Tryd.prog 74 = true := by kernel_rfl
@[simp] theorem ty_field74_0 : fieldOf Tryd.prog 74 0 = some (0, 9) := by kernel_rfl
@[simp] theorem ty_field74_1 : fieldOf Tryd.prog 74 1 = some (1, 9) := by kernel_rfl
@[simp] theorem ty_field74_2 : fieldOf Tryd.prog 74 2 = some (2, 73) := by kernel_rfl
@[simp] theorem ty_cells75 : Tryd.prog.cellsOf 75 = 3 := by kernel_rfl
@[simp] theorem ty_bytes75 : Tryd.prog.bytesOf 75 = 56 := by kernel_rfl
@[simp] theorem ty_zeroD75 : zeroD Tryd.prog 75 = some [.str [], .str [], .nils] := by kernel_rfl
@[simp] theorem ty_zeroV75 : zeroValD Tryd.prog 75 = some (.agg [.str [], .str [], .nils]) := by kernel_rfl
@[simp] theorem ty_isStruct75 : isStruct Tryd.prog 75 = true := by kernel_rfl
@[simp] theorem ty_field75_0 : fieldOf Tryd.prog 75 0 = some (0, 9) := by kernel_rfl
@[simp] theorem ty_field75_1 : fieldOf Tryd.prog 75 1 = some (1, 9) := by kernel_rfl
@[simp] theorem ty_field75_2 : fieldOf Tryd.prog 75 2 = some (2, 73) := by kernel_rfl
@[simp] theorem ty_cells76 : Tryd.prog.cellsOf 76 = 10 := by kernel_rfl
@[simp] theorem ty_bytes76 : Tryd.prog.bytesOf 76 = 168 := by kernel_rfl
@[simp] theorem ty_zeroD76 : zeroD Tryd.prog 76 = some [.str [], .int .i64 0, .str [], .nils, .nils, .int .i64 0, .str [], .int .i64 0, .nils, .nils] := by kernel_rfl
@[simp] theorem ty_zeroV76 : zeroValD Tryd.prog 76 = some (.agg [.str [], .int .i64 0, .str [], .nils, .nils, .int .i64 0, .str [], .int .i64 0, .nils, .nils]) := by kernel_rfl
@[simp] theorem ty_isStruct76 : isStruct Tryd.prog 76 = true := by kernel_rfl
@[simp] theorem ty_field76_0 : fieldOf Tryd.prog 76 0 = some (0, 9) := by kernel_rfl
@[simp] theorem ty_field76_1 : fieldOf Tryd.prog 76 1 = some (1, 43) := by kernel_rfl
@[simp] theorem ty_cells77 : Tryd.prog.cellsOf 77 = 10 := by kernel_rfl
@[simp] theorem ty_bytes77 : Tryd.prog.bytesOf 77 = 168 := by kernel_rfl
@[simp] theorem ty_zeroD77 : zeroD Tryd.prog 77 = some [.str [], .int .i64 0, .str [], .nils, .nils, .int .i64 0, .str [], .int .i64 0, .nils, .nils] := by kernel_rfl
@[simp] theorem ty_zeroV77 : zeroValD Tryd.prog 77 = some (.agg [.str [], .int .i64 0, .str [], .nils, .nils, .int .i64 0, .str [], .int .i64 0, .nils, .nils]) := by kernel_rfl
@[simp] theorem ty_isStruct77 : isStruct Tryd.prog 77 = true := by kernel_rfl
@[simp] theorem ty_field77_0 : fieldOf Tryd.prog 77 0 = some (0, 9) := by kernel_rfl
@[simp] theorem ty_field77_1 : fieldOf Tryd.prog 77 1 = some (1, 43) := by kernel_rfl
@[simp] theorem ty_cells78 : Tryd.prog.cellsOf 78 = 6 := by kernel_rfl
@[simp] theorem ty_bytes78 : Tryd.prog.bytesOf 78 = 144 := by kernel_rfl
@[simp] theorem ty_zeroD78 : zeroD Tryd.prog 78 = some [.nils, .nils, .nils, .nils, .nils, .nils] := by kernel_rfl
@[simp] theorem ty_zeroV78 : zeroValD Tryd.prog 78 = some (.agg [.nils, .nils, .nils, .nils, .nils, .nils]) := by kernel_rfl
@[simp] theorem ty_isStruct78 : isStruct Tryd.prog 78 = true := by kernel_rfl
@[simp] theorem ty_field78_0 : fieldOf Tryd.prog 78 0 = some (0, 29) := by kernel_rfl
@[simp] theorem ty_cells79 : Tryd.prog.cellsOf 79 = 6 := by kernel_rfl
@[simp] theorem ty_bytes79 : Tryd.prog.bytesOf 79 = 144 := by kernel_rfl
@[simp] theorem ty_zeroD79 : zeroD Tryd.prog 79 = some [.nils, .nils, .nils, .nils, .nils, .nils] := by kernel_rfl
@[simp] theorem ty_zeroV79 : zeroValD Tryd.prog 79 = some (.agg [.nils, .nils, .nils, .nils, .nils, .nils]) := by kernel_rfl
@[simp] theorem ty_isStruct79 : isStruct Tryd.prog 79 = true := by kernel_rfl
@[simp] theorem ty_field79_0 : fieldOf Tryd.prog 79 0 = some (0, 29) := by kernel_rfl
@[simp] theorem ty_cells80 : Tryd.prog.cellsOf 80 = 6 := by kernel_rfl
@[simp] theorem ty_bytes80 : Tryd.prog.bytesOf 80 = 144 := by kernel_rfl
@[simp] theorem ty_zeroD80 : zeroD Tryd.prog 80 = some [.nils, .nils, .nils, .nils, .nils, .nils] := by kernel_rfl
@[simp] theorem ty_zeroV80 : zeroValD Tryd.prog 80 = some (.agg [.nils, .nils, .nils, .nils, .nils, .nils]) := by kernel_rfl
@[simp] theorem ty_isStruct80 : isStruct Tryd.prog 80 = true := by kernel_rfl
@[simp] theorem ty_field80_0 : fieldOf Tryd.prog 80 0 = some (0, 79) := by kernel_rfl
@[simp] theorem ty_cells81 : Tryd.prog.cellsOf 81 = 6 := by kernel_rfl
@[simp] theorem ty_bytes81 : Tryd.prog.bytesOf 81 = 144 := by kernel_rfl
@[simp] theorem ty_zeroD81 : zeroD Tryd.prog 81 = some [.nils, .nils, .nils, .nils, .nils, .nils] := by kernel_rfl
@[simp] theorem ty_zeroV81 : zeroValD Tryd.prog 81 = some (.agg [.nils, .nils, .nils, .nils, .nils, .nils]) := by kernel_rfl
@[simp] theorem ty_isStruct81 : isStruct Tryd.prog 81 = true := by kernel_rfl
@[simp] theorem ty_field81_0 : fieldOf Tryd.prog 81 0 = some (0, 79) := by kernel_rfl
@[simp] theorem ty_cells82 : Tryd.prog.cellsOf 82 = 1 := by kernel_rfl
@[simp] theorem ty_bytes82 : Tryd.prog.bytesOf 82 = 8 := by kernel_rfl
@[simp] theorem ty_zeroD82 : zeroD Tryd.prog 82 = none := by kernel_rfl
@[simp] theorem ty_zeroC82 : zeroC Tryd.prog 82 = some [.undef] := by kernel_rfl
@[simp] theorem ty_zeroO82 : zeroO Tryd.prog 82 = some [.undef] := by kernel_rfl
@[simp] theorem ty_cells83 : Tryd.prog.cellsOf 83 = 1 := by kernel_rfl
@[simp] theorem ty_bytes83 : Tryd.prog.bytesOf 83 = 8 := by kernel_rfl
@[simp] theorem ty_zeroD83 : zeroD Tryd.prog 83 = none := by kernel_rfl
@[simp] theorem ty_zeroC83 : zeroC Tryd.prog 83 = some [.undef] := by kernel_rfl
@[simp] theorem ty_zeroO83 : zeroO Tryd.prog 83 = some [.undef] := by kernel_rfl
@[simp] theorem ty_cells85 : Tryd.prog.cellsOf 85 = 1 := by kernel_rfl
@[simp] theorem ty_bytes85 : Tryd.prog.bytesOf 85 = 8 := by kernel_rfl
@[simp] theorem ty_zeroD85 : zeroD Tryd.prog 85 = none := by kernel_rfl
@[simp] theorem ty_zeroC85 : zeroC Tryd.prog 85 = some [.undef] := by kernel_rfl
@[simp] theorem ty_zeroO85 : zeroO Tryd.prog 85 = some [.undef] := by kernel_rfl
@[simp] theorem ty_cells86 : Tryd.prog.cellsOf 86 = 1 := by kernel_rfl
@[simp] theorem ty_bytes86 : Tryd.prog.bytesOf 86 = 8 := by kernel_rfl
@[simp] theorem ty_zeroD86 : zeroD Tryd.prog 86 = none := by kernel_rfl
@[simp] theorem ty_zeroC86 : zeroC Tryd.prog 86 = some [.undef] := by kernel_rfl
@[simp] theorem ty_zeroO86 : zeroO Tryd.prog 86 = some [.undef] := by kernel_rfl
@[simp] theorem ty_cells87 : Tryd.prog.cellsOf 87 = 1 := by kernel_rfl
@[simp] theorem ty_bytes87 : Tryd.prog.bytesOf 87 = 8 := by kernel_rfl
@[simp] theorem ty_zeroD87 : zeroD Tryd.prog 87 = none := by kernel_rfl
@[simp] theorem ty_zeroC87 : zeroC Tryd.prog 87 = some [.undef] := by kernel_rfl
@[simp] theorem ty_zeroO87 : zeroO Tryd.prog 87 = some [.undef] := by kernel_rfl
@[simp] theorem ty_cells88 : Tryd.prog.cellsOf 88 = 1 := by kernel_rfl
@[simp] theorem ty_bytes88 : Tryd.prog.bytesOf 88 = 8 := by kernel_rfl
@[simp] theorem ty_zeroD88 : zeroD Tryd.prog 88 = none := by kernel_rfl
@[simp] theorem ty_zeroC88 : zeroC Tryd.prog 88 = some [.undef] := by kernel_rfl
@[simp] theorem ty_zeroO88 : zeroO Tryd.prog 88 = some [.undef] := by kernel_rfl
@[simp] theorem ty_cells89 : Tryd.prog.cellsOf 89 = 1 := by kernel_rfl
@[simp] theorem ty_bytes89 : Tryd.prog.bytesOf 89 = 8 := by kernel_rfl
@[simp] theorem ty_zeroD89 : zeroD Tryd.prog 89 = none := by kernel_rfl
@[simp] theorem ty_zeroC89 : zeroC Tryd.prog 89 = some [.undef] := by kernel_rfl
@[simp] theorem ty_zeroO89 : zeroO Tryd.prog 89 = some [.undef] := by kernel_rfl
@[simp] theorem ty_cells90 : Tryd.prog.cellsOf 90 = 1 := by kernel_rfl
@[simp] theorem ty_bytes90 : Tryd.prog.bytesOf 90 = 8 := by kernel_rfl
@[simp] theorem ty_zeroD90 : zeroD Tryd.prog 90 = none := by kernel_rfl
@[simp] theorem ty_zeroC90 : zeroC Tryd.prog 90 = some [.undef] := by kernel_rfl
@[simp] theorem ty_zeroO90 : zeroO Tryd.prog 90 = some [.undef] := by kernel_rfl
@[simp] theorem ty_cells91 : Tryd.prog.cellsOf 91 = 1 := by kernel_rfl
@[simp] theorem ty_bytes91 : Tryd.prog.bytesOf 91 = 8 := by kernel_rfl
@[simp] theorem ty_zeroD91 : zeroD Tryd.prog 91 = none := by kernel_rfl
@[simp] theorem ty_zeroC91 : zeroC Tryd.prog 91 = some [.undef] := by kernel_rfl
@[simp] theorem ty_zeroO91 : zeroO Tryd.prog 91 = some [.undef] := by kernel_rfl
@[simp] theorem ty_cells93 : Tryd.prog.cellsOf 93 = 1 := by kernel_rfl
@[simp] theorem ty_bytes93 : Tryd.prog.bytesOf 93 = 8 := by kernel_rfl
@[simp] theorem ty_zeroD93 : zeroD Tryd.prog 93 = none := by kernel_rfl
@[simp] theorem ty_zeroC93 : zeroC Tryd.prog 93 = some [.undef] := by kernel_rfl
@[simp] theorem ty_zeroO93 : zeroO Tryd.prog 93 = some [.undef] := by kernel_rfl
@[simp] theorem ty_cells94 : Tryd.prog.cellsOf 94 = 1 := by kernel_rfl
@[simp] theorem ty_bytes94 : Tryd.prog.bytesOf 94 = 8 := by kernel_rfl
@[simp] theorem ty_zeroD94 : zeroD Tryd.prog 94 = none := by kernel_rfl
@[simp] theorem ty_zeroC94 : zeroC Tryd.prog 94 = some [.undef] := by kernel_rfl
@[simp] theorem ty_zeroO94 : zeroO Tryd.prog 94 = some [.undef] := by kernel_rfl
@[simp] theorem ty_cells95 : Tryd.prog.cellsOf 95 = 1 := by kernel_rfl
@[simp] theorem ty_bytes95 : Tryd.prog.bytesOf 95 = 8 := by kernel_rfl
@[simp] theorem ty_zeroD95 : zeroD Tryd.prog 95 = none := by kernel_rfl
@[simp] theorem ty_zeroC95 : zeroC Tryd.prog 95 = some [.undef] := by kernel_rfl
@[simp] theorem ty_zeroO95 : zeroO Tryd.prog 95 = some [.undef] := by kernel_rfl
@[simp] theorem ty_cells96 : Tryd.prog.cellsOf 96 = 1 := by kernel_rfl
@[simp] theorem ty_bytes96 : Tryd.prog.bytesOf 96 = 8 := by kernel_rfl
@[simp] theorem ty_zeroD96 : zeroD Tryd.prog 96 = none := by kernel_rfl
@[simp] theorem ty_zeroC96 : zeroC Tryd.prog 96 = some [.undef] := by kernel_rfl
@[simp] theorem ty_zeroO96 : zeroO Tryd.prog 96 = some [.undef] := by kernel_rfl
@[simp] theorem ty_cells97 : Tryd.prog.cellsOf 97 = 1 := by kernel_rfl
@[simp] theorem ty_bytes97 : Tryd.prog.bytesOf 97 = 8 := by kernel_rfl
@[simp] theorem ty_zeroD97 : zeroD Tryd.prog 97 = none := by kernel_rfl
@[simp] theorem ty_zeroC97 : zeroC Tryd.prog 97 = some [.undef] := by kernel_rfl
@[simp] theorem ty_zeroO97 : zeroO Tryd.prog 97 = some [.undef] := by kernel_rfl
@[simp] theorem ty_cells98 : Tryd.prog.cellsOf 98 = 1 := by kernel_rfl
@[simp] theorem ty_bytes98 : Tryd.prog.bytesOf 98 = 8 := by kernel_rfl
@[simp] theorem ty_zeroD98 : zeroD Tryd.prog 98 = none := by kernel_rfl
@[simp] theorem ty_zeroC98 : zeroC Tryd.prog 98 = some [.undef] := by kernel_rfl
@[simp] theorem ty_zeroO98 : zeroO Tryd.prog 98 = some [.undef] := by kernel_rfl
@[simp] theorem ty_cells99 : Tryd.prog.cellsOf 99 = 1 := by kernel_rfl
@[simp] theorem ty_bytes99 : Tryd.prog.bytesOf 99 = 8 := by kernel_rfl
@[simp] theorem ty_zeroD99 : zeroD Tryd.prog 99 = none := by kernel_rfl
@[simp] theorem ty_zeroC99 : zeroC Tryd.prog 99 = some [.undef] := by kernel_rfl
@[simp] theorem ty_zeroO99 : zeroO Tryd.prog 99 = some [.undef] := by kernel_rfl
@[simp] theorem ty_map99 : mapOf Tryd.prog 99 = some (9, 4) := by kernel_rfl
@[simp] theorem ty_cells100 : Tryd.prog.cellsOf 100 = 1 := by kernel_rfl
@[simp] theorem ty_bytes100 : Tryd.prog.bytesOf 100 = 8 := by kernel_rfl
@[simp] theorem ty_zeroD100 : zeroD Tryd.prog 100 = none := by kernel_rfl
@[simp] theorem ty_zeroC100 : zeroC Tryd.prog 100 = some [.undef] := by kernel_rfl
@[simp] theorem ty_zeroO100 : zeroO Tryd.prog 100 = some [.undef] := by kernel_rfl
@[simp] theorem ty_cells101 : Tryd.prog.cellsOf 101 = 1 := by kernel_rfl
@[simp] theorem ty_bytes101 : Tryd.prog.bytesOf 101 = 8 := by kernel_rfl
@[simp] theorem ty_zeroD101 : zeroD Tryd.prog 101 = none := by kernel_rfl
@[simp] theorem ty_zeroC101 : zeroC Tryd.prog 101 = some [.undef] := by kernel_rfl
@[simp] theorem ty_zeroO101 : zeroO Tryd.prog 101 = some [.undef] := by kernel_rfl
@[simp] theorem ty_cells102 : Tryd.prog.cellsOf 102 = 1 := by kernel_rfl
@[simp] theorem ty_bytes102 : Tryd.prog.bytesOf 102 = 8 := by kernel_rfl
@[simp] theorem ty_zeroD102 : zeroD Tryd.prog 102 = none := by kernel_rfl
@[simp] theorem ty_zeroC102 : zeroC Tryd.prog 102 = some [.undef] := by kernel_rfl
@[simp] theorem ty_zeroO102 : zeroO Tryd.prog 102 = some [.undef] := by kernel_rfl
@[simp] theorem ty_cells103 : Tryd.prog.cellsOf 103 = 1 := by kernel_rfl
@[simp] theorem ty_bytes103 : Tryd.prog.bytesOf 103 = 8 := by kernel_rfl
@[simp] theorem ty_zeroD103 : zeroD Tryd.prog 103 = none := by kernel_rfl
@[simp] theorem ty_zeroC103 : zeroC Tryd.prog 103 = some [.undef] := by kernel_rfl
@[simp] theorem ty_zeroO103 : zeroO Tryd.prog 103 = some [.undef] := by kernel_rfl
@[simp] theorem ty_cells104 : Tryd.prog.cellsOf 104 = 1 := by kernel_rfl
@[simp] theorem ty_bytes104 : Tryd.prog.bytesOf 104 = 8 := by kernel_rfl
@[simp] theorem ty_zeroD104 : zeroD Tryd.prog 104 = none := by kernel_rfl
@[simp] theorem ty_zeroC104 : zeroC Tryd.prog 104 = some [.undef] := by kernel_rfl
@[simp] theorem ty_zeroO104 : zeroO Tryd.prog 104 = some [.undef] := by kernel_rfl
@[simp] theorem ty_cells105 : Tryd.prog.cellsOf 105 = 1 := by kernel_rfl
@[simp] theorem ty_bytes105 : Tryd.prog.bytesOf 105 = 8 := by kernel_rfl
@[simp] theorem ty_zeroD105 : zeroD Tryd.prog 105 = none := by kernel_rfl
@[simp] theorem ty_zeroC105 : zeroC Tryd.prog 105 = some [.undef] := by kernel_rfl
@[simp] theorem ty_zeroO105 : zeroO Tryd.prog 105 = some [.undef] := by kernel_rfl
@[simp] theorem ty_cells106 : Tryd.prog.cellsOf 106 = 1 := by kernel_rfl
@[simp] theorem ty_bytes106 : Tryd.prog.bytesOf 106 = 8 := by kernel_rfl
@[simp] theorem ty_zeroD106 : zeroD Tryd.prog 106 = none := by kernel_rfl
@[simp] theorem ty_zeroC106 : zeroC Tryd.prog 106 = some [.undef] := by kernel_rfl
@[simp] theorem ty_zeroO106 : zeroO Tryd.prog 106 = some [.undef] := by kernel_rfl
@[simp] theorem ty_cells107 : Tryd.prog.cellsOf 107 = 1 := by kernel_rfl
@[simp] theorem ty_bytes107 : Tryd.prog.bytesOf 107 = 8 := by kernel_rfl
@[simp] theorem ty_zeroD107 : zeroD Tryd.prog 107 = none := by kernel_rfl
@[simp] theorem ty_zeroC107 : zeroC Tryd.prog 107 = some [.undef] := by kernel_rfl
@[simp] theorem ty_zeroO107 : zeroO Tryd.prog 107 = some [.undef] := by kernel_rfl
@[simp] theorem ty_cells108 : Tryd.prog.cellsOf 108 = 1 := by kernel_rfl
@[simp] theorem ty_bytes108 : Tryd.prog.bytesOf 108 = 8 := by kernel_rfl
@[simp] theorem ty_zeroD108 : zeroD Tryd.prog 108 = none := by kernel_rfl
@[simp] theorem ty_zeroC108 : zeroC Tryd.prog 108 = some [.undef] := by kernel_rfl
@[simp] theorem ty_zeroO108 : zeroO Tryd.prog 108 = some [.undef] := by kernel_rfl
@[simp] theorem ty_cells110 : Tryd.prog.cellsOf 110 = 1 := by kernel_rfl
@[simp] theorem ty_bytes110 : Tryd.prog.bytesOf 110 = 8 := by kernel_rfl
@[simp] theorem ty_zeroD110 : zeroD Tryd.prog 110 = none := by kernel_rfl
@[simp] theorem ty_zeroC110 : zeroC Tryd.prog 110 = some [.undef] := by kernel_rfl
@[simp] theorem ty_zeroO110 : zeroO Tryd.prog 110 = some [.undef] := by kernel_rfl
@[simp] theorem ty_cells111 : Tryd.prog.cellsOf 111 = 1 := by kernel_rfl
@[simp] theorem ty_bytes111 : Tryd.prog.bytesOf 111 = 8 := by kernel_rfl
@[simp] theorem ty_zeroD111 : zeroD Tryd.prog 111 = none := by kernel_rfl
@[simp] theorem ty_zeroC111 : zeroC Tryd.prog 111 = some [.undef] := by kernel_rfl
@[simp] theorem ty_zeroO111 : zeroO Tryd.prog 111 = some [.undef] := by kernel_rfl
@[simp] theorem ty_cells112 : Tryd.prog.cellsOf 112 = 1 := by kernel_rfl
@[simp] theorem ty_bytes112 : Tryd.prog.bytesOf 112 = 8 := by kernel_rfl
@[simp] theorem ty_zeroD112 : zeroD Tryd.prog 112 = none := by kernel_rfl
@[simp] theorem ty_zeroC112 : zeroC Tryd.prog 112 = some [.undef] := by kernel_rfl
@[simp] theorem ty_zeroO112 : zeroO Tryd.prog 112 = some [.undef] := by kernel_rfl
@[simp] theorem ty_cells113 : Tryd.prog.cellsOf 113 = 1 := by kernel_rfl
@[simp] theorem ty_bytes113 : Tryd.prog.bytesOf 113 = 8 := by kernel_rfl
@[simp] theorem ty_zeroD113 : zeroD Tryd.prog 113 = none := by kernel_rfl
@[simp] theorem ty_zeroC113 : zeroC Tryd.prog 113 = some [.undef] := by kernel_rfl
@[simp] theorem ty_zeroO113 : zeroO Tryd.prog 113 = some [.undef] := by kernel_rfl
@[simp] theorem ty_map113 : mapOf Tryd.prog 113 = some (9, 43) := by kernel_rfl
@[simp] theorem ty_cells115 : Tryd.prog.cellsOf 115 = 1 := by kernel_rfl
@[simp] theorem ty_bytes115 : Tryd.prog.bytesOf 115 = 8 := by kernel_rfl
@[simp] theorem ty_zeroD115 : zeroD Tryd.prog 115 = none := by kernel_rfl
@[simp] theorem ty_zeroC115 : zeroC Tryd.prog 115 = some [.undef] := by kernel_rfl
@[simp] theorem ty_zeroO115 : zeroO Tryd.prog 115 = some [.undef] := by kernel_rfl
@[simp] theorem ty_cells116 : Tryd.prog.cellsOf 116 = 1 := by kernel_rfl
@[simp] theorem ty_bytes116 : Tryd.prog.bytesOf 116 = 8 := by kernel_rfl
@[simp] theorem ty_zeroD116 : zeroD Tryd.prog 116 = none := by kernel_rfl
@[simp] theorem ty_zeroC116 : zeroC Tryd.prog 116 = some [.undef] := by kernel_rfl
@[simp] theorem ty_zeroO116 : zeroO Tryd.prog 116 = some [.undef] := by kernel_rfl
@[simp] theorem ty_cells118 : Tryd.prog.cellsOf 118 = 1 := by kernel_rfl
@[simp] theorem ty_bytes118 : Tryd.prog.bytesOf 118 = 8 := by kernel_rfl
@[simp] theorem ty_zeroD118 : zeroD Tryd.prog 118 = none := by kernel_rfl
@[simp] theorem ty_zeroC118 : zeroC Tryd.prog 118 = some [.undef] := by kernel_rfl
@[simp] theorem ty_zeroO118 : zeroO Tryd.prog 118 = some [.undef] := by kernel_rfl
@[simp] theorem ty_cells119 : Tryd.prog.cellsOf 119 = 1 := by kernel_rfl
@[simp] theorem ty_bytes119 : Tryd.prog.bytesOf 119 = 8 := by kernel_rfl
@[simp] theorem ty_zeroD119 : zeroD Tryd.prog 119 = none := by kernel_rfl
@[simp] theorem ty_zeroC119 : zeroC Tryd.prog 119 = some [.undef] := by kernel_rfl
@[simp] theorem ty_zeroO119 : zeroO Tryd.prog 119 = some [.undef] := by kernel_rfl
@[simp] theorem ty_cells120 : Tryd.prog.cellsOf 120 = 1 := by kernel_rfl
@[simp] theorem ty_bytes120 : Tryd.prog.bytesOf 120 = 8 := by kernel_rfl
@[simp] theorem ty_zeroD120 : zeroD Tryd.prog 120 = none := by kernel_rfl
@[simp] theorem ty_zeroC120 : zeroC Tryd.prog 120 = some [.undef] := by kernel_rfl
@[simp] theorem ty_zeroO120 : zeroO Tryd.prog 120 = some [.undef] := by kernel_rfl
@[simp] theorem ty_cells121 : Tryd.prog.cellsOf 121 = 42 := by kernel_rfl
@[simp] theorem ty_bytes121 : Tryd.prog.bytesOf 121 = 672 := by kernel_rfl
@[simp] theorem ty_zeroD121 : zeroD Tryd.prog 121 = some [.str [], .str [], .str [], .str [], .str [], .str [], .str [], .str [], .str [], .str [], .str [], .str [], .str [], .str [], .str [], .str [], .str [], .str [], .str [], .str [], .str [], .str [], .str [], .str [], .str [], .str [], .str [], .str [], .str [], .str [], .str [], .str [], .str [], .str [], .str [], .str [], .str [], .str [], .str [], .str [], .str [], .str []] := by kernel_rfl
@[simp] theorem ty_cells122 : Tryd.prog.cellsOf 122 = 1 := by kernel_rfl
@[simp] theorem ty_bytes122 : Tryd.prog.bytesOf 122 = 8 := by kernel_rfl
@[simp] theorem ty_zeroD122 : zeroD Tryd.prog 122 = none := by kernel_rfl
@[simp] theorem ty_zeroC122 : zeroC Tryd.prog 122 = some [.undef] := by kernel_rfl
@[simp] theorem ty_zeroO122 : zeroO Tryd.prog 122 = some [.undef] := by kernel_rfl
@[simp] theorem ty_cells123 : Tryd.prog.cellsOf 123 = 4 := by kernel_rfl
@[simp] theorem ty_bytes123 : Tryd.prog.bytesOf 123 = 40 := by kernel_rfl
@[simp] theorem ty_zeroD123 : zeroD Tryd.prog 123 = none := by kernel_rfl
@[simp] theorem ty_zeroC123 : zeroC Tryd.prog 123 = some [.nilp 123, .nilp 123, .nilp 123, .d (.str [])] := by kernel_rfl
@[simp] theorem ty_zeroO123 : zeroO Tryd.prog 123 = some [.undef, .undef, .undef, .d (.str [])] := by kernel_rfl
@[simp] theorem ty_field123_0 : fieldOf Tryd.prog 123 0 = some (0, 17) := by kernel_rfl
@[simp] theorem ty_field123_1 : fieldOf Tryd.prog 123 1 = some (1, 17) := by kernel_rfl
@[simp] theorem ty_field123_2 : fieldOf Tryd.prog 123 2 = some (2, 17) := by kernel_rfl
@[simp] theorem ty_field123_3 : fieldOf Tryd.prog 123 3 = some (3, 9) := by kernel_rfl
@[simp] theorem ty_cells124 : Tryd.prog.cellsOf 124 = 4 := by kernel_rfl
@[simp] theorem ty_bytes124 : Tryd.prog.bytesOf 124 = 40 := by kernel_rfl
@[simp] theorem ty_zeroD124 : zeroD Tryd.prog 124 = none := by kernel_rfl
@[simp] theorem ty_zeroC124 : zeroC Tryd.prog 124 = some [.nilp 124, .nilp 124, .nilp 124, .d (.str [])] := by kernel_rfl
@[simp] theorem ty_zeroO124 : zeroO Tryd.prog 124 = some [.undef, .undef, .undef, .d (.str [])] := by kernel_rfl
@[simp] theorem ty_field124_0 : fieldOf Tryd.prog 124 0 = some (0, 17) := by kernel_rfl
@[simp] theorem ty_field124_1 : fieldOf Tryd.prog 124 1 = some (1, 17) := by kernel_rfl
@[simp] theorem ty_field124_2 : fieldOf Tryd.prog 124 2 = some (2, 17) := by kernel_rfl
@[simp] theorem ty_field124_3 : fieldOf Tryd.prog 124 3 = some (3, 9) := by kernel_rfl
@[simp] theorem ty_cells125 : Tryd.prog.cellsOf 125 = 0 := by kernel_rfl
@[simp] theorem ty_bytes125 : Tryd.prog.bytesOf 125 = 0 := by kernel_rfl
@[simp] theorem ty_cells126 : Tryd.prog.cellsOf 126 = 0 := by kernel_rfl
@[simp] theorem ty_bytes126 : Tryd.prog.bytesOf 126 = 0 := by kernel_rfl
@[simp] theorem ty_field126_0 : fieldOf Tryd.prog 126 0 = some (0, 125) := by kernel_rfl
@[simp] theorem ty_cells127 : Tryd.prog.cellsOf 127 = 0 := by kernel_rfl
@[simp] theorem ty_bytes127 : Tryd.prog.bytesOf 127 = 0 := by kernel_rfl
@[simp] theorem ty_field127_0 : fieldOf Tryd.prog 127 0 = some (0, 125) := by kernel_rfl
@[simp] theorem ty_cells128 : Tryd.prog.cellsOf 128 = 1 := by kernel_rfl
@[simp] theorem ty_bytes128 : Tryd.prog.bytesOf 128 = 8 := by kernel_rfl
@[simp] theorem ty_zeroD128 : zeroD Tryd.prog 128 = none := by kernel_rfl
@[simp] theorem ty_zeroC128 : zeroC Tryd.prog 128 = some [.undef] := by kernel_rfl
@[simp] theorem ty_zeroO128 : zeroO Tryd.prog 128 = some [.undef] := by kernel_rfl
@[simp] theorem ty_cells129 : Tryd.prog.cellsOf 129 = 1 := by kernel_rfl
@[simp] theorem ty_bytes129 : Tryd.prog.bytesOf 129 = 4 := by kernel_rfl
@[simp] theorem ty_zeroD129 : zeroD Tryd.prog 129 = some [.int .u32 0] := by kernel_rfl
@[simp] theorem ty_zeroV129 : zeroValD Tryd.prog 129 = some (.int .u32 0) := by kernel_rfl
@[simp] theorem ty_cells130 : Tryd.prog.cellsOf 130 = 1 := by kernel_rfl
@[simp] theorem ty_bytes130 : Tryd.prog.bytesOf 130 = 1 := by kernel_rfl
@[simp] theorem ty_zeroD130 : zeroD Tryd.prog 130 = some [.int .u8 0] := by kernel_rfl
@[simp] theorem ty_zeroV130 : zeroValD Tryd.prog 130 = some (.int .u8 0) := by kernel_rfl
@[simp] theorem ty_cells131 : Tryd.prog.cellsOf 131 = 1 := by kernel_rfl
@[simp] theorem ty_bytes131 : Tryd.prog.bytesOf 131 = 1 := by kernel_rfl
@[simp] theorem ty_zeroD131 : zeroD Tryd.prog 131 = some [.int .u8 0] := by kernel_rfl
@[simp] theorem ty_zeroV131 : zeroValD Tryd.prog 131 = some (.int .u8 0) := by kernel_rfl
@[simp] theorem ty_cells132 : Tryd.prog.cellsOf 132 = 1 := by kernel_rfl
@[simp] theorem ty_bytes132 : Tryd.prog.bytesOf 132 = 8 := by kernel_rfl
@[simp] theorem ty_zeroD132 : zeroD Tryd.prog 132 = none := by kernel_rfl
@[simp] theorem ty_zeroC132 : zeroC Tryd.prog 132 = some [.undef] := by kernel_rfl
@[simp] theorem ty_zeroO132 : zeroO Tryd.prog 132 = some [.undef] := by kernel_rfl
@[simp] theorem ty_cells133 : Tryd.prog.cellsOf 133 = 1 := by kernel_rfl
@[simp] theorem ty_bytes133 : Tryd.prog.bytesOf 133 = 8 := by kernel_rfl
@[simp] theorem ty_zeroD133 : zeroD Tryd.prog 133 = none := by kernel_rfl
@[simp] theorem ty_zeroC133 : zeroC Tryd.prog 133 = some [.nilp 133] := by kernel_rfl
@[simp] theorem ty_zeroO133 : zeroO Tryd.prog 133 = some [.undef] := by kernel_rfl
@[simp] theorem ty_cells134 : Tryd.prog.cellsOf 134 = 1 := by kernel_rfl
@[simp] theorem ty_bytes134 : Tryd.prog.bytesOf 134 = 4 := by kernel_rfl
@[simp] theorem ty_zeroD134 : zeroD Tryd.prog 134 = some [.int .i32 0] := by kernel_rfl
@[simp] theorem ty_zeroV134 : zeroValD Tryd.prog 134 = some (.int .i32 0) := by kernel_rfl
@[simp] theorem ty_cells135 : Tryd.prog.cellsOf 135 = 1 := by kernel_rfl
@[simp] theorem ty_bytes135 : Tryd.prog.bytesOf 135 = 4 := by kernel_rfl
@[simp] theorem ty_zeroD135 : zeroD Tryd.prog 135 = some [.int .i32 0] := by kernel_rfl
@[simp] theorem ty_zeroV135 : zeroValD Tryd.prog 135 = some (.int .i32 0) := by kernel_rfl
@[simp] theorem ty_cells136 : Tryd.prog.cellsOf 136 = 11 := by kernel_rfl
@[simp] theorem ty_bytes136 : Tryd.prog.bytesOf 136 = 48 := by kernel_rfl
@[simp] theorem ty_zeroD136 : zeroD Tryd.prog 136 = none := by kernel_rfl
@[simp] theorem ty_zeroC136 : zeroC Tryd.prog 136 = some [.d (.int .u64 0), .d (.int .u64 0), .d (.int .u32 0), .d (.int .u8 0), .d (.int .u8 0), .d (.int .u8 0), .d (.int .u8 0), .undef, .nilp 136, .d (.int .i32 0), .d (.int .i32 0)] := by kernel_rfl
@[simp] theorem ty_zeroO136 : zeroO Tryd.prog 136 = some [.d (.int .u64 0), .d (.int .u64 0), .d (.int .u32 0), .d (.int .u8 0), .d (.int .u8 0), .d (.int .u8 0), .d (.int .u8 0), .undef, .undef, .d (.int .i32 0), .d (.int .i32 0)] := by kernel_rfl
@[simp] theorem ty_field136_0 : fieldOf Tryd.prog 136 0 = some (0, 12) := by kernel_rfl
@[simp] theorem ty_field136_1 : fieldOf Tryd.prog 136 1 = some (1, 12) := by kernel_rfl
@[simp] theorem ty_field136_2 : fieldOf Tryd.prog 136 2 = some (2, 129) := by kernel_rfl
@[simp] theorem ty_field136_3 : fieldOf Tryd.prog 136 3 = some (3, 130) := by kernel_rfl
@[simp] theorem ty_field136_4 : fieldOf Tryd.prog 136 4 = some (4, 5) := by kernel_rfl
@[simp] theorem ty_field136_5 : fieldOf Tryd.prog 136 5 = some (5, 5) := by kernel_rfl
@[simp] theorem ty_field136_6 : fieldOf Tryd.prog 136 6 = some (6, 131) := by kernel_rfl
@[simp] theorem ty_field136_7 : fieldOf Tryd.prog 136 7 = some (7, 132) := by kernel_rfl
@[simp] theorem ty_field136_8 : fieldOf Tryd.prog 136 8 = some (8, 133) := by kernel_rfl
@[simp] theorem ty_field136_9 : fieldOf Tryd.prog 136 9 = some (9, 134) := by kernel_rfl
@[simp] theorem ty_field136_10 : fieldOf Tryd.prog 136 10 = some (10, 135) := by kernel_rfl
@[simp] theorem ty_cells137 : Tryd.prog.cellsOf 137 = 11 := by kernel_rfl
@[simp] theorem ty_bytes137 : Tryd.prog.bytesOf 137 = 48 := by kernel_rfl
@[simp] theorem ty_zeroD137 : zeroD Tryd.prog 137 = none := by kernel_rfl
@[simp] theorem ty_zeroC137 : zeroC Tryd.prog 137 = some [.d (.int .u64 0), .d (.int .u64 0), .d (.int .u32 0), .d (.int .u8 0), .d (.int .u8 0), .d (.int .u8 0), .d (.int .u8 0), .undef, .nilp 137, .d (.int .i32 0), .d (.int .i32 0)] := by kernel_rfl
@[simp] theorem ty_zeroO137 : zeroO Tryd.prog 137 = some [.d (.int .u64 0), .d (.int .u64 0), .d (.int .u32 0), .d (.int .u8 0), .d (.int .u8 0), .d (.int .u8 0), .d (.int .u8 0), .undef, .undef, .d (.int .i32 0), .d (.int .i32 0)] := by kernel_rfl
@[simp] theorem ty_field137_0 : fieldOf Tryd.prog 137 0 = some (0, 12) := by kernel_rfl
@[simp] theorem ty_field137_1 : fieldOf Tryd.prog 137 1 = some (1, 12) := by kernel_rfl
@[simp] theorem ty_field137_2 : fieldOf Tryd.prog 137 2 = some (2, 129) := by kernel_rfl
@[simp] theorem ty_field137_3 : fieldOf Tryd.prog 137 3 = some (3, 130) := by kernel_rfl
@[simp] theorem ty_field137_4 : fieldOf Tryd.prog 137 4 = some (4, 5) := by kernel_rfl
@[simp] theorem ty_field137_5 : fieldOf Tryd.prog 137 5 = some (5, 5) := by kernel_rfl
@[simp] theorem ty_field137_6 : fieldOf Tryd.prog 137 6 = some (6, 131) := by kernel_rfl
@[simp] theorem ty_field137_7 : fieldOf Tryd.prog 137 7 = some (7, 132) := by kernel_rfl
@[simp] theorem ty_field137_8 : fieldOf Tryd.prog 137 8 = some (8, 133) := by kernel_rfl
@[simp] theorem ty_field137_9 : fieldOf Tryd.prog 137 9 = some (9, 134) := by kernel_rfl
@[simp] theorem ty_field137_10 : fieldOf Tryd.prog 137 10 = some (10, 135) := by kernel_rfl
@[simp] theorem ty_cells138 : Tryd.prog.cellsOf 138 = 1 := by kernel_rfl
@[simp] theorem ty_bytes138 : Tryd.prog.bytesOf 138 = 24 := by kernel_rfl
@[simp] theorem ty_zeroD138 : zeroD Tryd.prog 138 = some [.nils] := by kernel_rfl
@[simp] theorem ty_zeroV138 : zeroValD Tryd.prog 138 = some (.nils) := by kernel_rfl
@[simp] theorem ty_elem138 : elemOfD Tryd.prog 138 = some 156 := by kernel_rfl
@[simp] theorem ty_cells139 : Tryd.prog.cellsOf 139 = 1 := by kernel_rfl
@[simp] theorem ty_bytes139 : Tryd.prog.bytesOf 139 = 24 := by kernel_rfl
@[simp] theorem ty_zeroD139 : zeroD Tryd.prog 139 = some [.nils] := by kernel_rfl
@[simp] theorem ty_zeroV139 : zeroValD Tryd.prog 139 = some (.nils) := by kernel_rfl
@[simp] theorem ty_elem139 : elemOfD Tryd.prog 139 = some 158 := by kernel_rfl
@[simp] theorem ty_cells140 : Tryd.prog.cellsOf 140 = 4 := by kernel_rfl
@[simp] theorem ty_bytes140 : Tryd.prog.bytesOf 140 = 88 := by kernel_rfl
@[simp] theorem ty_zeroD140 : zeroD Tryd.prog 140 = some [.str [], .nils, .nils, .nils] := by kernel_rfl
@[simp] theorem ty_zeroV140 : zeroValD Tryd.prog 140 = some (.agg [.str [], .nils, .nils, .nils]) := by kernel_rfl
@[simp] theorem ty_isStruct140 : isStruct Tryd.prog 140 = true := by kernel_rfl
@[simp] theorem ty_field140_0 : fieldOf Tryd.prog 140 0 = some (0, 9) := by kernel_rfl
@[simp] theorem ty_field140_1 : fieldOf Tryd.prog 140 1 = some (1, 37) := by kernel_rfl
@[simp] theorem ty_field140_2 : fieldOf Tryd.prog 140 2 = some (2, 138) := by kernel_rfl
@[simp] theorem ty_field140_3 : fieldOf Tryd.prog 140 3 = some (3, 139) := by kernel_rfl
@[simp] theorem ty_cells141 : Tryd.prog.cellsOf 141 = 4 := by kernel_rfl
@[simp] theorem ty_bytes141 : Tryd.prog.bytesOf 141 = 88 := by kernel_rfl
@[simp] theorem ty_zeroD141 : zeroD Tryd.prog 141 = some [.str [], .nils, .nils, .nils] := by kernel_rfl
@[simp] theorem ty_zeroV141 : zeroValD Tryd.prog 141 = some (.agg [.str [], .nils, .nils, .nils]) := by kernel_rfl
@[simp] theorem ty_isStruct141 : isStruct Tryd.prog 141 = true := by kernel_rfl
@[simp] theorem ty_field141_0 : fieldOf Tryd.prog 141 0 = some (0, 9) := by kernel_rfl
@[simp] theorem ty_field141_1 : fieldOf Tryd.prog 141 1 = some (1, 37) := by kernel_rfl
@[simp] theorem ty_field141_2 : fieldOf Tryd.prog 141 2 = some (2, 138) := by kernel_rfl
@[simp] theorem ty_field141_3 : fieldOf Tryd.prog 141 3 = some (3, 139) := by kernel_rfl
@[simp] theorem ty_cells142 : Tryd.prog.cellsOf 142 = 1 := by kernel_rfl
@[simp] theorem ty_bytes142 : Tryd.prog.bytesOf 142 = 16 := by kernel_rfl
@[simp] theorem ty_zeroD142 : zeroD Tryd.prog 142 = some [.str []] := by kernel_rfl
@[simp] theorem ty_zeroV142 : zeroValD Tryd.prog 142 = some (.str []) := by kernel_rfl
@[simp] theorem ty_cells143 : Tryd.prog.cellsOf 143 = 1 := by kernel_rfl
@[simp] theorem ty_bytes143 : Tryd.prog.bytesOf 143 = 24 := by kernel_rfl
@[simp] theorem ty_zeroD143 : zeroD Tryd.prog 143 = some [.nils] := by kernel_rfl
@[simp] theorem ty_zeroV143 : zeroValD Tryd.prog 143 = some (.nils) := by kernel_rfl
@[simp] theorem ty_elem143 : elemOfD Tryd.prog 143 = some 160 := by kernel_rfl
@[simp] theorem ty_cells144 : Tryd.prog.cellsOf 144 = 8 := by kernel_rfl
@[simp] theorem ty_bytes144 : Tryd.prog.bytesOf 144 = 128 := by kernel_rfl
@[simp] theorem ty_zeroD144 : zeroD Tryd.prog 144 = some [.str [], .str [], .str [], .nils, .int .i64 0, .str [], .int .i64 0, .nils] := by kernel_rfl
@[simp] theorem ty_zeroV144 : zeroValD Tryd.prog 144 = some (.agg [.str [], .str [], .str [], .nils, .int .i64 0, .str [], .int .i64 0, .nils]) := by kernel_rfl
@[simp] theorem ty_isStruct144 : isStruct Tryd.prog 144 = true := by kernel_rfl
@[simp] theorem ty_field144_0 : fieldOf Tryd.prog 144 0 = some (0, 9) := by kernel_rfl
@[simp] theorem ty_field144_1 : fieldOf Tryd.prog 144 1 = some (1, 9) := by kernel_rfl
@[simp] theorem ty_field144_2 : fieldOf Tryd.prog 144 2 = some (2, 142) := by kernel_rfl
@[simp] theorem ty_field144_3 : fieldOf Tryd.prog 144 3 = some (3, 143) := by kernel_rfl
@[simp] theorem ty_field144_4 : fieldOf Tryd.prog 144 4 = some (4, 41) := by kernel_rfl
@[simp] theorem ty_cells145 : Tryd.prog.cellsOf 145 = 8 := by kernel_rfl
@[simp] theorem ty_bytes145 : Tryd.prog.bytesOf 145 = 128 := by kernel_rfl
@[simp] theorem ty_zeroD145 : zeroD Tryd.prog 145 = some [.str [], .str [], .str [], .nils, .int .i64 0, .str [], .int .i64 0, .nils] := by kernel_rfl
@[simp] theorem ty_zeroV145 : zeroValD Tryd.prog 145 = some (.agg [.str [], .str [], .str [], .nils, .int .i64 0, .str [], .int .i64 0, .nils]) := by kernel_rfl
@[simp] theorem ty_isStruct145 : isStruct Tryd.prog 145 = true := by kernel_rfl
@[simp] theorem ty_field145_0 : fieldOf Tryd.prog 145 0 = some (0, 9) := by kernel_rfl
@[simp] theorem ty_field145_1 : fieldOf Tryd.prog 145 1 = some (1, 9) := by kernel_rfl
@[simp] theorem ty_field145_2 : fieldOf Tryd.prog 145 2 = some (2, 142) := by kernel_rfl
@[simp] theorem ty_field145_3 : fieldOf Tryd.prog 145 3 = some (3, 143) := by kernel_rfl
@[simp] theorem ty_field145_4 : fieldOf Tryd.prog 145 4 = some (4, 41) := by kernel_rfl
@[simp] theorem ty_cells146 : Tryd.prog.cellsOf 146 = 6 := by kernel_rfl
@[simp] theorem ty_bytes146 : Tryd.prog.bytesOf 146 = 96 := by kernel_rfl
@[simp] theorem ty_zeroD146 : zeroD Tryd.prog 146 = some [.str [], .nils, .int .i64 0, .str [], .int .i64 0, .nils] := by kernel_rfl
@[simp] theorem ty_zeroV146 : zeroValD Tryd.prog 146 = some (.agg [.str [], .nils, .int .i64 0, .str [], .int .i64 0, .nils]) := by kernel_rfl
@[simp] theorem ty_isStruct146 : isStruct Tryd.prog 146 = true := by kernel_rfl
@[simp] theorem ty_field146_0 : fieldOf Tryd.prog 146 0 = some (0, 9) := by kernel_rfl
@[simp] theorem ty_field146_1 : fieldOf Tryd.prog 146 1 = some (1, 138) := by kernel_rfl
@[simp] theorem ty_field146_2 : fieldOf Tryd.prog 146 2 = some (2, 41) := by kernel_rfl
@[simp] theorem ty_cells147 : Tryd.prog.cellsOf 147 = 6 := by kernel_rfl
@[simp] theorem ty_bytes147 : Tryd.prog.bytesOf 147 = 96 := by kernel_rfl
@[simp] theorem ty_zeroD147 : zeroD Tryd.prog 147 = some [.str [], .nils, .int .i64 0, .str [], .int .i64 0, .nils] := by kernel_rfl
@[simp] theorem ty_zeroV147 : zeroValD Tryd.prog 147 = some (.agg [.str [], .nils, .int .i64 0, .str [], .int .i64 0, .nils]) := by kernel_rfl
@[simp] theorem ty_isStruct147 : isStruct Tryd.prog 147 = true := by kernel_rfl
@[simp] theorem ty_field147_0 : fieldOf Tryd.prog 147 0 = some (0, 9) := by kernel_rfl
@[simp] theorem ty_field147_1 : fieldOf Tryd.prog 147 1 = some (1, 138) := by kernel_rfl
@[simp] theorem ty_field147_2 : fieldOf Tryd.prog 147 2 = some (2, 41) := by kernel_rfl
@[simp] theorem ty_cells148 : Tryd.prog.cellsOf 148 = 2 := by kernel_rfl
@[simp] theorem ty_bytes148 : Tryd.prog.bytesOf 148 = 32 := by kernel_rfl
@[simp] theorem ty_zeroD148 : zeroD Tryd.prog 148 = some [.str [], .str []] := by kernel_rfl
@[simp] theorem ty_zeroV148 : zeroValD Tryd.prog 148 = some (.agg [.str [], .str []]) := by kernel_rfl
@[simp] theorem ty_isStruct148 : isStruct Tryd.prog 148 = true := by kernel_rfl
@[simp] theorem ty_field148_0 : fieldOf Tryd.prog 148 0 = some (0, 9) := by kernel_rfl
@[simp] theorem ty_field148_1 : fieldOf Tryd.prog 148 1 = some (1, 142) := by kernel_rfl
@[simp] theorem ty_cells149 : Tryd.prog.cellsOf 149 = 2 := by kernel_rfl
@[simp] theorem ty_bytes149 : Tryd.prog.bytesOf 149 = 32 := by kernel_rfl
@[simp] theorem ty_zeroD149 : zeroD Tryd.prog 149 = some [.str [], .str []] := by kernel_rfl
@[simp] theorem ty_zeroV149 : zeroValD Tryd.prog 149 = some (.agg [.str [], .str []]) := by kernel_rfl
@[simp] theorem ty_isStruct149 : isStruct Tryd.prog 149 = true := by kernel_rfl
@[simp] theorem ty_field149_0 : fieldOf Tryd.prog 149 0 = some (0, 9) := by kernel_rfl
@[simp] theorem ty_field149_1 : fieldOf Tryd.prog 149 1 = some (1, 142) := by kernel_rfl
@[simp] theorem ty_flat149 : flatDescs Tryd.prog 149 = some [.string, .string] := by kernel_rfl
@[simp] theorem ty_cells150 : Tryd.prog.cellsOf 150 = 10 := by kernel_rfl
@[simp] theorem ty_bytes150 : Tryd.prog.bytesOf 150 = 152 := by kernel_rfl
@[simp] theorem ty_zeroD150 : zeroD Tryd.prog 150 = some [.str [], .nils, .int .i64 0, .str [], .int .i64 0, .nils, .int .i64 0, .str [], .int .i64 0, .nils] := by kernel_rfl
@[simp] theorem ty_zeroV150 : zeroValD Tryd.prog 150 = some (.agg [.str [], .nils, .int .i64 0, .str [], .int .i64 0, .nils, .int .i64 0, .str [], .int .i64 0, .nils]) := by kernel_rfl
@[simp] theorem ty_isStruct150 : isStruct Tryd.prog 150 = true := by kernel_rfl
@[simp] theorem ty_field150_0 : fieldOf Tryd.prog 150 0 = some (0, 9) := by kernel_rfl
@[simp] theorem ty_field150_1 : fieldOf Tryd.prog 150 1 = some (1, 138) := by kernel_rfl
@[simp] theorem ty_field150_2 : fieldOf Tryd.prog 150 2 = some (2, 41) := by kernel_rfl
@[simp] theorem ty_field150_3 : fieldOf Tryd.prog 150 3 = some (6, 41) := by kernel_rfl
@[simp] theorem ty_cells151 : Tryd.prog.cellsOf 151 = 10 := by kernel_rfl
@[simp] theorem ty_bytes151 : Tryd.prog.bytesOf 151 = 152 := by kernel_rfl
@[simp] theorem ty_zeroD151 : zeroD Tryd.prog 151 = some [.str [], .nils, .int .i64 0, .str [], .int .i64 0, .nils, .int .i64 0, .str [], .int .i64 0, .nils] := by kernel_rfl
@[simp] theorem ty_zeroV151 : zeroValD Tryd.prog 151 = some (.agg [.str [], .nils, .int .i64 0, .str [], .int .i64 0, .nils, .int .i64 0, .str [], .int .i64 0, .nils]) := by kernel_rfl
@[simp] theorem ty_isStruct151 : isStruct Tryd.prog 151 = true := by kernel_rfl
@[simp] theorem ty_field151_0 : fieldOf Tryd.prog 151 0 = some (0, 9) := by kernel_rfl
@[simp] theorem ty_field151_1 : fieldOf Tryd.prog 151 1 = some (1, 138) := by kernel_rfl
@[simp] theorem ty_field151_2 : fieldOf Tryd.prog 151 2 = some (2, 41) := by kernel_rfl
@[simp] theorem ty_field151_3 : fieldOf Tryd.prog 151 3 = some (6, 41) := by kernel_rfl
@[simp] theorem ty_cells152 : Tryd.prog.cellsOf 152 = 10 := by kernel_rfl
@[simp] theorem ty_bytes152 : Tryd.prog.bytesOf 152 = 168 := by kernel_rfl
@[simp] theorem ty_zeroD152 : zeroD Tryd.prog 152 = some [.str [], .int .i64 0, .str [], .nils, .nils, .int .i64 0, .str [], .int .i64 0, .nils, .nils] := by kernel_rfl
@[simp] theorem ty_zeroV152 : zeroValD Tryd.prog 152 = some (.agg [.str [], .int .i64 0, .str [], .nils, .nils, .int .i64 0, .str [], .int .i64 0, .nils, .nils]) := by kernel_rfl
@[simp] theorem ty_isStruct152 : isStruct Tryd.prog 152 = true := by kernel_rfl
@[simp] theorem ty_field152_0 : fieldOf Tryd.prog 152 0 = some (0, 9) := by kernel_rfl
@[simp] theorem ty_field152_1 : fieldOf Tryd.prog 152 1 = some (1, 43) := by kernel_rfl
@[simp] theorem ty_cells153 : Tryd.prog.cellsOf 153 = 9 := by kernel_rfl
@[simp] theorem ty_bytes153 : Tryd.prog.bytesOf 153 = 168 := by kernel_rfl
@[simp] theorem ty_zeroD153 : zeroD Tryd.prog 153 = some [.str [], .nils, .int .i64 0, .str [], .int .i64 0, .nils, .nils, .nils, .nils] := by kernel_rfl
@[simp] theorem ty_zeroV153 : zeroValD Tryd.prog 153 = some (.agg [.str [], .nils, .int .i64 0, .str [], .int .i64 0, .nils, .nils, .nils, .nils]) := by kernel_rfl
@[simp] theorem ty_isStruct153 : isStruct Tryd.prog 153 = true := by kernel_rfl
@[simp] theorem ty_field153_0 : fieldOf Tryd.prog 153 0 = some (0, 9) := by kernel_rfl
@[simp] theorem ty_field153_1 : fieldOf Tryd.prog 153 1 = some (1, 37) := by kernel_rfl
@[simp] theorem ty_field153_2 : fieldOf Tryd.prog 153 2 = some (2, 65) := by kernel_rfl
@[simp] theorem ty_cells154 : Tryd.prog.cellsOf 154 = 9 := by kernel_rfl
@[simp] theorem ty_bytes154 : Tryd.prog.bytesOf 154 = 168 := by kernel_rfl
@[simp] theorem ty_zeroD154 : zeroD Tryd.prog 154 = some [.str [], .nils, .int .i64 0, .str [], .int .i64 0, .nils, .nils, .nils, .nils] := by kernel_rfl
@[simp] theorem ty_zeroV154 : zeroValD Tryd.prog 154 = some (.agg [.str [], .nils, .int .i64 0, .str [], .int .i64 0, .nils, .nils, .nils, .nils]) := by kernel_rfl
@[simp] theorem ty_isStruct154 : isStruct Tryd.prog 154 = true := by kernel_rfl
@[simp] theorem ty_field154_0 : fieldOf Tryd.prog 154 0 = some (0, 9) := by kernel_rfl
@[simp] theorem ty_field154_1 : fieldOf Tryd.prog 154 1 = some (1, 37) := by kernel_rfl
@[simp] theorem ty_field154_2 : fieldOf Tryd.prog 154 2 = some (2, 65) := by kernel_rfl
@[simp] theorem ty_cells156 : Tryd.prog.cellsOf 156 = 2 := by kernel_rfl
@[simp] theorem ty_bytes156 : Tryd.prog.bytesOf 156 = 32 := by kernel_rfl
@[simp] theorem ty_zeroD156 : zeroD Tryd.prog 156 = some [.str [], .str []] := by kernel_rfl
@[simp] theorem ty_zeroV156 : zeroValD Tryd.prog 156 = some (.agg [.str [], .str []]) := by kernel_rfl
@[simp] theorem ty_isStruct156 : isStruct Tryd.prog 156 = true := by kernel_rfl
@[simp] theorem ty_field156_0 : fieldOf Tryd.prog 156 0 = some (0, 9) := by kernel_rfl
@[simp] theorem ty_field156_1 : fieldOf Tryd.prog 156 1 = some (1, 142) := by kernel_rfl
@[simp] theorem ty_flat156 : flatDescs Tryd.prog 156 = some [.string, .string] := by kernel_rfl
@[simp] theorem ty_cells157 : Tryd.prog.cellsOf 157 = 3 := by kernel_rfl
@[simp] theorem ty_bytes157 : Tryd.prog.bytesOf 157 = 64 := by kernel_rfl
@[simp] theorem ty_zeroD157 : zeroD Tryd.prog 157 = some [.str [], .nils, .nils] := by kernel_rfl
@[simp] theorem ty_zeroV157 : zeroValD Tryd.prog 157 = some (.agg [.str [], .nils, .nils]) := by kernel_rfl
@[simp] theorem ty_isStruct157 : isStruct Tryd.prog 157 = true := by kernel_rfl
@[simp] theorem ty_field157_0 : fieldOf Tryd.prog 157 0 = some (0, 9) := by kernel_rfl
@[simp] theorem ty_field157_1 : fieldOf Tryd.prog 157 1 = some (1, 37) := by kernel_rfl
@[simp] theorem ty_field157_2 : fieldOf Tryd.prog 157 2 = some (2, 36) := by kernel_rfl
@[simp] theorem ty_cells158 : Tryd.prog.cellsOf 158 = 3 := by kernel_rfl
@[simp] theorem ty_bytes158 : Tryd.prog.bytesOf 158 = 64 := by kernel_rfl
@[simp] theorem ty_zeroD158 : zeroD Tryd.prog 158 = some [.str [], .nils, .nils] := by kernel_rfl
@[simp] theorem ty_zeroV158 : zeroValD Tryd.prog 158 = some (.agg [.str [], .nils, .nils]) := by kernel_rfl
@[simp] theorem ty_isStruct158 : isStruct Tryd.prog 158 = true := by kernel_rfl
@[simp] theorem ty_field158_0 : fieldOf Tryd.prog 158 0 = some (0, 9) := by kernel_rfl
@[simp] theorem ty_field158_1 : fieldOf Tryd.prog 158 1 = some (1, 37) := by kernel_rfl
@[simp] theorem ty_field158_2 : fieldOf Tryd.prog 158 2 = some (2, 36) := by kernel_rfl
@[simp] theorem ty_cells159 : Tryd.prog.cellsOf 159 = 6 := by kernel_rfl
@[simp] theorem ty_bytes159 : Tryd.prog.bytesOf 159 = 96 := by kernel_rfl
@[simp] theorem ty_zeroD159 : zeroD Tryd.prog 159 = some [.str [], .nils, .int .i64 0, .str [], .int .i64 0, .nils] := by kernel_rfl
@[simp] theorem ty_zeroV159 : zeroValD Tryd.prog 159 = some (.agg [.str [], .nils, .int .i64 0, .str [], .int .i64 0, .nils]) := by kernel_rfl
@[simp] theorem ty_isStruct159 : isStruct Tryd.prog 159 = true := by kernel_rfl
@[simp] theorem ty_field159_0 : fieldOf Tryd.prog 159 0 = some (0, 9) := by kernel_rfl
@[simp] theorem ty_field159_1 : fieldOf Tryd.prog 159 1 = some (1, 37) := by kernel_rfl
@[simp] theorem ty_field159_2 : fieldOf Tryd.prog 159 2 = some (2, 41) := by kernel_rfl
@[simp] theorem ty_cells160 : Tryd.prog.cellsOf 160 = 6 := by kernel_rfl
@[simp] theorem ty_bytes160 : Tryd.prog.bytesOf 160 = 96 := by kernel_rfl
@[simp] theorem ty_zeroD160 : zeroD Tryd.prog 160 = some [.str [], .nils, .int .i64 0, .str [], .int .i64 0, .nils] := by kernel_rfl
@[simp] theorem ty_zeroV160 : zeroValD Tryd.prog 160 = some (.agg [.str [], .nils, .int .i64 0, .str [], .int .i64 0, .nils]) := by kernel_rfl
@[simp] theorem ty_isStruct160 : isStruct Tryd.prog 160 = true := by kernel_rfl
@[simp] theorem ty_field160_0 : fieldOf Tryd.prog 160 0 = some (0, 9) := by kernel_rfl
@[simp] theorem ty_field160_1 : fieldOf Tryd.prog 160 1 = some (1, 37) := by kernel_rfl
@[simp] theorem ty_field160_2 : fieldOf Tryd.prog 160 2 = some (2, 41) := by kernel_rfl
@[simp] theorem ty_elemOk9 : elemOk Tryd.prog 9 = true := by kernel_rfl
@[simp] theorem ty_elemOk41 : elemOk Tryd.prog 41 = true := by kernel_rfl
@[simp] theorem ty_elemOk43 : elemOk Tryd.prog 43 = true := by kernel_rfl
@[simp] theorem ty_elemOk48 : elemOk Tryd.prog 48 = true := by kernel_rfl
@[simp] theorem ty_elemOk57 : elemOk Tryd.prog 57 = true := by kernel_rfl
@[simp] theorem ty_elemOk65 : elemOk Tryd.prog 65 = true := by kernel_rfl
@[simp] theorem ty_elemOk68 : elemOk Tryd.prog 68 = true := by kernel_rfl
@[simp] theorem ty_elemOk75 : elemOk Tryd.prog 75 = true := by kernel_rfl
@[simp] theorem ty_elemOk77 : elemOk Tryd.prog 77 = true := by kernel_rfl
@[simp] theorem ty_elemOk141 : elemOk Tryd.prog 141 = true := by kernel_rfl
@[simp] theorem ty_elemOk145 : elemOk Tryd.prog 145 = true := by kernel_rfl
@[simp] theorem ty_elemOk147 : elemOk Tryd.prog 147 = true := by kernel_rfl
@[simp] theorem ty_elemOk149 : elemOk Tryd.prog 149 = true := by kernel_rfl
@[simp] theorem ty_elemOk151 : elemOk Tryd.prog 151 = true := by kernel_rfl
@[simp] theorem ty_elemOk152 : elemOk Tryd.prog 152 = true := by kernel_rfl
@[simp] theorem ty_elemOk154 : elemOk Tryd.prog 154 = true := by kernel_rfl
@[simp] theorem ty_elemOk156 : elemOk Tryd.prog 156 = true := by kernel_rfl
@[simp] theorem ty_elemOk158 : elemOk Tryd.prog 158 = true := by kernel_rfl
@[simp] theorem ty_elemOk160 : elemOk Tryd.prog 160 = true := by kernel_rfl
end Go.Proofs.YtbacejmdgfalpaaDoor
