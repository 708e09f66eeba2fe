/- The facts on this translation's types that the machine on data asks, one closed fact each. By a program of ours. No condition. -/
import Derived.Test.YtcmpodbjhoeblaaDoorZF
import Derived.KernelRfl
import Derived.Test.YtcmpodbjhoeblaaDoorProg
set_option linter.unusedVariables false
set_option linter.unusedSimpArgs false
namespace Go.Proofs.YtcmpodbjhoeblaaDoor
open Go Go.VM
@[simp] theorem ty_cells1 : Tryd.prog.cellsOf 1 = 1 := by kernel_rfl
@[simp] theorem ty_bytes1 : Tryd.prog.bytesOf 1 = 8 := by kernel_rfl
@[simp] theorem ty_zeroD1 : zeroD Tryd.prog 1 = none := by kernel_rfl
@[simp] theorem ty_zeroC1 : zeroC Tryd.prog 1 = some [.undef] := by kernel_rfl
@[simp] theorem ty_zeroO1 : zeroO Tryd.prog 1 = some [.undef] := by kernel_rfl
@[simp] theorem ty_cells2 : Tryd.prog.cellsOf 2 = 1 := by kernel_rfl
@[simp] theorem ty_bytes2 : Tryd.prog.bytesOf 2 = 8 := by kernel_rfl
@[simp] theorem ty_zeroD2 : zeroD Tryd.prog 2 = some [.int .i64 0] := by kernel_rfl
@[simp] theorem ty_zeroV2 : zeroValD Tryd.prog 2 = some (.int .i64 0) := by kernel_rfl
@[simp] theorem ty_cells3 : Tryd.prog.cellsOf 3 = 1 := by kernel_rfl
@[simp] theorem ty_bytes3 : Tryd.prog.bytesOf 3 = 8 := by kernel_rfl
@[simp] theorem ty_zeroD3 : zeroD Tryd.prog 3 = some [.int .i64 0] := by kernel_rfl
@[simp] theorem ty_zeroV3 : zeroValD Tryd.prog 3 = some (.int .i64 0) := by kernel_rfl
@[simp] theorem ty_cells4 : Tryd.prog.cellsOf 4 = 1 := by kernel_rfl
@[simp] theorem ty_bytes4 : Tryd.prog.bytesOf 4 = 1 := by kernel_rfl
@[simp] theorem ty_zeroD4 : zeroD Tryd.prog 4 = some [.bool false] := by kernel_rfl
@[simp] theorem ty_zeroV4 : zeroValD Tryd.prog 4 = some (.bool false) := by kernel_rfl
@[simp] theorem ty_cells5 : Tryd.prog.cellsOf 5 = 1 := by kernel_rfl
@[simp] theorem ty_bytes5 : Tryd.prog.bytesOf 5 = 1 := by kernel_rfl
@[simp] theorem ty_zeroD5 : zeroD Tryd.prog 5 = some [.int .u8 0] := by kernel_rfl
@[simp] theorem ty_zeroV5 : zeroValD Tryd.prog 5 = some (.int .u8 0) := by kernel_rfl
@[simp] theorem ty_cells6 : Tryd.prog.cellsOf 6 = 1 := by kernel_rfl
@[simp] theorem ty_bytes6 : Tryd.prog.bytesOf 6 = 1 := by kernel_rfl
@[simp] theorem ty_zeroD6 : zeroD Tryd.prog 6 = some [.int .u8 0] := by kernel_rfl
@[simp] theorem ty_zeroV6 : zeroValD Tryd.prog 6 = some (.int .u8 0) := by kernel_rfl
@[simp] theorem ty_cells7 : Tryd.prog.cellsOf 7 = 4 := by kernel_rfl
@[simp] theorem ty_bytes7 : Tryd.prog.bytesOf 7 = 24 := by kernel_rfl
@[simp] theorem ty_zeroD7 : zeroD Tryd.prog 7 = some [.int .i64 0, .int .i64 0, .bool false, .int .u8 0] := by kernel_rfl
@[simp] theorem ty_zeroV7 : zeroValD Tryd.prog 7 = some (.agg [.int .i64 0, .int .i64 0, .bool false, .int .u8 0]) := by kernel_rfl
@[simp] theorem ty_isStruct7 : isStruct Tryd.prog 7 = true := by kernel_rfl
@[simp] theorem ty_field7_0 : fieldOf Tryd.prog 7 0 = some (0, 2) := by kernel_rfl
@[simp] theorem ty_field7_1 : fieldOf Tryd.prog 7 1 = some (1, 3) := by kernel_rfl
@[simp] theorem ty_field7_2 : fieldOf Tryd.prog 7 2 = some (2, 4) := by kernel_rfl
@[simp] theorem ty_field7_3 : fieldOf Tryd.prog 7 3 = some (3, 6) := by kernel_rfl
@[simp] theorem ty_cells8 : Tryd.prog.cellsOf 8 = 4 := by kernel_rfl
@[simp] theorem ty_bytes8 : Tryd.prog.bytesOf 8 = 24 := by kernel_rfl
@[simp] theorem ty_zeroD8 : zeroD Tryd.prog 8 = some [.int .i64 0, .int .i64 0, .bool false, .int .u8 0] := by kernel_rfl
@[simp] theorem ty_zeroV8 : zeroValD Tryd.prog 8 = some (.agg [.int .i64 0, .int .i64 0, .bool false, .int .u8 0]) := by kernel_rfl
@[simp] theorem ty_isStruct8 : isStruct Tryd.prog 8 = true := by kernel_rfl
@[simp] theorem ty_field8_0 : fieldOf Tryd.prog 8 0 = some (0, 2) := by kernel_rfl
@[simp] theorem ty_field8_1 : fieldOf Tryd.prog 8 1 = some (1, 3) := by kernel_rfl
@[simp] theorem ty_field8_2 : fieldOf Tryd.prog 8 2 = some (2, 4) := by kernel_rfl
@[simp] theorem ty_field8_3 : fieldOf Tryd.prog 8 3 = some (3, 6) := by kernel_rfl
@[simp] theorem ty_cells9 : Tryd.prog.cellsOf 9 = 1 := by kernel_rfl
@[simp] theorem ty_bytes9 : Tryd.prog.bytesOf 9 = 16 := by kernel_rfl
@[simp] theorem ty_zeroD9 : zeroD Tryd.prog 9 = some [.str []] := by kernel_rfl
@[simp] theorem ty_zeroV9 : zeroValD Tryd.prog 9 = some (.str []) := by kernel_rfl
@[simp] theorem ty_cells10 : Tryd.prog.cellsOf 10 = 1 := by kernel_rfl
@[simp] theorem ty_bytes10 : Tryd.prog.bytesOf 10 = 16 := by kernel_rfl
@[simp] theorem ty_zeroD10 : zeroD Tryd.prog 10 = some [.str []] := by kernel_rfl
@[simp] theorem ty_zeroV10 : zeroValD Tryd.prog 10 = some (.str []) := by kernel_rfl
@[simp] theorem ty_cells11 : Tryd.prog.cellsOf 11 = 1 := by kernel_rfl
@[simp] theorem ty_bytes11 : Tryd.prog.bytesOf 11 = 16 := by kernel_rfl
@[simp] theorem ty_zeroD11 : zeroD Tryd.prog 11 = some [.str []] := by kernel_rfl
@[simp] theorem ty_zeroV11 : zeroValD Tryd.prog 11 = some (.str []) := by kernel_rfl
@[simp] theorem ty_cells12 : Tryd.prog.cellsOf 12 = 1 := by kernel_rfl
@[simp] theorem ty_bytes12 : Tryd.prog.bytesOf 12 = 8 := by kernel_rfl
@[simp] theorem ty_zeroD12 : zeroD Tryd.prog 12 = some [.int .u64 0] := by kernel_rfl
@[simp] theorem ty_zeroV12 : zeroValD Tryd.prog 12 = some (.int .u64 0) := by kernel_rfl
@[simp] theorem ty_cells13 : Tryd.prog.cellsOf 13 = 2 := by kernel_rfl
@[simp] theorem ty_bytes13 : Tryd.prog.bytesOf 13 = 24 := by kernel_rfl
@[simp] theorem ty_zeroD13 : zeroD Tryd.prog 13 = some [.str [], .int .u64 0] := by kernel_rfl
@[simp] theorem ty_zeroV13 : zeroValD Tryd.prog 13 = some (.agg [.str [], .int .u64 0]) := by kernel_rfl
@[simp] theorem ty_isStruct13 : isStruct Tryd.prog 13 = true := by kernel_rfl
@[simp] theorem ty_field13_0 : fieldOf Tryd.prog 13 0 = some (0, 9) := by kernel_rfl
@[simp] theorem ty_field13_1 : fieldOf Tryd.prog 13 1 = some (1, 12) := by kernel_rfl
@[simp] theorem ty_cells14 : Tryd.prog.cellsOf 14 = 2 := by kernel_rfl
@[simp] theorem ty_bytes14 : Tryd.prog.bytesOf 14 = 24 := by kernel_rfl
@[simp] theorem ty_zeroD14 : zeroD Tryd.prog 14 = some [.str [], .int .u64 0] := by kernel_rfl
@[simp] theorem ty_zeroV14 : zeroValD Tryd.prog 14 = some (.agg [.str [], .int .u64 0]) := by kernel_rfl
@[simp] theorem ty_isStruct14 : isStruct Tryd.prog 14 = true := by kernel_rfl
@[simp] theorem ty_field14_0 : fieldOf Tryd.prog 14 0 = some (0, 9) := by kernel_rfl
@[simp] theorem ty_field14_1 : fieldOf Tryd.prog 14 1 = some (1, 12) := by kernel_rfl
@[simp] theorem ty_cells15 : Tryd.prog.cellsOf 15 = 1 := by kernel_rfl
@[simp] theorem ty_bytes15 : Tryd.prog.bytesOf 15 = 8 := by kernel_rfl
@[simp] theorem ty_zeroD15 : zeroD Tryd.prog 15 = none := by kernel_rfl
@[simp] theorem ty_zeroC15 : zeroC Tryd.prog 15 = some [.nilp 15] := by kernel_rfl
@[simp] theorem ty_zeroO15 : zeroO Tryd.prog 15 = some [.undef] := by kernel_rfl
@[simp] theorem ty_cells16 : Tryd.prog.cellsOf 16 = 1 := by kernel_rfl
@[simp] theorem ty_bytes16 : Tryd.prog.bytesOf 16 = 8 := by kernel_rfl
@[simp] theorem ty_zeroD16 : zeroD Tryd.prog 16 = none := by kernel_rfl
@[simp] theorem ty_zeroC16 : zeroC Tryd.prog 16 = some [.nilp 16] := by kernel_rfl
@[simp] theorem ty_zeroO16 : zeroO Tryd.prog 16 = some [.undef] := by kernel_rfl
@[simp] theorem ty_cells17 : Tryd.prog.cellsOf 17 = 1 := by kernel_rfl
@[simp] theorem ty_bytes17 : Tryd.prog.bytesOf 17 = 8 := by kernel_rfl
@[simp] theorem ty_zeroD17 : zeroD Tryd.prog 17 = none := by kernel_rfl
@[simp] theorem ty_zeroC17 : zeroC Tryd.prog 17 = some [.nilp 17] := by kernel_rfl
@[simp] theorem ty_zeroO17 : zeroO Tryd.prog 17 = some [.undef] := by kernel_rfl
@[simp] theorem ty_cells18 : Tryd.prog.cellsOf 18 = 1 := by kernel_rfl
@[simp] theorem ty_bytes18 : Tryd.prog.bytesOf 18 = 8 := by kernel_rfl
@[simp] theorem ty_zeroD18 : zeroD Tryd.prog 18 = none := by kernel_rfl
@[simp] theorem ty_zeroC18 : zeroC Tryd.prog 18 = some [.nilp 18] := by kernel_rfl
@[simp] theorem ty_zeroO18 : zeroO Tryd.prog 18 = some [.undef] := by kernel_rfl
@[simp] theorem ty_field18_0 : fieldOf Tryd.prog 18 0 = some (0, 17) := by kernel_rfl
@[simp] theorem ty_cells19 : Tryd.prog.cellsOf 19 = 1 := by kernel_rfl
@[simp] theorem ty_bytes19 : Tryd.prog.bytesOf 19 = 8 := by kernel_rfl
@[simp] theorem ty_zeroD19 : zeroD Tryd.prog 19 = none := by kernel_rfl
@[simp] theorem ty_zeroC19 : zeroC Tryd.prog 19 = some [.nilp 19] := by kernel_rfl
@[simp] theorem ty_zeroO19 : zeroO Tryd.prog 19 = some [.undef] := by kernel_rfl
@[simp] theorem ty_field19_0 : fieldOf Tryd.prog 19 0 = some (0, 17) := by kernel_rfl
@[simp] theorem ty_zeroD20 : zeroD Tryd.prog 20 = none := by kernel_rfl
@[simp] theorem ty_zeroC20 : zeroC Tryd.prog 20 = some [.undef] := by kernel_rfl
@[simp] theorem ty_zeroO20 : zeroO Tryd.prog 20 = some [.undef] := by kernel_rfl
@[simp] theorem ty_cells21 : Tryd.prog.cellsOf 21 = 1 := by kernel_rfl
@[simp] theorem ty_bytes21 : Tryd.prog.bytesOf 21 = 4 := by kernel_rfl
@[simp] theorem ty_zeroD21 : zeroD Tryd.prog 21 = some [.int .i32 0] := by kernel_rfl
@[simp] theorem ty_zeroV21 : zeroValD Tryd.prog 21 = some (.int .i32 0) := by kernel_rfl
@[simp] theorem ty_cells22 : Tryd.prog.cellsOf 22 = 1 := by kernel_rfl
@[simp] theorem ty_bytes22 : Tryd.prog.bytesOf 22 = 8 := by kernel_rfl
@[simp] theorem ty_zeroD22 : zeroD Tryd.prog 22 = some [.int .i64 0] := by kernel_rfl
@[simp] theorem ty_zeroV22 : zeroValD Tryd.prog 22 = some (.int .i64 0) := by kernel_rfl
@[simp] theorem ty_cells23 : Tryd.prog.cellsOf 23 = 1 := by kernel_rfl
@[simp] theorem ty_bytes23 : Tryd.prog.bytesOf 23 = 24 := by kernel_rfl
@[simp] theorem ty_zeroD23 : zeroD Tryd.prog 23 = some [.nils] := by kernel_rfl
@[simp] theorem ty_zeroV23 : zeroValD Tryd.prog 23 = some (.nils) := by kernel_rfl
@[simp] theorem ty_elem23 : elemOfD Tryd.prog 23 = some 30 := by kernel_rfl
@[simp] theorem ty_cells24 : Tryd.prog.cellsOf 24 = 1 := by kernel_rfl
@[simp] theorem ty_bytes24 : Tryd.prog.bytesOf 24 = 24 := by kernel_rfl
@[simp] theorem ty_zeroD24 : zeroD Tryd.prog 24 = some [.nils] := by kernel_rfl
@[simp] theorem ty_zeroV24 : zeroValD Tryd.prog 24 = some (.nils) := by kernel_rfl
@[simp] theorem ty_elem24 : elemOfD Tryd.prog 24 = some 9 := by kernel_rfl
@[simp] theorem ty_cells25 : Tryd.prog.cellsOf 25 = 1 := by kernel_rfl
@[simp] theorem ty_bytes25 : Tryd.prog.bytesOf 25 = 8 := by kernel_rfl
@[simp] theorem ty_zeroD25 : zeroD Tryd.prog 25 = some [.int .i64 0] := by kernel_rfl
@[simp] theorem ty_zeroV25 : zeroValD Tryd.prog 25 = some (.int .i64 0) := by kernel_rfl
@[simp] theorem ty_cells26 : Tryd.prog.cellsOf 26 = 1 := by kernel_rfl
@[simp] theorem ty_bytes26 : Tryd.prog.bytesOf 26 = 24 := by kernel_rfl
@[simp] theorem ty_zeroD26 : zeroD Tryd.prog 26 = some [.nils] := by kernel_rfl
@[simp] theorem ty_zeroV26 : zeroValD Tryd.prog 26 = some (.nils) := by kernel_rfl
@[simp] theorem ty_elem26 : elemOfD Tryd.prog 26 = some 28 := by kernel_rfl
@[simp] theorem ty_cells27 : Tryd.prog.cellsOf 27 = 4 := by kernel_rfl
@[simp] theorem ty_bytes27 : Tryd.prog.bytesOf 27 = 56 := by kernel_rfl
@[simp] theorem ty_zeroD27 : zeroD Tryd.prog 27 = some [.int .i64 0, .str [], .int .i64 0, .nils] := by kernel_rfl
@[simp] theorem ty_zeroV27 : zeroValD Tryd.prog 27 = some (.agg [.int .i64 0, .str [], .int .i64 0, .nils]) := by kernel_rfl
@[simp] theorem ty_isStruct27 : isStruct Tryd.prog 27 = true := by kernel_rfl
@[simp] theorem ty_field27_0 : fieldOf Tryd.prog 27 0 = some (0, 25) := by kernel_rfl
@[simp] theorem ty_field27_1 : fieldOf Tryd.prog 27 1 = some (1, 9) := by kernel_rfl
@[simp] theorem ty_field27_2 : fieldOf Tryd.prog 27 2 = some (2, 3) := by kernel_rfl
@[simp] theorem ty_field27_3 : fieldOf Tryd.prog 27 3 = some (3, 26) := by kernel_rfl
@[simp] theorem ty_cells28 : Tryd.prog.cellsOf 28 = 4 := by kernel_rfl
@[simp] theorem ty_bytes28 : Tryd.prog.bytesOf 28 = 56 := by kernel_rfl
@[simp] theorem ty_zeroD28 : zeroD Tryd.prog 28 = some [.int .i64 0, .str [], .int .i64 0, .nils] := by kernel_rfl
@[simp] theorem ty_zeroV28 : zeroValD Tryd.prog 28 = some (.agg [.int .i64 0, .str [], .int .i64 0, .nils]) := by kernel_rfl
@[simp] theorem ty_isStruct28 : isStruct Tryd.prog 28 = true := by kernel_rfl
@[simp] theorem ty_field28_0 : fieldOf Tryd.prog 28 0 = some (0, 25) := by kernel_rfl
@[simp] theorem ty_field28_1 : fieldOf Tryd.prog 28 1 = some (1, 9) := by kernel_rfl
@[simp] theorem ty_field28_2 : fieldOf Tryd.prog 28 2 = some (2, 3) := by kernel_rfl
@[simp] theorem ty_field28_3 : fieldOf Tryd.prog 28 3 = some (3, 26) := by kernel_rfl
@[simp] theorem ty_cells29 : Tryd.prog.cellsOf 29 = 9 := by kernel_rfl
@[simp] theorem ty_bytes29 : Tryd.prog.bytesOf 29 = 152 := by kernel_rfl
@[simp] theorem ty_zeroD29 : zeroD Tryd.prog 29 = some [.int .i64 0, .str [], .nils, .nils, .int .i64 0, .str [], .int .i64 0, .nils, .nils] := by kernel_rfl
@[simp] theorem ty_zeroV29 : zeroValD Tryd.prog 29 = some (.agg [.int .i64 0, .str [], .nils, .nils, .int .i64 0, .str [], .int .i64 0, .nils, .nils]) := by kernel_rfl
@[simp] theorem ty_isStruct29 : isStruct Tryd.prog 29 = true := by kernel_rfl
@[simp] theorem ty_field29_0 : fieldOf Tryd.prog 29 0 = some (0, 22) := by kernel_rfl
@[simp] theorem ty_field29_1 : fieldOf Tryd.prog 29 1 = some (1, 9) := by kernel_rfl
@[simp] theorem ty_field29_2 : fieldOf Tryd.prog 29 2 = some (2, 23) := by kernel_rfl
@[simp] theorem ty_field29_3 : fieldOf Tryd.prog 29 3 = some (3, 24) := by kernel_rfl
@[simp] theorem ty_field29_4 : fieldOf Tryd.prog 29 4 = some (4, 28) := by kernel_rfl
@[simp] theorem ty_field29_5 : fieldOf Tryd.prog 29 5 = some (8, 26) := by kernel_rfl
@[simp] theorem ty_cells30 : Tryd.prog.cellsOf 30 = 9 := by kernel_rfl
@[simp] theorem ty_bytes30 : Tryd.prog.bytesOf 30 = 152 := by kernel_rfl
@[simp] theorem ty_zeroD30 : zeroD Tryd.prog 30 = some [.int .i64 0, .str [], .nils, .nils, .int .i64 0, .str [], .int .i64 0, .nils, .nils] := by kernel_rfl
@[simp] theorem ty_zeroV30 : zeroValD Tryd.prog 30 = some (.agg [.int .i64 0, .str [], .nils, .nils, .int .i64 0, .str [], .int .i64 0, .nils, .nils]) := by kernel_rfl
@[simp] theorem ty_isStruct30 : isStruct Tryd.prog 30 = true := by kernel_rfl
@[simp] theorem ty_field30_0 : fieldOf Tryd.prog 30 0 = some (0, 22) := by kernel_rfl
@[simp] theorem ty_field30_1 : fieldOf Tryd.prog 30 1 = some (1, 9) := by kernel_rfl
@[simp] theorem ty_field30_2 : fieldOf Tryd.prog 30 2 = some (2, 23) := by kernel_rfl
@[simp] theorem ty_field30_3 : fieldOf Tryd.prog 30 3 = some (3, 24) := by kernel_rfl
@[simp] theorem ty_field30_4 : fieldOf Tryd.prog 30 4 = some (4, 28) := by kernel_rfl
@[simp] theorem ty_field30_5 : fieldOf Tryd.prog 30 5 = some (8, 26) := by kernel_rfl
@[simp] theorem ty_cells31 : Tryd.prog.cellsOf 31 = 1 := by kernel_rfl
@[simp] theorem ty_bytes31 : Tryd.prog.bytesOf 31 = 8 := by kernel_rfl
@[simp] theorem ty_zeroD31 : zeroD Tryd.prog 31 = none := by kernel_rfl
@[simp] theorem ty_zeroC31 : zeroC Tryd.prog 31 = some [.undef] := by kernel_rfl
@[simp] theorem ty_zeroO31 : zeroO Tryd.prog 31 = some [.undef] := by kernel_rfl
@[simp] theorem ty_cells32 : Tryd.prog.cellsOf 32 = 1 := by kernel_rfl
@[simp] theorem ty_bytes32 : Tryd.prog.bytesOf 32 = 8 := by kernel_rfl
@[simp] theorem ty_zeroD32 : zeroD Tryd.prog 32 = none := by kernel_rfl
@[simp] theorem ty_zeroC32 : zeroC Tryd.prog 32 = some [.undef] := by kernel_rfl
@[simp] theorem ty_zeroO32 : zeroO Tryd.prog 32 = some [.undef] := by kernel_rfl
@[simp] theorem ty_cells33 : Tryd.prog.cellsOf 33 = 1 := by kernel_rfl
@[simp] theorem ty_bytes33 : Tryd.prog.bytesOf 33 = 8 := by kernel_rfl
@[simp] theorem ty_zeroD33 : zeroD Tryd.prog 33 = none := by kernel_rfl
@[simp] theorem ty_zeroC33 : zeroC Tryd.prog 33 = some [.undef] := by kernel_rfl
@[simp] theorem ty_zeroO33 : zeroO Tryd.prog 33 = some [.undef] := by kernel_rfl
@[simp] theorem ty_cells35 : Tryd.prog.cellsOf 35 = 1 := by kernel_rfl
@[simp] theorem ty_bytes35 : Tryd.prog.bytesOf 35 = 8 := by kernel_rfl
@[simp] theorem ty_zeroD35 : zeroD Tryd.prog 35 = none := by kernel_rfl
@[simp] theorem ty_zeroC35 : zeroC Tryd.prog 35 = some [.undef] := by kernel_rfl
@[simp] theorem ty_zeroO35 : zeroO Tryd.prog 35 = some [.undef] := by kernel_rfl
@[simp] theorem ty_cells37 : Tryd.prog.cellsOf 37 = 1 := by kernel_rfl
@[simp] theorem ty_bytes37 : Tryd.prog.bytesOf 37 = 8 := by kernel_rfl
@[simp] theorem ty_zeroD37 : zeroD Tryd.prog 37 = none := by kernel_rfl
@[simp] theorem ty_zeroC37 : zeroC Tryd.prog 37 = some [.undef] := by kernel_rfl
@[simp] theorem ty_zeroO37 : zeroO Tryd.prog 37 = some [.undef] := by kernel_rfl
@[simp] theorem ty_cells38 : Tryd.prog.cellsOf 38 = 1 := by kernel_rfl
@[simp] theorem ty_bytes38 : Tryd.prog.bytesOf 38 = 8 := by kernel_rfl
@[simp] theorem ty_zeroD38 : zeroD Tryd.prog 38 = none := by kernel_rfl
@[simp] theorem ty_zeroC38 : zeroC Tryd.prog 38 = some [.undef] := by kernel_rfl
@[simp] theorem ty_zeroO38 : zeroO Tryd.prog 38 = some [.undef] := by kernel_rfl
@[simp] theorem ty_cells39 : Tryd.prog.cellsOf 39 = 1 := by kernel_rfl
@[simp] theorem ty_bytes39 : Tryd.prog.bytesOf 39 = 8 := by kernel_rfl
@[simp] theorem ty_zeroD39 : zeroD Tryd.prog 39 = none := by kernel_rfl
@[simp] theorem ty_zeroC39 : zeroC Tryd.prog 39 = some [.undef] := by kernel_rfl
@[simp] theorem ty_zeroO39 : zeroO Tryd.prog 39 = some [.undef] := by kernel_rfl
@[simp] theorem ty_cells40 : Tryd.prog.cellsOf 40 = 1 := by kernel_rfl
@[simp] theorem ty_bytes40 : Tryd.prog.bytesOf 40 = 8 := by kernel_rfl
@[simp] theorem ty_zeroD40 : zeroD Tryd.prog 40 = none := by kernel_rfl
@[simp] theorem ty_zeroC40 : zeroC Tryd.prog 40 = some [.undef] := by kernel_rfl
@[simp] theorem ty_zeroO40 : zeroO Tryd.prog 40 = some [.undef] := by kernel_rfl
@[simp] theorem ty_cells41 : Tryd.prog.cellsOf 41 = 1 := by kernel_rfl
@[simp] theorem ty_bytes41 : Tryd.prog.bytesOf 41 = 8 := by kernel_rfl
@[simp] theorem ty_zeroD41 : zeroD Tryd.prog 41 = none := by kernel_rfl
@[simp] theorem ty_zeroC41 : zeroC Tryd.prog 41 = some [.undef] := by kernel_rfl
@[simp] theorem ty_zeroO41 : zeroO Tryd.prog 41 = some [.undef] := by kernel_rfl
@[simp] theorem ty_cells42 : Tryd.prog.cellsOf 42 = 1 := by kernel_rfl
@[simp] theorem ty_bytes42 : Tryd.prog.bytesOf 42 = 8 := by kernel_rfl
@[simp] theorem ty_zeroD42 : zeroD Tryd.prog 42 = none := by kernel_rfl
@[simp] theorem ty_zeroC42 : zeroC Tryd.prog 42 = some [.undef] := by kernel_rfl
@[simp] theorem ty_zeroO42 : zeroO Tryd.prog 42 = some [.undef] := by kernel_rfl
@[simp] theorem ty_cells43 : Tryd.prog.cellsOf 43 = 1 := by kernel_rfl
@[simp] theorem ty_bytes43 : Tryd.prog.bytesOf 43 = 8 := by kernel_rfl
@[simp] theorem ty_zeroD43 : zeroD Tryd.prog 43 = none := by kernel_rfl
@[simp] theorem ty_zeroC43 : zeroC Tryd.prog 43 = some [.undef] := by kernel_rfl
@[simp] theorem ty_zeroO43 : zeroO Tryd.prog 43 = some [.undef] := by kernel_rfl
@[simp] theorem ty_cells44 : Tryd.prog.cellsOf 44 = 1 := by kernel_rfl
@[simp] theorem ty_bytes44 : Tryd.prog.bytesOf 44 = 8 := by kernel_rfl
@[simp] theorem ty_zeroD44 : zeroD Tryd.prog 44 = none := by kernel_rfl
@[simp] theorem ty_zeroC44 : zeroC Tryd.prog 44 = some [.undef] := by kernel_rfl
@[simp] theorem ty_zeroO44 : zeroO Tryd.prog 44 = some [.undef] := by kernel_rfl
@[simp] theorem ty_cells45 : Tryd.prog.cellsOf 45 = 1 := by kernel_rfl
@[simp] theorem ty_bytes45 : Tryd.prog.bytesOf 45 = 8 := by kernel_rfl
@[simp] theorem ty_zeroD45 : zeroD Tryd.prog 45 = none := by kernel_rfl
@[simp] theorem ty_zeroC45 : zeroC Tryd.prog 45 = some [.undef] := by kernel_rfl
@[simp] theorem ty_zeroO45 : zeroO Tryd.prog 45 = some [.undef] := by kernel_rfl
@[simp] theorem ty_cells46 : Tryd.prog.cellsOf 46 = 1 := by kernel_rfl
@[simp] theorem ty_bytes46 : Tryd.prog.bytesOf 46 = 8 := by kernel_rfl
@[simp] theorem ty_zeroD46 : zeroD Tryd.prog 46 = none := by kernel_rfl
@[simp] theorem ty_zeroC46 : zeroC Tryd.prog 46 = some [.undef] := by kernel_rfl
@[simp] theorem ty_zeroO46 : zeroO Tryd.prog 46 = some [.undef] := by kernel_rfl
@[simp] theorem ty_cells47 : Tryd.prog.cellsOf 47 = 1 := by kernel_rfl
@[simp] theorem ty_bytes47 : Tryd.prog.bytesOf 47 = 8 := by kernel_rfl
@[simp] theorem ty_zeroD47 : zeroD Tryd.prog 47 = none := by kernel_rfl
@[simp] theorem ty_zeroC47 : zeroC Tryd.prog 47 = some [.undef] := by kernel_rfl
@[simp] theorem ty_zeroO47 : zeroO Tryd.prog 47 = some [.undef] := by kernel_rfl
@[simp] theorem ty_cells48 : Tryd.prog.cellsOf 48 = 1 := by kernel_rfl
@[simp] theorem ty_bytes48 : Tryd.prog.bytesOf 48 = 8 := by kernel_rfl
@[simp] theorem ty_zeroD48 : zeroD Tryd.prog 48 = some [.int .i64 0] := by kernel_rfl
@[simp] theorem ty_zeroV48 : zeroValD Tryd.prog 48 = some (.int .i64 0) := by kernel_rfl
@[simp] theorem ty_cells49 : Tryd.prog.cellsOf 49 = 1 := by kernel_rfl
@[simp] theorem ty_bytes49 : Tryd.prog.bytesOf 49 = 8 := by kernel_rfl
@[simp] theorem ty_zeroD49 : zeroD Tryd.prog 49 = none := by kernel_rfl
@[simp] theorem ty_zeroC49 : zeroC Tryd.prog 49 = some [.undef] := by kernel_rfl
@[simp] theorem ty_zeroO49 : zeroO Tryd.prog 49 = some [.undef] := by kernel_rfl
@[simp] theorem ty_cells50 : Tryd.prog.cellsOf 50 = 1 := by kernel_rfl
@[simp] theorem ty_bytes50 : Tryd.prog.bytesOf 50 = 8 := by kernel_rfl
@[simp] theorem ty_zeroD50 : zeroD Tryd.prog 50 = none := by kernel_rfl
@[simp] theorem ty_zeroC50 : zeroC Tryd.prog 50 = some [.undef] := by kernel_rfl
@[simp] theorem ty_zeroO50 : zeroO Tryd.prog 50 = some [.undef] := by kernel_rfl
@[simp] theorem ty_cells51 : Tryd.prog.cellsOf 51 = 1 := by kernel_rfl
@[simp] theorem ty_bytes51 : Tryd.prog.bytesOf 51 = 8 := by kernel_rfl
@[simp] theorem ty_zeroD51 : zeroD Tryd.prog 51 = none := by kernel_rfl
@[simp] theorem ty_zeroC51 : zeroC Tryd.prog 51 = some [.undef] := by kernel_rfl
@[simp] theorem ty_zeroO51 : zeroO Tryd.prog 51 = some [.undef] := by kernel_rfl
@[simp] theorem ty_cells52 : Tryd.prog.cellsOf 52 = 1 := by kernel_rfl
@[simp] theorem ty_bytes52 : Tryd.prog.bytesOf 52 = 8 := by kernel_rfl
@[simp] theorem ty_zeroD52 : zeroD Tryd.prog 52 = none := by kernel_rfl
@[simp] theorem ty_zeroC52 : zeroC Tryd.prog 52 = some [.undef] := by kernel_rfl
@[simp] theorem ty_zeroO52 : zeroO Tryd.prog 52 = some [.undef] := by kernel_rfl
@[simp] theorem ty_cells53 : Tryd.prog.cellsOf 53 = 1 := by kernel_rfl
@[simp] theorem ty_bytes53 : Tryd.prog.bytesOf 53 = 8 := by kernel_rfl
@[simp] theorem ty_zeroD53 : zeroD Tryd.prog 53 = none := by kernel_rfl
@[simp] theorem ty_zeroC53 : zeroC Tryd.prog 53 = some [.nilp 53] := by kernel_rfl
@[simp] theorem ty_zeroO53 : zeroO Tryd.prog 53 = some [.undef] := by kernel_rfl
@[simp] theorem ty_cells54 : Tryd.prog.cellsOf 54 = 1 := by kernel_rfl
@[simp] theorem ty_bytes54 : Tryd.prog.bytesOf 54 = 8 := by kernel_rfl
@[simp] theorem ty_zeroD54 : zeroD Tryd.prog 54 = none := by kernel_rfl
@[simp] theorem ty_zeroC54 : zeroC Tryd.prog 54 = some [.undef] := by kernel_rfl
@[simp] theorem ty_zeroO54 : zeroO Tryd.prog 54 = some [.undef] := by kernel_rfl
@[simp] theorem ty_map54 : mapOf Tryd.prog 54 = some (9, 3) := by kernel_rfl
@[simp] theorem ty_cells55 : Tryd.prog.cellsOf 55 = 1 := by kernel_rfl
@[simp] theorem ty_bytes55 : Tryd.prog.bytesOf 55 = 8 := by kernel_rfl
@[simp] theorem ty_zeroD55 : zeroD Tryd.prog 55 = none := by kernel_rfl
@[simp] theorem ty_zeroC55 : zeroC Tryd.prog 55 = some [.undef] := by kernel_rfl
@[simp] theorem ty_zeroO55 : zeroO Tryd.prog 55 = some [.undef] := by kernel_rfl
@[simp] theorem ty_map55 : mapOf Tryd.prog 55 = some (9, 30) := by kernel_rfl
@[simp] theorem ty_cells56 : Tryd.prog.cellsOf 56 = 2 := by kernel_rfl
@[simp] theorem ty_bytes56 : Tryd.prog.bytesOf 56 = 16 := by kernel_rfl
@[simp] theorem ty_zeroD56 : zeroD Tryd.prog 56 = none := by kernel_rfl
@[simp] theorem ty_zeroC56 : zeroC Tryd.prog 56 = some [.undef, .undef] := by kernel_rfl
@[simp] theorem ty_zeroO56 : zeroO Tryd.prog 56 = some [.undef, .undef] := by kernel_rfl
@[simp] theorem ty_field56_0 : fieldOf Tryd.prog 56 0 = some (0, 54) := by kernel_rfl
@[simp] theorem ty_field56_1 : fieldOf Tryd.prog 56 1 = some (1, 55) := by kernel_rfl
@[simp] theorem ty_cells57 : Tryd.prog.cellsOf 57 = 2 := by kernel_rfl
@[simp] theorem ty_bytes57 : Tryd.prog.bytesOf 57 = 16 := by kernel_rfl
@[simp] theorem ty_zeroD57 : zeroD Tryd.prog 57 = none := by kernel_rfl
@[simp] theorem ty_zeroC57 : zeroC Tryd.prog 57 = some [.undef, .undef] := by kernel_rfl
@[simp] theorem ty_zeroO57 : zeroO Tryd.prog 57 = some [.undef, .undef] := by kernel_rfl
@[simp] theorem ty_isStruct57 : isStruct Tryd.prog 57 = true := by kernel_rfl
@[simp] theorem ty_field57_0 : fieldOf Tryd.prog 57 0 = some (0, 54) := by kernel_rfl
@[simp] theorem ty_field57_1 : fieldOf Tryd.prog 57 1 = some (1, 55) := by kernel_rfl
@[simp] theorem ty_cells60 : Tryd.prog.cellsOf 60 = 2 := by kernel_rfl
@[simp] theorem ty_bytes60 : Tryd.prog.bytesOf 60 = 48 := by kernel_rfl
@[simp] theorem ty_zeroD60 : zeroD Tryd.prog 60 = some [.nils, .nils] := by kernel_rfl
@[simp] theorem ty_zeroV60 : zeroValD Tryd.prog 60 = some (.agg [.nils, .nils]) := by kernel_rfl
@[simp] theorem ty_isStruct60 : isStruct Tryd.prog 60 = true := by kernel_rfl
@[simp] theorem ty_field60_0 : fieldOf Tryd.prog 60 0 = some (0, 24) := by kernel_rfl
@[simp] theorem ty_field60_1 : fieldOf Tryd.prog 60 1 = some (1, 23) := by kernel_rfl
@[simp] theorem ty_cells61 : Tryd.prog.cellsOf 61 = 2 := by kernel_rfl
@[simp] theorem ty_bytes61 : Tryd.prog.bytesOf 61 = 48 := by kernel_rfl
@[simp] theorem ty_zeroD61 : zeroD Tryd.prog 61 = some [.nils, .nils] := by kernel_rfl
@[simp] theorem ty_zeroV61 : zeroValD Tryd.prog 61 = some (.agg [.nils, .nils]) := by kernel_rfl
@[simp] theorem ty_isStruct61 : isStruct Tryd.prog 61 = true := by kernel_rfl
@[simp] theorem ty_field61_0 : fieldOf Tryd.prog 61 0 = some (0, 24) := by kernel_rfl
@[simp] theorem ty_field61_1 : fieldOf Tryd.prog 61 1 = some (1, 23) := by kernel_rfl
@[simp] theorem ty_cells63 : Tryd.prog.cellsOf 63 = 1 := by kernel_rfl
@[simp] theorem ty_bytes63 : Tryd.prog.bytesOf 63 = 8 := by kernel_rfl
@[simp] theorem ty_zeroD63 : zeroD Tryd.prog 63 = none := by kernel_rfl
@[simp] theorem ty_zeroC63 : zeroC Tryd.prog 63 = some [.undef] := by kernel_rfl
@[simp] theorem ty_zeroO63 : zeroO Tryd.prog 63 = some [.undef] := by kernel_rfl
@[simp] theorem ty_cells64 : Tryd.prog.cellsOf 64 = 18 := by kernel_rfl
@[simp] theorem ty_bytes64 : Tryd.prog.bytesOf 64 = 304 := by kernel_rfl
@[simp] theorem ty_zeroD64 : zeroD Tryd.prog 64 = some [.int .i64 0, .str [], .nils, .nils, .int .i64 0, .str [], .int .i64 0, .nils, .nils, .int .i64 0, .str [], .nils, .nils, .int .i64 0, .str [], .int .i64 0, .nils, .nils] := by kernel_rfl
@[simp] theorem ty_zeroV64 : zeroValD Tryd.prog 64 = some (.agg [.int .i64 0, .str [], .nils, .nils, .int .i64 0, .str [], .int .i64 0, .nils, .nils, .int .i64 0, .str [], .nils, .nils, .int .i64 0, .str [], .int .i64 0, .nils, .nils]) := by kernel_rfl
@[simp] theorem ty_isStruct64 : isStruct Tryd.prog 64 = true := by kernel_rfl
@[simp] theorem ty_field64_0 : fieldOf Tryd.prog 64 0 = some (0, 30) := by kernel_rfl
@[simp] theorem ty_field64_1 : fieldOf Tryd.prog 64 1 = some (9, 30) := by kernel_rfl
@[simp] theorem ty_cells65 : Tryd.prog.cellsOf 65 = 18 := by kernel_rfl
@[simp] theorem ty_bytes65 : Tryd.prog.bytesOf 65 = 304 := by kernel_rfl
@[simp] theorem ty_zeroD65 : zeroD Tryd.prog 65 = some [.int .i64 0, .str [], .nils, .nils, .int .i64 0, .str [], .int .i64 0, .nils, .nils, .int .i64 0, .str [], .nils, .nils, .int .i64 0, .str [], .int .i64 0, .nils, .nils] := by kernel_rfl
@[simp] theorem ty_zeroV65 : zeroValD Tryd.prog 65 = some (.agg [.int .i64 0, .str [], .nils, .nils, .int .i64 0, .str [], .int .i64 0, .nils, .nils, .int .i64 0, .str [], .nils, .nils, .int .i64 0, .str [], .int .i64 0, .nils, .nils]) := by kernel_rfl
@[simp] theorem ty_isStruct65 : isStruct Tryd.prog 65 = true := by kernel_rfl
@[simp] theorem ty_field65_0 : fieldOf Tryd.prog 65 0 = some (0, 30) := by kernel_rfl
@[simp] theorem ty_field65_1 : fieldOf Tryd.prog 65 1 = some (9, 30) := by kernel_rfl
@[simp] theorem ty_cells66 : Tryd.prog.cellsOf 66 = 1 := by kernel_rfl
@[simp] theorem ty_bytes66 : Tryd.prog.bytesOf 66 = 24 := by kernel_rfl
@[simp] theorem ty_zeroD66 : zeroD Tryd.prog 66 = some [.nils] := by kernel_rfl
@[simp] theorem ty_zeroV66 : zeroValD Tryd.prog 66 = some (.nils) := by kernel_rfl
@[simp] theorem ty_elem66 : elemOfD Tryd.prog 66 = some 65 := by kernel_rfl
@[simp] theorem ty_cells67 : Tryd.prog.cellsOf 67 = 1 := by kernel_rfl
@[simp] theorem ty_bytes67 : Tryd.prog.bytesOf 67 = 8 := by kernel_rfl
@[simp] theorem ty_zeroD67 : zeroD Tryd.prog 67 = none := by kernel_rfl
@[simp] theorem ty_zeroC67 : zeroC Tryd.prog 67 = some [.undef] := by kernel_rfl
@[simp] theorem ty_zeroO67 : zeroO Tryd.prog 67 = some [.undef] := by kernel_rfl
@[simp] theorem ty_cells68 : Tryd.prog.cellsOf 68 = 1 := by kernel_rfl
@[simp] theorem ty_bytes68 : Tryd.prog.bytesOf 68 = 8 := by kernel_rfl
@[simp] theorem ty_zeroD68 : zeroD Tryd.prog 68 = none := by kernel_rfl
@[simp] theorem ty_zeroC68 : zeroC Tryd.prog 68 = some [.undef] := by kernel_rfl
@[simp] theorem ty_zeroO68 : zeroO Tryd.prog 68 = some [.undef] := by kernel_rfl
@[simp] theorem ty_cells69 : Tryd.prog.cellsOf 69 = 1 := by kernel_rfl
@[simp] theorem ty_bytes69 : Tryd.prog.bytesOf 69 = 8 := by kernel_rfl
@[simp] theorem ty_zeroD69 : zeroD Tryd.prog 69 = none := by kernel_rfl
@[simp] theorem ty_zeroC69 : zeroC Tryd.prog 69 = some [.undef] := by kernel_rfl
@[simp] theorem ty_zeroO69 : zeroO Tryd.prog 69 = some [.undef] := by kernel_rfl
@[simp] theorem ty_cells70 : Tryd.prog.cellsOf 70 = 1 := by kernel_rfl
@[simp] theorem ty_bytes70 : Tryd.prog.bytesOf 70 = 8 := by kernel_rfl
@[simp] theorem ty_zeroD70 : zeroD Tryd.prog 70 = none := by kernel_rfl
@[simp] theorem ty_zeroC70 : zeroC Tryd.prog 70 = some [.undef] := by kernel_rfl
@[simp] theorem ty_zeroO70 : zeroO Tryd.prog 70 = some [.undef] := by kernel_rfl
@[simp] theorem ty_map70 : mapOf Tryd.prog 70 = some (9, 4) := by kernel_rfl
@[simp] theorem ty_cells71 : Tryd.prog.cellsOf 71 = 1 := by kernel_rfl
@[simp] theorem ty_bytes71 : Tryd.prog.bytesOf 71 = 8 := by kernel_rfl
@[simp] theorem ty_zeroD71 : zeroD Tryd.prog 71 = none := by kernel_rfl
@[simp] theorem ty_zeroC71 : zeroC Tryd.prog 71 = some [.undef] := by kernel_rfl
@[simp] theorem ty_zeroO71 : zeroO Tryd.prog 71 = some [.undef] := by kernel_rfl
@[simp] theorem ty_cells72 : Tryd.prog.cellsOf 72 = 1 := by kernel_rfl
@[simp] theorem ty_bytes72 : Tryd.prog.bytesOf 72 = 8 := by kernel_rfl
@[simp] theorem ty_zeroD72 : zeroD Tryd.prog 72 = none := by kernel_rfl
@[simp] theorem ty_zeroC72 : zeroC Tryd.prog 72 = some [.undef] := by kernel_rfl
@[simp] theorem ty_zeroO72 : zeroO Tryd.prog 72 = some [.undef] := by kernel_rfl
@[simp] theorem ty_cells73 : Tryd.prog.cellsOf 73 = 1 := by kernel_rfl
@[simp] theorem ty_bytes73 : Tryd.prog.bytesOf 73 = 8 := by kernel_rfl
@[simp] theorem ty_zeroD73 : zeroD Tryd.prog 73 = none := by kernel_rfl
@[simp] theorem ty_zeroC73 : zeroC Tryd.prog 73 = some [.undef] := by kernel_rfl
@[simp] theorem ty_zeroO73 : zeroO Tryd.prog 73 = some [.undef] := by kernel_rfl
@[simp] theorem ty_cells74 : Tryd.prog.cellsOf 74 = 1 := by kernel_rfl
@[simp] theorem ty_bytes74 : Tryd.prog.bytesOf 74 = 8 := by kernel_rfl
@[simp] theorem ty_zeroD74 : zeroD Tryd.prog 74 = none := by kernel_rfl
@[simp] theorem ty_zeroC74 : zeroC Tryd.prog 74 = some [.undef] := by kernel_rfl
@[simp] theorem ty_zeroO74 : zeroO Tryd.prog 74 = some [.undef] := by kernel_rfl
@[simp] theorem ty_cells75 : Tryd.prog.cellsOf 75 = 1 := by kernel_rfl
@[simp] theorem ty_bytes75 : Tryd.prog.bytesOf 75 = 8 := by kernel_rfl
@[simp] theorem ty_zeroD75 : zeroD Tryd.prog 75 = none := by kernel_rfl
@[simp] theorem ty_zeroC75 : zeroC Tryd.prog 75 = some [.undef] := by kernel_rfl
@[simp] theorem ty_zeroO75 : zeroO Tryd.prog 75 = some [.undef] := by kernel_rfl
@[simp] theorem ty_cells76 : Tryd.prog.cellsOf 76 = 1 := by kernel_rfl
@[simp] theorem ty_bytes76 : Tryd.prog.bytesOf 76 = 8 := by kernel_rfl
@[simp] theorem ty_zeroD76 : zeroD Tryd.prog 76 = none := by kernel_rfl
@[simp] theorem ty_zeroC76 : zeroC Tryd.prog 76 = some [.undef] := by kernel_rfl
@[simp] theorem ty_zeroO76 : zeroO Tryd.prog 76 = some [.undef] := by kernel_rfl
@[simp] theorem ty_cells78 : Tryd.prog.cellsOf 78 = 1 := by kernel_rfl
@[simp] theorem ty_bytes78 : Tryd.prog.bytesOf 78 = 8 := by kernel_rfl
@[simp] theorem ty_zeroD78 : zeroD Tryd.prog 78 = none := by kernel_rfl
@[simp] theorem ty_zeroC78 : zeroC Tryd.prog 78 = some [.undef] := by kernel_rfl
@[simp] theorem ty_zeroO78 : zeroO Tryd.prog 78 = some [.undef] := by kernel_rfl
@[simp] theorem ty_cells79 : Tryd.prog.cellsOf 79 = 1 := by kernel_rfl
@[simp] theorem ty_bytes79 : Tryd.prog.bytesOf 79 = 8 := by kernel_rfl
@[simp] theorem ty_zeroD79 : zeroD Tryd.prog 79 = none := by kernel_rfl
@[simp] theorem ty_zeroC79 : zeroC Tryd.prog 79 = some [.undef] := by kernel_rfl
@[simp] theorem ty_zeroO79 : zeroO Tryd.prog 79 = some [.undef] := by kernel_rfl
@[simp] theorem ty_cells80 : Tryd.prog.cellsOf 80 = 1 := by kernel_rfl
@[simp] theorem ty_bytes80 : Tryd.prog.bytesOf 80 = 8 := by kernel_rfl
@[simp] theorem ty_zeroD80 : zeroD Tryd.prog 80 = none := by kernel_rfl
@[simp] theorem ty_zeroC80 : zeroC Tryd.prog 80 = some [.undef] := by kernel_rfl
@[simp] theorem ty_zeroO80 : zeroO Tryd.prog 80 = some [.undef] := by kernel_rfl
@[simp] theorem ty_cells81 : Tryd.prog.cellsOf 81 = 1 := by kernel_rfl
@[simp] theorem ty_bytes81 : Tryd.prog.bytesOf 81 = 8 := by kernel_rfl
@[simp] theorem ty_zeroD81 : zeroD Tryd.prog 81 = none := by kernel_rfl
@[simp] theorem ty_zeroC81 : zeroC Tryd.prog 81 = some [.undef] := by kernel_rfl
@[simp] theorem ty_zeroO81 : zeroO Tryd.prog 81 = some [.undef] := by kernel_rfl
@[simp] theorem ty_cells82 : Tryd.prog.cellsOf 82 = 1 := by kernel_rfl
@[simp] theorem ty_bytes82 : Tryd.prog.bytesOf 82 = 8 := by kernel_rfl
@[simp] theorem ty_zeroD82 : zeroD Tryd.prog 82 = none := by kernel_rfl
@[simp] theorem ty_zeroC82 : zeroC Tryd.prog 82 = some [.undef] := by kernel_rfl
@[simp] theorem ty_zeroO82 : zeroO Tryd.prog 82 = some [.undef] := by kernel_rfl
@[simp] theorem ty_cells83 : Tryd.prog.cellsOf 83 = 24 := by kernel_rfl
@[simp] theorem ty_bytes83 : Tryd.prog.bytesOf 83 = 24 := by kernel_rfl
@[simp] theorem ty_zeroD83 : zeroD Tryd.prog 83 = some [.int .u8 0, .int .u8 0, .int .u8 0, .int .u8 0, .int .u8 0, .int .u8 0, .int .u8 0, .int .u8 0, .int .u8 0, .int .u8 0, .int .u8 0, .int .u8 0, .int .u8 0, .int .u8 0, .int .u8 0, .int .u8 0, .int .u8 0, .int .u8 0, .int .u8 0, .int .u8 0, .int .u8 0, .int .u8 0, .int .u8 0, .int .u8 0] := by kernel_rfl
@[simp] theorem ty_cells84 : Tryd.prog.cellsOf 84 = 1 := by kernel_rfl
@[simp] theorem ty_bytes84 : Tryd.prog.bytesOf 84 = 8 := by kernel_rfl
@[simp] theorem ty_zeroD84 : zeroD Tryd.prog 84 = some [.int .u64 0] := by kernel_rfl
@[simp] theorem ty_zeroV84 : zeroValD Tryd.prog 84 = some (.int .u64 0) := by kernel_rfl
@[simp] theorem ty_cells85 : Tryd.prog.cellsOf 85 = 1 := by kernel_rfl
@[simp] theorem ty_bytes85 : Tryd.prog.bytesOf 85 = 8 := by kernel_rfl
@[simp] theorem ty_zeroD85 : zeroD Tryd.prog 85 = none := by kernel_rfl
@[simp] theorem ty_zeroC85 : zeroC Tryd.prog 85 = some [.undef] := by kernel_rfl
@[simp] theorem ty_zeroO85 : zeroO Tryd.prog 85 = some [.undef] := by kernel_rfl
@[simp] theorem ty_cells86 : Tryd.prog.cellsOf 86 = 1 := by kernel_rfl
@[simp] theorem ty_bytes86 : Tryd.prog.bytesOf 86 = 8 := by kernel_rfl
@[simp] theorem ty_zeroD86 : zeroD Tryd.prog 86 = none := by kernel_rfl
@[simp] theorem ty_zeroC86 : zeroC Tryd.prog 86 = some [.undef] := by kernel_rfl
@[simp] theorem ty_zeroO86 : zeroO Tryd.prog 86 = some [.undef] := by kernel_rfl
@[simp] theorem ty_cells87 : Tryd.prog.cellsOf 87 = 1 := by kernel_rfl
@[simp] theorem ty_bytes87 : Tryd.prog.bytesOf 87 = 24 := by kernel_rfl
@[simp] theorem ty_zeroD87 : zeroD Tryd.prog 87 = some [.nils] := by kernel_rfl
@[simp] theorem ty_zeroV87 : zeroValD Tryd.prog 87 = some (.nils) := by kernel_rfl
@[simp] theorem ty_elem87 : elemOfD Tryd.prog 87 = some 5 := by kernel_rfl
@[simp] theorem ty_cells89 : Tryd.prog.cellsOf 89 = 1 := by kernel_rfl
@[simp] theorem ty_bytes89 : Tryd.prog.bytesOf 89 = 8 := by kernel_rfl
@[simp] theorem ty_zeroD89 : zeroD Tryd.prog 89 = none := by kernel_rfl
@[simp] theorem ty_zeroC89 : zeroC Tryd.prog 89 = some [.undef] := by kernel_rfl
@[simp] theorem ty_zeroO89 : zeroO Tryd.prog 89 = some [.undef] := by kernel_rfl
@[simp] theorem ty_cells90 : Tryd.prog.cellsOf 90 = 42 := by kernel_rfl
@[simp] theorem ty_bytes90 : Tryd.prog.bytesOf 90 = 672 := by kernel_rfl
@[simp] theorem ty_zeroD90 : zeroD Tryd.prog 90 = some [.str [], .str [], .str [], .str [], .str [], .str [], .str [], .str [], .str [], .str [], .str [], .str [], .str [], .str [], .str [], .str [], .str [], .str [], .str [], .str [], .str [], .str [], .str [], .str [], .str [], .str [], .str [], .str [], .str [], .str [], .str [], .str [], .str [], .str [], .str [], .str [], .str [], .str [], .str [], .str [], .str [], .str []] := by kernel_rfl
@[simp] theorem ty_cells91 : Tryd.prog.cellsOf 91 = 1 := by kernel_rfl
@[simp] theorem ty_bytes91 : Tryd.prog.bytesOf 91 = 8 := by kernel_rfl
@[simp] theorem ty_zeroD91 : zeroD Tryd.prog 91 = none := by kernel_rfl
@[simp] theorem ty_zeroC91 : zeroC Tryd.prog 91 = some [.undef] := by kernel_rfl
@[simp] theorem ty_zeroO91 : zeroO Tryd.prog 91 = some [.undef] := by kernel_rfl
@[simp] theorem ty_cells92 : Tryd.prog.cellsOf 92 = 1 := by kernel_rfl
@[simp] theorem ty_bytes92 : Tryd.prog.bytesOf 92 = 8 := by kernel_rfl
@[simp] theorem ty_zeroD92 : zeroD Tryd.prog 92 = none := by kernel_rfl
@[simp] theorem ty_zeroC92 : zeroC Tryd.prog 92 = some [.undef] := by kernel_rfl
@[simp] theorem ty_zeroO92 : zeroO Tryd.prog 92 = some [.undef] := by kernel_rfl
@[simp] theorem ty_cells93 : Tryd.prog.cellsOf 93 = 20 := by kernel_rfl
@[simp] theorem ty_bytes93 : Tryd.prog.bytesOf 93 = 160 := by kernel_rfl
@[simp] theorem ty_zeroD93 : zeroD Tryd.prog 93 = some [.int .u64 0, .int .u64 0, .int .u64 0, .int .u64 0, .int .u64 0, .int .u64 0, .int .u64 0, .int .u64 0, .int .u64 0, .int .u64 0, .int .u64 0, .int .u64 0, .int .u64 0, .int .u64 0, .int .u64 0, .int .u64 0, .int .u64 0, .int .u64 0, .int .u64 0, .int .u64 0] := by kernel_rfl
@[simp] theorem ty_cells94 : Tryd.prog.cellsOf 94 = 1 := by kernel_rfl
@[simp] theorem ty_bytes94 : Tryd.prog.bytesOf 94 = 4 := by kernel_rfl
@[simp] theorem ty_zeroD94 : zeroD Tryd.prog 94 = some [.int .u32 0] := by kernel_rfl
@[simp] theorem ty_zeroV94 : zeroValD Tryd.prog 94 = some (.int .u32 0) := by kernel_rfl
@[simp] theorem ty_cells95 : Tryd.prog.cellsOf 95 = 65 := by kernel_rfl
@[simp] theorem ty_bytes95 : Tryd.prog.bytesOf 95 = 65 := by kernel_rfl
@[simp] theorem ty_cells96 : Tryd.prog.cellsOf 96 = 1 := by kernel_rfl
@[simp] theorem ty_bytes96 : Tryd.prog.bytesOf 96 = 8 := by kernel_rfl
@[simp] theorem ty_zeroD96 : zeroD Tryd.prog 96 = none := by kernel_rfl
@[simp] theorem ty_zeroC96 : zeroC Tryd.prog 96 = some [.undef] := by kernel_rfl
@[simp] theorem ty_zeroO96 : zeroO Tryd.prog 96 = some [.undef] := by kernel_rfl
@[simp] theorem ty_cells97 : Tryd.prog.cellsOf 97 = 1 := by kernel_rfl
@[simp] theorem ty_bytes97 : Tryd.prog.bytesOf 97 = 8 := by kernel_rfl
@[simp] theorem ty_zeroD97 : zeroD Tryd.prog 97 = some [.int .u64 0] := by kernel_rfl
@[simp] theorem ty_zeroV97 : zeroValD Tryd.prog 97 = some (.int .u64 0) := by kernel_rfl
@[simp] theorem ty_cells98 : Tryd.prog.cellsOf 98 = 1 := by kernel_rfl
@[simp] theorem ty_bytes98 : Tryd.prog.bytesOf 98 = 8 := by kernel_rfl
@[simp] theorem ty_zeroD98 : zeroD Tryd.prog 98 = none := by kernel_rfl
@[simp] theorem ty_zeroC98 : zeroC Tryd.prog 98 = some [.undef] := by kernel_rfl
@[simp] theorem ty_zeroO98 : zeroO Tryd.prog 98 = some [.undef] := by kernel_rfl
@[simp] theorem ty_cells99 : Tryd.prog.cellsOf 99 = 1 := by kernel_rfl
@[simp] theorem ty_bytes99 : Tryd.prog.bytesOf 99 = 8 := by kernel_rfl
@[simp] theorem ty_zeroD99 : zeroD Tryd.prog 99 = none := by kernel_rfl
@[simp] theorem ty_zeroC99 : zeroC Tryd.prog 99 = some [.undef] := by kernel_rfl
@[simp] theorem ty_zeroO99 : zeroO Tryd.prog 99 = some [.undef] := by kernel_rfl
@[simp] theorem ty_cells100 : Tryd.prog.cellsOf 100 = 32 := by kernel_rfl
@[simp] theorem ty_bytes100 : Tryd.prog.bytesOf 100 = 32 := by kernel_rfl
@[simp] theorem ty_zeroD100 : zeroD Tryd.prog 100 = some [.int .u8 0, .int .u8 0, .int .u8 0, .int .u8 0, .int .u8 0, .int .u8 0, .int .u8 0, .int .u8 0, .int .u8 0, .int .u8 0, .int .u8 0, .int .u8 0, .int .u8 0, .int .u8 0, .int .u8 0, .int .u8 0, .int .u8 0, .int .u8 0, .int .u8 0, .int .u8 0, .int .u8 0, .int .u8 0, .int .u8 0, .int .u8 0, .int .u8 0, .int .u8 0, .int .u8 0, .int .u8 0, .int .u8 0, .int .u8 0, .int .u8 0, .int .u8 0] := by kernel_rfl
@[simp] theorem ty_cells101 : Tryd.prog.cellsOf 101 = 64 := by kernel_rfl
@[simp] theorem ty_bytes101 : Tryd.prog.bytesOf 101 = 64 := by kernel_rfl
@[simp] theorem ty_zeroD101 : zeroD Tryd.prog 101 = some [.int .u8 0, .int .u8 0, .int .u8 0, .int .u8 0, .int .u8 0, .int .u8 0, .int .u8 0, .int .u8 0, .int .u8 0, .int .u8 0, .int .u8 0, .int .u8 0, .int .u8 0, .int .u8 0, .int .u8 0, .int .u8 0, .int .u8 0, .int .u8 0, .int .u8 0, .int .u8 0, .int .u8 0, .int .u8 0, .int .u8 0, .int .u8 0, .int .u8 0, .int .u8 0, .int .u8 0, .int .u8 0, .int .u8 0, .int .u8 0, .int .u8 0, .int .u8 0, .int .u8 0, .int .u8 0, .int .u8 0, .int .u8 0, .int .u8 0, .int .u8 0, .int .u8 0, .int .u8 0, .int .u8 0, .int .u8 0, .int .u8 0, .int .u8 0, .int .u8 0, .int .u8 0, .int .u8 0, .int .u8 0, .int .u8 0, .int .u8 0, .int .u8 0, .int .u8 0, .int .u8 0, .int .u8 0, .int .u8 0, .int .u8 0, .int .u8 0, .int .u8 0, .int .u8 0, .int .u8 0, .int .u8 0, .int .u8 0, .int .u8 0, .int .u8 0] := by kernel_rfl
@[simp] theorem ty_cells102 : Tryd.prog.cellsOf 102 = 1 := by kernel_rfl
@[simp] theorem ty_bytes102 : Tryd.prog.bytesOf 102 = 8 := by kernel_rfl
@[simp] theorem ty_zeroD102 : zeroD Tryd.prog 102 = none := by kernel_rfl
@[simp] theorem ty_zeroC102 : zeroC Tryd.prog 102 = some [.undef] := by kernel_rfl
@[simp] theorem ty_zeroO102 : zeroO Tryd.prog 102 = some [.undef] := by kernel_rfl
@[simp] theorem ty_cells103 : Tryd.prog.cellsOf 103 = 4 := by kernel_rfl
@[simp] theorem ty_bytes103 : Tryd.prog.bytesOf 103 = 40 := by kernel_rfl
@[simp] theorem ty_zeroD103 : zeroD Tryd.prog 103 = none := by kernel_rfl
@[simp] theorem ty_zeroC103 : zeroC Tryd.prog 103 = some [.nilp 103, .nilp 103, .nilp 103, .d (.str [])] := by kernel_rfl
@[simp] theorem ty_zeroO103 : zeroO Tryd.prog 103 = some [.undef, .undef, .undef, .d (.str [])] := by kernel_rfl
@[simp] theorem ty_field103_0 : fieldOf Tryd.prog 103 0 = some (0, 17) := by kernel_rfl
@[simp] theorem ty_field103_1 : fieldOf Tryd.prog 103 1 = some (1, 17) := by kernel_rfl
@[simp] theorem ty_field103_2 : fieldOf Tryd.prog 103 2 = some (2, 17) := by kernel_rfl
@[simp] theorem ty_field103_3 : fieldOf Tryd.prog 103 3 = some (3, 9) := by kernel_rfl
@[simp] theorem ty_cells104 : Tryd.prog.cellsOf 104 = 4 := by kernel_rfl
@[simp] theorem ty_bytes104 : Tryd.prog.bytesOf 104 = 40 := by kernel_rfl
@[simp] theorem ty_zeroD104 : zeroD Tryd.prog 104 = none := by kernel_rfl
@[simp] theorem ty_zeroC104 : zeroC Tryd.prog 104 = some [.nilp 104, .nilp 104, .nilp 104, .d (.str [])] := by kernel_rfl
@[simp] theorem ty_zeroO104 : zeroO Tryd.prog 104 = some [.undef, .undef, .undef, .d (.str [])] := by kernel_rfl
@[simp] theorem ty_field104_0 : fieldOf Tryd.prog 104 0 = some (0, 17) := by kernel_rfl
@[simp] theorem ty_field104_1 : fieldOf Tryd.prog 104 1 = some (1, 17) := by kernel_rfl
@[simp] theorem ty_field104_2 : fieldOf Tryd.prog 104 2 = some (2, 17) := by kernel_rfl
@[simp] theorem ty_field104_3 : fieldOf Tryd.prog 104 3 = some (3, 9) := by kernel_rfl
@[simp] theorem ty_cells105 : Tryd.prog.cellsOf 105 = 0 := by kernel_rfl
@[simp] theorem ty_bytes105 : Tryd.prog.bytesOf 105 = 0 := by kernel_rfl
@[simp] theorem ty_cells106 : Tryd.prog.cellsOf 106 = 0 := by kernel_rfl
@[simp] theorem ty_bytes106 : Tryd.prog.bytesOf 106 = 0 := by kernel_rfl
@[simp] theorem ty_field106_0 : fieldOf Tryd.prog 106 0 = some (0, 105) := by kernel_rfl
@[simp] theorem ty_cells107 : Tryd.prog.cellsOf 107 = 0 := by kernel_rfl
@[simp] theorem ty_bytes107 : Tryd.prog.bytesOf 107 = 0 := by kernel_rfl
@[simp] theorem ty_field107_0 : fieldOf Tryd.prog 107 0 = some (0, 105) := by kernel_rfl
@[simp] theorem ty_cells108 : Tryd.prog.cellsOf 108 = 1 := by kernel_rfl
@[simp] theorem ty_bytes108 : Tryd.prog.bytesOf 108 = 8 := by kernel_rfl
@[simp] theorem ty_zeroD108 : zeroD Tryd.prog 108 = none := by kernel_rfl
@[simp] theorem ty_zeroC108 : zeroC Tryd.prog 108 = some [.undef] := by kernel_rfl
@[simp] theorem ty_zeroO108 : zeroO Tryd.prog 108 = some [.undef] := by kernel_rfl
@[simp] theorem ty_cells109 : Tryd.prog.cellsOf 109 = 1 := by kernel_rfl
@[simp] theorem ty_bytes109 : Tryd.prog.bytesOf 109 = 1 := by kernel_rfl
@[simp] theorem ty_zeroD109 : zeroD Tryd.prog 109 = some [.int .u8 0] := by kernel_rfl
@[simp] theorem ty_zeroV109 : zeroValD Tryd.prog 109 = some (.int .u8 0) := by kernel_rfl
@[simp] theorem ty_cells110 : Tryd.prog.cellsOf 110 = 1 := by kernel_rfl
@[simp] theorem ty_bytes110 : Tryd.prog.bytesOf 110 = 1 := by kernel_rfl
@[simp] theorem ty_zeroD110 : zeroD Tryd.prog 110 = some [.int .u8 0] := by kernel_rfl
@[simp] theorem ty_zeroV110 : zeroValD Tryd.prog 110 = some (.int .u8 0) := by kernel_rfl
@[simp] theorem ty_cells111 : Tryd.prog.cellsOf 111 = 1 := by kernel_rfl
@[simp] theorem ty_bytes111 : Tryd.prog.bytesOf 111 = 8 := by kernel_rfl
@[simp] theorem ty_zeroD111 : zeroD Tryd.prog 111 = none := by kernel_rfl
@[simp] theorem ty_zeroC111 : zeroC Tryd.prog 111 = some [.undef] := by kernel_rfl
@[simp] theorem ty_zeroO111 : zeroO Tryd.prog 111 = some [.undef] := by kernel_rfl
@[simp] theorem ty_cells112 : Tryd.prog.cellsOf 112 = 1 := by kernel_rfl
@[simp] theorem ty_bytes112 : Tryd.prog.bytesOf 112 = 8 := by kernel_rfl
@[simp] theorem ty_zeroD112 : zeroD Tryd.prog 112 = none := by kernel_rfl
@[simp] theorem ty_zeroC112 : zeroC Tryd.prog 112 = some [.nilp 112] := by kernel_rfl
@[simp] theorem ty_zeroO112 : zeroO Tryd.prog 112 = some [.undef] := by kernel_rfl
@[simp] theorem ty_cells113 : Tryd.prog.cellsOf 113 = 1 := by kernel_rfl
@[simp] theorem ty_bytes113 : Tryd.prog.bytesOf 113 = 4 := by kernel_rfl
@[simp] theorem ty_zeroD113 : zeroD Tryd.prog 113 = some [.int .i32 0] := by kernel_rfl
@[simp] theorem ty_zeroV113 : zeroValD Tryd.prog 113 = some (.int .i32 0) := by kernel_rfl
@[simp] theorem ty_cells114 : Tryd.prog.cellsOf 114 = 1 := by kernel_rfl
@[simp] theorem ty_bytes114 : Tryd.prog.bytesOf 114 = 4 := by kernel_rfl
@[simp] theorem ty_zeroD114 : zeroD Tryd.prog 114 = some [.int .i32 0] := by kernel_rfl
@[simp] theorem ty_zeroV114 : zeroValD Tryd.prog 114 = some (.int .i32 0) := by kernel_rfl
@[simp] theorem ty_cells115 : Tryd.prog.cellsOf 115 = 11 := by kernel_rfl
@[simp] theorem ty_bytes115 : Tryd.prog.bytesOf 115 = 48 := by kernel_rfl
@[simp] theorem ty_zeroD115 : zeroD Tryd.prog 115 = none := by kernel_rfl
@[simp] theorem ty_zeroC115 : zeroC Tryd.prog 115 = some [.d (.int .u64 0), .d (.int .u64 0), .d (.int .u32 0), .d (.int .u8 0), .d (.int .u8 0), .d (.int .u8 0), .d (.int .u8 0), .undef, .nilp 115, .d (.int .i32 0), .d (.int .i32 0)] := by kernel_rfl
@[simp] theorem ty_zeroO115 : zeroO Tryd.prog 115 = some [.d (.int .u64 0), .d (.int .u64 0), .d (.int .u32 0), .d (.int .u8 0), .d (.int .u8 0), .d (.int .u8 0), .d (.int .u8 0), .undef, .undef, .d (.int .i32 0), .d (.int .i32 0)] := by kernel_rfl
@[simp] theorem ty_field115_0 : fieldOf Tryd.prog 115 0 = some (0, 12) := by kernel_rfl
@[simp] theorem ty_field115_1 : fieldOf Tryd.prog 115 1 = some (1, 12) := by kernel_rfl
@[simp] theorem ty_field115_2 : fieldOf Tryd.prog 115 2 = some (2, 94) := by kernel_rfl
@[simp] theorem ty_field115_3 : fieldOf Tryd.prog 115 3 = some (3, 109) := by kernel_rfl
@[simp] theorem ty_field115_4 : fieldOf Tryd.prog 115 4 = some (4, 5) := by kernel_rfl
@[simp] theorem ty_field115_5 : fieldOf Tryd.prog 115 5 = some (5, 5) := by kernel_rfl
@[simp] theorem ty_field115_6 : fieldOf Tryd.prog 115 6 = some (6, 110) := by kernel_rfl
@[simp] theorem ty_field115_7 : fieldOf Tryd.prog 115 7 = some (7, 111) := by kernel_rfl
@[simp] theorem ty_field115_8 : fieldOf Tryd.prog 115 8 = some (8, 112) := by kernel_rfl
@[simp] theorem ty_field115_9 : fieldOf Tryd.prog 115 9 = some (9, 113) := by kernel_rfl
@[simp] theorem ty_field115_10 : fieldOf Tryd.prog 115 10 = some (10, 114) := by kernel_rfl
@[simp] theorem ty_cells116 : Tryd.prog.cellsOf 116 = 11 := by kernel_rfl
@[simp] theorem ty_bytes116 : Tryd.prog.bytesOf 116 = 48 := by kernel_rfl
@[simp] theorem ty_zeroD116 : zeroD Tryd.prog 116 = none := by kernel_rfl
@[simp] theorem ty_zeroC116 : zeroC Tryd.prog 116 = some [.d (.int .u64 0), .d (.int .u64 0), .d (.int .u32 0), .d (.int .u8 0), .d (.int .u8 0), .d (.int .u8 0), .d (.int .u8 0), .undef, .nilp 116, .d (.int .i32 0), .d (.int .i32 0)] := by kernel_rfl
@[simp] theorem ty_zeroO116 : zeroO Tryd.prog 116 = some [.d (.int .u64 0), .d (.int .u64 0), .d (.int .u32 0), .d (.int .u8 0), .d (.int .u8 0), .d (.int .u8 0), .d (.int .u8 0), .undef, .undef, .d (.int .i32 0), .d (.int .i32 0)] := by kernel_rfl
@[simp] theorem ty_field116_0 : fieldOf Tryd.prog 116 0 = some (0, 12) := by kernel_rfl
@[simp] theorem ty_field116_1 : fieldOf Tryd.prog 116 1 = some (1, 12) := by kernel_rfl
@[simp] theorem ty_field116_2 : fieldOf Tryd.prog 116 2 = some (2, 94) := by kernel_rfl
@[simp] theorem ty_field116_3 : fieldOf Tryd.prog 116 3 = some (3, 109) := by kernel_rfl
@[simp] theorem ty_field116_4 : fieldOf Tryd.prog 116 4 = some (4, 5) := by kernel_rfl
@[simp] theorem ty_field116_5 : fieldOf Tryd.prog 116 5 = some (5, 5) := by kernel_rfl
@[simp] theorem ty_field116_6 : fieldOf Tryd.prog 116 6 = some (6, 110) := by kernel_rfl
@[simp] theorem ty_field116_7 : fieldOf Tryd.prog 116 7 = some (7, 111) := by kernel_rfl
@[simp] theorem ty_field116_8 : fieldOf Tryd.prog 116 8 = some (8, 112) := by kernel_rfl
@[simp] theorem ty_field116_9 : fieldOf Tryd.prog 116 9 = some (9, 113) := by kernel_rfl
@[simp] theorem ty_field116_10 : fieldOf Tryd.prog 116 10 = some (10, 114) := by kernel_rfl
@[simp] theorem ty_elemOk5 : elemOk Tryd.prog 5 = true := by kernel_rfl
@[simp] theorem ty_elemOk9 : elemOk Tryd.prog 9 = true := by kernel_rfl
@[simp] theorem ty_elemOk28 : elemOk Tryd.prog 28 = true := by kernel_rfl
@[simp] theorem ty_elemOk30 : elemOk Tryd.prog 30 = true := by kernel_rfl
@[simp] theorem ty_elemOk65 : elemOk Tryd.prog 65 = true := by kernel_rfl
end Go.Proofs.YtcmpodbjhoeblaaDoor
