/- The facts on this translation's types that the machine on data asks, one closed fact each. By a program of ours. No condition. -/
import Derived.Test.YthikbenglkfioaaGreatDoorZF
import Derived.KernelRfl
import Derived.Test.YthikbenglkfioaaGreatDoorProg
set_option linter.unusedVariables false
set_option linter.unusedSimpArgs false
namespace Go.Proofs.YthikbenglkfioaaGreatDoor
open Go Go.VM
@[simp] theorem ty_cells1 : Tryz.prog.cellsOf 1 = 1 := by kernel_rfl
@[simp] theorem ty_bytes1 : Tryz.prog.bytesOf 1 = 8 := by kernel_rfl
@[simp] theorem ty_zeroD1 : zeroD Tryz.prog 1 = none := by kernel_rfl
@[simp] theorem ty_zeroC1 : zeroC Tryz.prog 1 = some [.undef] := by kernel_rfl
@[simp] theorem ty_zeroO1 : zeroO Tryz.prog 1 = some [.undef] := by kernel_rfl
@[simp] theorem ty_cells2 : Tryz.prog.cellsOf 2 = 1 := by kernel_rfl
@[simp] theorem ty_bytes2 : Tryz.prog.bytesOf 2 = 8 := by kernel_rfl
@[simp] theorem ty_zeroD2 : zeroD Tryz.prog 2 = some [.int .i64 0] := by kernel_rfl
@[simp] theorem ty_zeroV2 : zeroValD Tryz.prog 2 = some (.int .i64 0) := by kernel_rfl
@[simp] theorem ty_cells3 : Tryz.prog.cellsOf 3 = 1 := by kernel_rfl
@[simp] theorem ty_bytes3 : Tryz.prog.bytesOf 3 = 8 := by kernel_rfl
@[simp] theorem ty_zeroD3 : zeroD Tryz.prog 3 = some [.int .i64 0] := by kernel_rfl
@[simp] theorem ty_zeroV3 : zeroValD Tryz.prog 3 = some (.int .i64 0) := by kernel_rfl
@[simp] theorem ty_cells4 : Tryz.prog.cellsOf 4 = 1 := by kernel_rfl
@[simp] theorem ty_bytes4 : Tryz.prog.bytesOf 4 = 1 := by kernel_rfl
@[simp] theorem ty_zeroD4 : zeroD Tryz.prog 4 = some [.bool false] := by kernel_rfl
@[simp] theorem ty_zeroV4 : zeroValD Tryz.prog 4 = some (.bool false) := by kernel_rfl
@[simp] theorem ty_cells5 : Tryz.prog.cellsOf 5 = 1 := by kernel_rfl
@[simp] theorem ty_bytes5 : Tryz.prog.bytesOf 5 = 1 := by kernel_rfl
@[simp] theorem ty_zeroD5 : zeroD Tryz.prog 5 = some [.int .u8 0] := by kernel_rfl
@[simp] theorem ty_zeroV5 : zeroValD Tryz.prog 5 = some (.int .u8 0) := by kernel_rfl
@[simp] theorem ty_cells6 : Tryz.prog.cellsOf 6 = 1 := by kernel_rfl
@[simp] theorem ty_bytes6 : Tryz.prog.bytesOf 6 = 1 := by kernel_rfl
@[simp] theorem ty_zeroD6 : zeroD Tryz.prog 6 = some [.int .u8 0] := by kernel_rfl
@[simp] theorem ty_zeroV6 : zeroValD Tryz.prog 6 = some (.int .u8 0) := by kernel_rfl
@[simp] theorem ty_cells7 : Tryz.prog.cellsOf 7 = 4 := by kernel_rfl
@[simp] theorem ty_bytes7 : Tryz.prog.bytesOf 7 = 24 := by kernel_rfl
@[simp] theorem ty_zeroD7 : zeroD Tryz.prog 7 = some [.int .i64 0, .int .i64 0, .bool false, .int .u8 0] := by kernel_rfl
@[simp] theorem ty_zeroV7 : zeroValD Tryz.prog 7 = some (.agg [.int .i64 0, .int .i64 0, .bool false, .int .u8 0]) := by kernel_rfl
@[simp] theorem ty_isStruct7 : isStruct Tryz.prog 7 = true := by kernel_rfl
@[simp] theorem ty_field7_0 : fieldOf Tryz.prog 7 0 = some (0, 2) := by kernel_rfl
@[simp] theorem ty_field7_1 : fieldOf Tryz.prog 7 1 = some (1, 3) := by kernel_rfl
@[simp] theorem ty_field7_2 : fieldOf Tryz.prog 7 2 = some (2, 4) := by kernel_rfl
@[simp] theorem ty_field7_3 : fieldOf Tryz.prog 7 3 = some (3, 6) := by kernel_rfl
@[simp] theorem ty_cells8 : Tryz.prog.cellsOf 8 = 4 := by kernel_rfl
@[simp] theorem ty_bytes8 : Tryz.prog.bytesOf 8 = 24 := by kernel_rfl
@[simp] theorem ty_zeroD8 : zeroD Tryz.prog 8 = some [.int .i64 0, .int .i64 0, .bool false, .int .u8 0] := by kernel_rfl
@[simp] theorem ty_zeroV8 : zeroValD Tryz.prog 8 = some (.agg [.int .i64 0, .int .i64 0, .bool false, .int .u8 0]) := by kernel_rfl
@[simp] theorem ty_isStruct8 : isStruct Tryz.prog 8 = true := by kernel_rfl
@[simp] theorem ty_field8_0 : fieldOf Tryz.prog 8 0 = some (0, 2) := by kernel_rfl
@[simp] theorem ty_field8_1 : fieldOf Tryz.prog 8 1 = some (1, 3) := by kernel_rfl
@[simp] theorem ty_field8_2 : fieldOf Tryz.prog 8 2 = some (2, 4) := by kernel_rfl
@[simp] theorem ty_field8_3 : fieldOf Tryz.prog 8 3 = some (3, 6) := by kernel_rfl
@[simp] theorem ty_cells9 : Tryz.prog.cellsOf 9 = 1 := by kernel_rfl
@[simp] theorem ty_bytes9 : Tryz.prog.bytesOf 9 = 16 := by kernel_rfl
@[simp] theorem ty_zeroD9 : zeroD Tryz.prog 9 = some [.str []] := by kernel_rfl
@[simp] theorem ty_zeroV9 : zeroValD Tryz.prog 9 = some (.str []) := by kernel_rfl
@[simp] theorem ty_cells10 : Tryz.prog.cellsOf 10 = 1 := by kernel_rfl
@[simp] theorem ty_bytes10 : Tryz.prog.bytesOf 10 = 16 := by kernel_rfl
@[simp] theorem ty_zeroD10 : zeroD Tryz.prog 10 = some [.str []] := by kernel_rfl
@[simp] theorem ty_zeroV10 : zeroValD Tryz.prog 10 = some (.str []) := by kernel_rfl
@[simp] theorem ty_cells11 : Tryz.prog.cellsOf 11 = 1 := by kernel_rfl
@[simp] theorem ty_bytes11 : Tryz.prog.bytesOf 11 = 16 := by kernel_rfl
@[simp] theorem ty_zeroD11 : zeroD Tryz.prog 11 = some [.str []] := by kernel_rfl
@[simp] theorem ty_zeroV11 : zeroValD Tryz.prog 11 = some (.str []) := by kernel_rfl
@[simp] theorem ty_cells12 : Tryz.prog.cellsOf 12 = 1 := by kernel_rfl
@[simp] theorem ty_bytes12 : Tryz.prog.bytesOf 12 = 8 := by kernel_rfl
@[simp] theorem ty_zeroD12 : zeroD Tryz.prog 12 = some [.int .u64 0] := by kernel_rfl
@[simp] theorem ty_zeroV12 : zeroValD Tryz.prog 12 = some (.int .u64 0) := by kernel_rfl
@[simp] theorem ty_cells13 : Tryz.prog.cellsOf 13 = 2 := by kernel_rfl
@[simp] theorem ty_bytes13 : Tryz.prog.bytesOf 13 = 24 := by kernel_rfl
@[simp] theorem ty_zeroD13 : zeroD Tryz.prog 13 = some [.str [], .int .u64 0] := by kernel_rfl
@[simp] theorem ty_zeroV13 : zeroValD Tryz.prog 13 = some (.agg [.str [], .int .u64 0]) := by kernel_rfl
@[simp] theorem ty_isStruct13 : isStruct Tryz.prog 13 = true := by kernel_rfl
@[simp] theorem ty_field13_0 : fieldOf Tryz.prog 13 0 = some (0, 9) := by kernel_rfl
@[simp] theorem ty_field13_1 : fieldOf Tryz.prog 13 1 = some (1, 12) := by kernel_rfl
@[simp] theorem ty_cells14 : Tryz.prog.cellsOf 14 = 2 := by kernel_rfl
@[simp] theorem ty_bytes14 : Tryz.prog.bytesOf 14 = 24 := by kernel_rfl
@[simp] theorem ty_zeroD14 : zeroD Tryz.prog 14 = some [.str [], .int .u64 0] := by kernel_rfl
@[simp] theorem ty_zeroV14 : zeroValD Tryz.prog 14 = some (.agg [.str [], .int .u64 0]) := by kernel_rfl
@[simp] theorem ty_isStruct14 : isStruct Tryz.prog 14 = true := by kernel_rfl
@[simp] theorem ty_field14_0 : fieldOf Tryz.prog 14 0 = some (0, 9) := by kernel_rfl
@[simp] theorem ty_field14_1 : fieldOf Tryz.prog 14 1 = some (1, 12) := by kernel_rfl
@[simp] theorem ty_cells15 : Tryz.prog.cellsOf 15 = 1 := by kernel_rfl
@[simp] theorem ty_bytes15 : Tryz.prog.bytesOf 15 = 8 := by kernel_rfl
@[simp] theorem ty_zeroD15 : zeroD Tryz.prog 15 = none := by kernel_rfl
@[simp] theorem ty_zeroC15 : zeroC Tryz.prog 15 = some [.undef] := by kernel_rfl
@[simp] theorem ty_zeroO15 : zeroO Tryz.prog 15 = some [.undef] := by kernel_rfl
@[simp] theorem ty_cells16 : Tryz.prog.cellsOf 16 = 1 := by kernel_rfl
@[simp] theorem ty_bytes16 : Tryz.prog.bytesOf 16 = 8 := by kernel_rfl
@[simp] theorem ty_zeroD16 : zeroD Tryz.prog 16 = none := by kernel_rfl
@[simp] theorem ty_zeroC16 : zeroC Tryz.prog 16 = some [.undef] := by kernel_rfl
@[simp] theorem ty_zeroO16 : zeroO Tryz.prog 16 = some [.undef] := by kernel_rfl
@[simp] theorem ty_cells17 : Tryz.prog.cellsOf 17 = 1 := by kernel_rfl
@[simp] theorem ty_bytes17 : Tryz.prog.bytesOf 17 = 8 := by kernel_rfl
@[simp] theorem ty_zeroD17 : zeroD Tryz.prog 17 = none := by kernel_rfl
@[simp] theorem ty_zeroC17 : zeroC Tryz.prog 17 = some [.undef] := by kernel_rfl
@[simp] theorem ty_zeroO17 : zeroO Tryz.prog 17 = some [.undef] := by kernel_rfl
@[simp] theorem ty_cells18 : Tryz.prog.cellsOf 18 = 1 := by kernel_rfl
@[simp] theorem ty_bytes18 : Tryz.prog.bytesOf 18 = 8 := by kernel_rfl
@[simp] theorem ty_zeroD18 : zeroD Tryz.prog 18 = none := by kernel_rfl
@[simp] theorem ty_zeroC18 : zeroC Tryz.prog 18 = some [.undef] := by kernel_rfl
@[simp] theorem ty_zeroO18 : zeroO Tryz.prog 18 = some [.undef] := by kernel_rfl
@[simp] theorem ty_field18_0 : fieldOf Tryz.prog 18 0 = some (0, 17) := by kernel_rfl
@[simp] theorem ty_cells19 : Tryz.prog.cellsOf 19 = 1 := by kernel_rfl
@[simp] theorem ty_bytes19 : Tryz.prog.bytesOf 19 = 8 := by kernel_rfl
@[simp] theorem ty_zeroD19 : zeroD Tryz.prog 19 = none := by kernel_rfl
@[simp] theorem ty_zeroC19 : zeroC Tryz.prog 19 = some [.undef] := by kernel_rfl
@[simp] theorem ty_zeroO19 : zeroO Tryz.prog 19 = some [.undef] := by kernel_rfl
@[simp] theorem ty_field19_0 : fieldOf Tryz.prog 19 0 = some (0, 17) := by kernel_rfl
@[simp] theorem ty_zeroD20 : zeroD Tryz.prog 20 = none := by kernel_rfl
@[simp] theorem ty_zeroC20 : zeroC Tryz.prog 20 = some [.undef] := by kernel_rfl
@[simp] theorem ty_zeroO20 : zeroO Tryz.prog 20 = some [.undef] := by kernel_rfl
@[simp] theorem ty_cells21 : Tryz.prog.cellsOf 21 = 1 := by kernel_rfl
@[simp] theorem ty_bytes21 : Tryz.prog.bytesOf 21 = 4 := by kernel_rfl
@[simp] theorem ty_zeroD21 : zeroD Tryz.prog 21 = some [.int .i32 0] := by kernel_rfl
@[simp] theorem ty_zeroV21 : zeroValD Tryz.prog 21 = some (.int .i32 0) := by kernel_rfl
@[simp] theorem ty_cells22 : Tryz.prog.cellsOf 22 = 1 := by kernel_rfl
@[simp] theorem ty_bytes22 : Tryz.prog.bytesOf 22 = 24 := by kernel_rfl
@[simp] theorem ty_zeroD22 : zeroD Tryz.prog 22 = some [.nils] := by kernel_rfl
@[simp] theorem ty_zeroV22 : zeroValD Tryz.prog 22 = some (.nils) := by kernel_rfl
@[simp] theorem ty_elem22 : elemOfD Tryz.prog 22 = some 45 := by kernel_rfl
@[simp] theorem ty_cells23 : Tryz.prog.cellsOf 23 = 1 := by kernel_rfl
@[simp] theorem ty_bytes23 : Tryz.prog.bytesOf 23 = 24 := by kernel_rfl
@[simp] theorem ty_zeroD23 : zeroD Tryz.prog 23 = some [.nils] := by kernel_rfl
@[simp] theorem ty_zeroV23 : zeroValD Tryz.prog 23 = some (.nils) := by kernel_rfl
@[simp] theorem ty_elem23 : elemOfD Tryz.prog 23 = some 81 := by kernel_rfl
@[simp] theorem ty_cells24 : Tryz.prog.cellsOf 24 = 1 := by kernel_rfl
@[simp] theorem ty_bytes24 : Tryz.prog.bytesOf 24 = 24 := by kernel_rfl
@[simp] theorem ty_zeroD24 : zeroD Tryz.prog 24 = some [.nils] := by kernel_rfl
@[simp] theorem ty_zeroV24 : zeroValD Tryz.prog 24 = some (.nils) := by kernel_rfl
@[simp] theorem ty_elem24 : elemOfD Tryz.prog 24 = some 122 := by kernel_rfl
@[simp] theorem ty_cells25 : Tryz.prog.cellsOf 25 = 3 := by kernel_rfl
@[simp] theorem ty_bytes25 : Tryz.prog.bytesOf 25 = 72 := by kernel_rfl
@[simp] theorem ty_zeroD25 : zeroD Tryz.prog 25 = some [.nils, .nils, .nils] := by kernel_rfl
@[simp] theorem ty_zeroV25 : zeroValD Tryz.prog 25 = some (.agg [.nils, .nils, .nils]) := by kernel_rfl
@[simp] theorem ty_isStruct25 : isStruct Tryz.prog 25 = true := by kernel_rfl
@[simp] theorem ty_field25_0 : fieldOf Tryz.prog 25 0 = some (0, 22) := by kernel_rfl
@[simp] theorem ty_field25_1 : fieldOf Tryz.prog 25 1 = some (1, 23) := by kernel_rfl
@[simp] theorem ty_field25_2 : fieldOf Tryz.prog 25 2 = some (2, 24) := by kernel_rfl
@[simp] theorem ty_cells26 : Tryz.prog.cellsOf 26 = 3 := by kernel_rfl
@[simp] theorem ty_bytes26 : Tryz.prog.bytesOf 26 = 72 := by kernel_rfl
@[simp] theorem ty_zeroD26 : zeroD Tryz.prog 26 = some [.nils, .nils, .nils] := by kernel_rfl
@[simp] theorem ty_zeroV26 : zeroValD Tryz.prog 26 = some (.agg [.nils, .nils, .nils]) := by kernel_rfl
@[simp] theorem ty_isStruct26 : isStruct Tryz.prog 26 = true := by kernel_rfl
@[simp] theorem ty_field26_0 : fieldOf Tryz.prog 26 0 = some (0, 22) := by kernel_rfl
@[simp] theorem ty_field26_1 : fieldOf Tryz.prog 26 1 = some (1, 23) := by kernel_rfl
@[simp] theorem ty_field26_2 : fieldOf Tryz.prog 26 2 = some (2, 24) := by kernel_rfl
@[simp] theorem ty_cells27 : Tryz.prog.cellsOf 27 = 1 := by kernel_rfl
@[simp] theorem ty_bytes27 : Tryz.prog.bytesOf 27 = 8 := by kernel_rfl
@[simp] theorem ty_zeroD27 : zeroD Tryz.prog 27 = some [.int .i64 0] := by kernel_rfl
@[simp] theorem ty_zeroV27 : zeroValD Tryz.prog 27 = some (.int .i64 0) := by kernel_rfl
@[simp] theorem ty_cells28 : Tryz.prog.cellsOf 28 = 1 := by kernel_rfl
@[simp] theorem ty_bytes28 : Tryz.prog.bytesOf 28 = 24 := by kernel_rfl
@[simp] theorem ty_zeroD28 : zeroD Tryz.prog 28 = some [.nils] := by kernel_rfl
@[simp] theorem ty_zeroV28 : zeroValD Tryz.prog 28 = some (.nils) := by kernel_rfl
@[simp] theorem ty_elem28 : elemOfD Tryz.prog 28 = some 30 := by kernel_rfl
@[simp] theorem ty_cells29 : Tryz.prog.cellsOf 29 = 4 := by kernel_rfl
@[simp] theorem ty_bytes29 : Tryz.prog.bytesOf 29 = 56 := by kernel_rfl
@[simp] theorem ty_zeroD29 : zeroD Tryz.prog 29 = some [.int .i64 0, .str [], .int .i64 0, .nils] := by kernel_rfl
@[simp] theorem ty_zeroV29 : zeroValD Tryz.prog 29 = some (.agg [.int .i64 0, .str [], .int .i64 0, .nils]) := by kernel_rfl
@[simp] theorem ty_isStruct29 : isStruct Tryz.prog 29 = true := by kernel_rfl
@[simp] theorem ty_field29_0 : fieldOf Tryz.prog 29 0 = some (0, 27) := by kernel_rfl
@[simp] theorem ty_field29_1 : fieldOf Tryz.prog 29 1 = some (1, 9) := by kernel_rfl
@[simp] theorem ty_field29_2 : fieldOf Tryz.prog 29 2 = some (2, 3) := by kernel_rfl
@[simp] theorem ty_field29_3 : fieldOf Tryz.prog 29 3 = some (3, 28) := by kernel_rfl
@[simp] theorem ty_cells30 : Tryz.prog.cellsOf 30 = 4 := by kernel_rfl
@[simp] theorem ty_bytes30 : Tryz.prog.bytesOf 30 = 56 := by kernel_rfl
@[simp] theorem ty_zeroD30 : zeroD Tryz.prog 30 = some [.int .i64 0, .str [], .int .i64 0, .nils] := by kernel_rfl
@[simp] theorem ty_zeroV30 : zeroValD Tryz.prog 30 = some (.agg [.int .i64 0, .str [], .int .i64 0, .nils]) := by kernel_rfl
@[simp] theorem ty_isStruct30 : isStruct Tryz.prog 30 = true := by kernel_rfl
@[simp] theorem ty_field30_0 : fieldOf Tryz.prog 30 0 = some (0, 27) := by kernel_rfl
@[simp] theorem ty_field30_1 : fieldOf Tryz.prog 30 1 = some (1, 9) := by kernel_rfl
@[simp] theorem ty_field30_2 : fieldOf Tryz.prog 30 2 = some (2, 3) := by kernel_rfl
@[simp] theorem ty_field30_3 : fieldOf Tryz.prog 30 3 = some (3, 28) := by kernel_rfl
@[simp] theorem ty_cells31 : Tryz.prog.cellsOf 31 = 10 := by kernel_rfl
@[simp] theorem ty_bytes31 : Tryz.prog.bytesOf 31 = 152 := by kernel_rfl
@[simp] theorem ty_zeroD31 : zeroD Tryz.prog 31 = some [.str [], .nils, .int .i64 0, .str [], .int .i64 0, .nils, .int .i64 0, .str [], .int .i64 0, .nils] := by kernel_rfl
@[simp] theorem ty_zeroV31 : zeroValD Tryz.prog 31 = some (.agg [.str [], .nils, .int .i64 0, .str [], .int .i64 0, .nils, .int .i64 0, .str [], .int .i64 0, .nils]) := by kernel_rfl
@[simp] theorem ty_isStruct31 : isStruct Tryz.prog 31 = true := by kernel_rfl
@[simp] theorem ty_field31_0 : fieldOf Tryz.prog 31 0 = some (0, 9) := by kernel_rfl
@[simp] theorem ty_field31_1 : fieldOf Tryz.prog 31 1 = some (1, 22) := by kernel_rfl
@[simp] theorem ty_field31_2 : fieldOf Tryz.prog 31 2 = some (2, 30) := by kernel_rfl
@[simp] theorem ty_field31_3 : fieldOf Tryz.prog 31 3 = some (6, 30) := by kernel_rfl
@[simp] theorem ty_cells32 : Tryz.prog.cellsOf 32 = 10 := by kernel_rfl
@[simp] theorem ty_bytes32 : Tryz.prog.bytesOf 32 = 152 := by kernel_rfl
@[simp] theorem ty_zeroD32 : zeroD Tryz.prog 32 = some [.str [], .nils, .int .i64 0, .str [], .int .i64 0, .nils, .int .i64 0, .str [], .int .i64 0, .nils] := by kernel_rfl
@[simp] theorem ty_zeroV32 : zeroValD Tryz.prog 32 = some (.agg [.str [], .nils, .int .i64 0, .str [], .int .i64 0, .nils, .int .i64 0, .str [], .int .i64 0, .nils]) := by kernel_rfl
@[simp] theorem ty_isStruct32 : isStruct Tryz.prog 32 = true := by kernel_rfl
@[simp] theorem ty_field32_0 : fieldOf Tryz.prog 32 0 = some (0, 9) := by kernel_rfl
@[simp] theorem ty_field32_1 : fieldOf Tryz.prog 32 1 = some (1, 22) := by kernel_rfl
@[simp] theorem ty_field32_2 : fieldOf Tryz.prog 32 2 = some (2, 30) := by kernel_rfl
@[simp] theorem ty_field32_3 : fieldOf Tryz.prog 32 3 = some (6, 30) := by kernel_rfl
@[simp] theorem ty_cells33 : Tryz.prog.cellsOf 33 = 1 := by kernel_rfl
@[simp] theorem ty_bytes33 : Tryz.prog.bytesOf 33 = 8 := by kernel_rfl
@[simp] theorem ty_zeroD33 : zeroD Tryz.prog 33 = none := by kernel_rfl
@[simp] theorem ty_zeroC33 : zeroC Tryz.prog 33 = some [.undef] := by kernel_rfl
@[simp] theorem ty_zeroO33 : zeroO Tryz.prog 33 = some [.undef] := by kernel_rfl
@[simp] theorem ty_cells34 : Tryz.prog.cellsOf 34 = 1 := by kernel_rfl
@[simp] theorem ty_bytes34 : Tryz.prog.bytesOf 34 = 8 := by kernel_rfl
@[simp] theorem ty_zeroD34 : zeroD Tryz.prog 34 = none := by kernel_rfl
@[simp] theorem ty_zeroC34 : zeroC Tryz.prog 34 = some [.undef] := by kernel_rfl
@[simp] theorem ty_zeroO34 : zeroO Tryz.prog 34 = some [.undef] := by kernel_rfl
@[simp] theorem ty_cells35 : Tryz.prog.cellsOf 35 = 1 := by kernel_rfl
@[simp] theorem ty_bytes35 : Tryz.prog.bytesOf 35 = 8 := by kernel_rfl
@[simp] theorem ty_zeroD35 : zeroD Tryz.prog 35 = none := by kernel_rfl
@[simp] theorem ty_zeroC35 : zeroC Tryz.prog 35 = some [.undef] := by kernel_rfl
@[simp] theorem ty_zeroO35 : zeroO Tryz.prog 35 = some [.undef] := by kernel_rfl
@[simp] theorem ty_cells36 : Tryz.prog.cellsOf 36 = 1 := by kernel_rfl
@[simp] theorem ty_bytes36 : Tryz.prog.bytesOf 36 = 8 := by kernel_rfl
@[simp] theorem ty_zeroD36 : zeroD Tryz.prog 36 = some [.int .i64 0] := by kernel_rfl
@[simp] theorem ty_zeroV36 : zeroValD Tryz.prog 36 = some (.int .i64 0) := by kernel_rfl
@[simp] theorem ty_cells37 : Tryz.prog.cellsOf 37 = 1 := by kernel_rfl
@[simp] theorem ty_bytes37 : Tryz.prog.bytesOf 37 = 8 := by kernel_rfl
@[simp] theorem ty_zeroD37 : zeroD Tryz.prog 37 = none := by kernel_rfl
@[simp] theorem ty_zeroC37 : zeroC Tryz.prog 37 = some [.undef] := by kernel_rfl
@[simp] theorem ty_zeroO37 : zeroO Tryz.prog 37 = some [.undef] := by kernel_rfl
@[simp] theorem ty_cells38 : Tryz.prog.cellsOf 38 = 1 := by kernel_rfl
@[simp] theorem ty_bytes38 : Tryz.prog.bytesOf 38 = 8 := by kernel_rfl
@[simp] theorem ty_zeroD38 : zeroD Tryz.prog 38 = none := by kernel_rfl
@[simp] theorem ty_zeroC38 : zeroC Tryz.prog 38 = some [.undef] := by kernel_rfl
@[simp] theorem ty_zeroO38 : zeroO Tryz.prog 38 = some [.undef] := by kernel_rfl
@[simp] theorem ty_cells39 : Tryz.prog.cellsOf 39 = 1 := by kernel_rfl
@[simp] theorem ty_bytes39 : Tryz.prog.bytesOf 39 = 1 := by kernel_rfl
@[simp] theorem ty_zeroD39 : zeroD Tryz.prog 39 = some [.int .i8 0] := by kernel_rfl
@[simp] theorem ty_zeroV39 : zeroValD Tryz.prog 39 = some (.int .i8 0) := by kernel_rfl
@[simp] theorem ty_cells40 : Tryz.prog.cellsOf 40 = 6 := by kernel_rfl
@[simp] theorem ty_bytes40 : Tryz.prog.bytesOf 40 = 6 := by kernel_rfl
@[simp] theorem ty_zeroD40 : zeroD Tryz.prog 40 = some [.int .i8 0, .int .i8 0, .int .i8 0, .int .i8 0, .int .i8 0, .int .i8 0] := by kernel_rfl
@[simp] theorem ty_cells42 : Tryz.prog.cellsOf 42 = 1 := by kernel_rfl
@[simp] theorem ty_bytes42 : Tryz.prog.bytesOf 42 = 8 := by kernel_rfl
@[simp] theorem ty_zeroD42 : zeroD Tryz.prog 42 = none := by kernel_rfl
@[simp] theorem ty_zeroC42 : zeroC Tryz.prog 42 = some [.undef] := by kernel_rfl
@[simp] theorem ty_zeroO42 : zeroO Tryz.prog 42 = some [.undef] := by kernel_rfl
@[simp] theorem ty_cells43 : Tryz.prog.cellsOf 43 = 1 := by kernel_rfl
@[simp] theorem ty_bytes43 : Tryz.prog.bytesOf 43 = 16 := by kernel_rfl
@[simp] theorem ty_zeroD43 : zeroD Tryz.prog 43 = some [.str []] := by kernel_rfl
@[simp] theorem ty_zeroV43 : zeroValD Tryz.prog 43 = some (.str []) := by kernel_rfl
@[simp] theorem ty_cells44 : Tryz.prog.cellsOf 44 = 2 := by kernel_rfl
@[simp] theorem ty_bytes44 : Tryz.prog.bytesOf 44 = 32 := by kernel_rfl
@[simp] theorem ty_zeroD44 : zeroD Tryz.prog 44 = some [.str [], .str []] := by kernel_rfl
@[simp] theorem ty_zeroV44 : zeroValD Tryz.prog 44 = some (.agg [.str [], .str []]) := by kernel_rfl
@[simp] theorem ty_isStruct44 : isStruct Tryz.prog 44 = true := by kernel_rfl
@[simp] theorem ty_field44_0 : fieldOf Tryz.prog 44 0 = some (0, 9) := by kernel_rfl
@[simp] theorem ty_field44_1 : fieldOf Tryz.prog 44 1 = some (1, 43) := by kernel_rfl
@[simp] theorem ty_cells45 : Tryz.prog.cellsOf 45 = 2 := by kernel_rfl
@[simp] theorem ty_bytes45 : Tryz.prog.bytesOf 45 = 32 := by kernel_rfl
@[simp] theorem ty_zeroD45 : zeroD Tryz.prog 45 = some [.str [], .str []] := by kernel_rfl
@[simp] theorem ty_zeroV45 : zeroValD Tryz.prog 45 = some (.agg [.str [], .str []]) := by kernel_rfl
@[simp] theorem ty_isStruct45 : isStruct Tryz.prog 45 = true := by kernel_rfl
@[simp] theorem ty_field45_0 : fieldOf Tryz.prog 45 0 = some (0, 9) := by kernel_rfl
@[simp] theorem ty_field45_1 : fieldOf Tryz.prog 45 1 = some (1, 43) := by kernel_rfl
@[simp] theorem ty_flat45 : flatDescs Tryz.prog 45 = some [.string, .string] := by kernel_rfl
@[simp] theorem ty_cells46 : Tryz.prog.cellsOf 46 = 1 := by kernel_rfl
@[simp] theorem ty_bytes46 : Tryz.prog.bytesOf 46 = 8 := by kernel_rfl
@[simp] theorem ty_zeroD46 : zeroD Tryz.prog 46 = none := by kernel_rfl
@[simp] theorem ty_zeroC46 : zeroC Tryz.prog 46 = some [.undef] := by kernel_rfl
@[simp] theorem ty_zeroO46 : zeroO Tryz.prog 46 = some [.undef] := by kernel_rfl
@[simp] theorem ty_cells48 : Tryz.prog.cellsOf 48 = 1 := by kernel_rfl
@[simp] theorem ty_bytes48 : Tryz.prog.bytesOf 48 = 8 := by kernel_rfl
@[simp] theorem ty_zeroD48 : zeroD Tryz.prog 48 = none := by kernel_rfl
@[simp] theorem ty_zeroC48 : zeroC Tryz.prog 48 = some [.undef] := by kernel_rfl
@[simp] theorem ty_zeroO48 : zeroO Tryz.prog 48 = some [.undef] := by kernel_rfl
@[simp] theorem ty_cells49 : Tryz.prog.cellsOf 49 = 1 := by kernel_rfl
@[simp] theorem ty_bytes49 : Tryz.prog.bytesOf 49 = 8 := by kernel_rfl
@[simp] theorem ty_zeroD49 : zeroD Tryz.prog 49 = none := by kernel_rfl
@[simp] theorem ty_zeroC49 : zeroC Tryz.prog 49 = some [.undef] := by kernel_rfl
@[simp] theorem ty_zeroO49 : zeroO Tryz.prog 49 = some [.undef] := by kernel_rfl
@[simp] theorem ty_cells50 : Tryz.prog.cellsOf 50 = 1 := by kernel_rfl
@[simp] theorem ty_bytes50 : Tryz.prog.bytesOf 50 = 8 := by kernel_rfl
@[simp] theorem ty_zeroD50 : zeroD Tryz.prog 50 = none := by kernel_rfl
@[simp] theorem ty_zeroC50 : zeroC Tryz.prog 50 = some [.undef] := by kernel_rfl
@[simp] theorem ty_zeroO50 : zeroO Tryz.prog 50 = some [.undef] := by kernel_rfl
@[simp] theorem ty_cells51 : Tryz.prog.cellsOf 51 = 1 := by kernel_rfl
@[simp] theorem ty_bytes51 : Tryz.prog.bytesOf 51 = 8 := by kernel_rfl
@[simp] theorem ty_zeroD51 : zeroD Tryz.prog 51 = some [.int .i64 0] := by kernel_rfl
@[simp] theorem ty_zeroV51 : zeroValD Tryz.prog 51 = some (.int .i64 0) := by kernel_rfl
@[simp] theorem ty_cells52 : Tryz.prog.cellsOf 52 = 1 := by kernel_rfl
@[simp] theorem ty_bytes52 : Tryz.prog.bytesOf 52 = 24 := by kernel_rfl
@[simp] theorem ty_zeroD52 : zeroD Tryz.prog 52 = some [.nils] := by kernel_rfl
@[simp] theorem ty_zeroV52 : zeroValD Tryz.prog 52 = some (.nils) := by kernel_rfl
@[simp] theorem ty_elem52 : elemOfD Tryz.prog 52 = some 54 := by kernel_rfl
@[simp] theorem ty_cells53 : Tryz.prog.cellsOf 53 = 9 := by kernel_rfl
@[simp] theorem ty_bytes53 : Tryz.prog.bytesOf 53 = 128 := by kernel_rfl
@[simp] theorem ty_zeroD53 : zeroD Tryz.prog 53 = some [.int .i64 0, .str [], .str [], .int .i64 0, .str [], .int .i64 0, .nils, .int .i64 0, .nils] := by kernel_rfl
@[simp] theorem ty_zeroV53 : zeroValD Tryz.prog 53 = some (.agg [.int .i64 0, .str [], .str [], .int .i64 0, .str [], .int .i64 0, .nils, .int .i64 0, .nils]) := by kernel_rfl
@[simp] theorem ty_isStruct53 : isStruct Tryz.prog 53 = true := by kernel_rfl
@[simp] theorem ty_field53_0 : fieldOf Tryz.prog 53 0 = some (0, 51) := by kernel_rfl
@[simp] theorem ty_field53_1 : fieldOf Tryz.prog 53 1 = some (1, 9) := by kernel_rfl
@[simp] theorem ty_field53_2 : fieldOf Tryz.prog 53 2 = some (2, 43) := by kernel_rfl
@[simp] theorem ty_field53_3 : fieldOf Tryz.prog 53 3 = some (3, 30) := by kernel_rfl
@[simp] theorem ty_field53_4 : fieldOf Tryz.prog 53 4 = some (7, 3) := by kernel_rfl
@[simp] theorem ty_field53_5 : fieldOf Tryz.prog 53 5 = some (8, 52) := by kernel_rfl
@[simp] theorem ty_cells54 : Tryz.prog.cellsOf 54 = 9 := by kernel_rfl
@[simp] theorem ty_bytes54 : Tryz.prog.bytesOf 54 = 128 := by kernel_rfl
@[simp] theorem ty_zeroD54 : zeroD Tryz.prog 54 = some [.int .i64 0, .str [], .str [], .int .i64 0, .str [], .int .i64 0, .nils, .int .i64 0, .nils] := by kernel_rfl
@[simp] theorem ty_zeroV54 : zeroValD Tryz.prog 54 = some (.agg [.int .i64 0, .str [], .str [], .int .i64 0, .str [], .int .i64 0, .nils, .int .i64 0, .nils]) := by kernel_rfl
@[simp] theorem ty_isStruct54 : isStruct Tryz.prog 54 = true := by kernel_rfl
@[simp] theorem ty_field54_0 : fieldOf Tryz.prog 54 0 = some (0, 51) := by kernel_rfl
@[simp] theorem ty_field54_1 : fieldOf Tryz.prog 54 1 = some (1, 9) := by kernel_rfl
@[simp] theorem ty_field54_2 : fieldOf Tryz.prog 54 2 = some (2, 43) := by kernel_rfl
@[simp] theorem ty_field54_3 : fieldOf Tryz.prog 54 3 = some (3, 30) := by kernel_rfl
@[simp] theorem ty_field54_4 : fieldOf Tryz.prog 54 4 = some (7, 3) := by kernel_rfl
@[simp] theorem ty_field54_5 : fieldOf Tryz.prog 54 5 = some (8, 52) := by kernel_rfl
@[simp] theorem ty_cells55 : Tryz.prog.cellsOf 55 = 1 := by kernel_rfl
@[simp] theorem ty_bytes55 : Tryz.prog.bytesOf 55 = 8 := by kernel_rfl
@[simp] theorem ty_zeroD55 : zeroD Tryz.prog 55 = none := by kernel_rfl
@[simp] theorem ty_zeroC55 : zeroC Tryz.prog 55 = some [.undef] := by kernel_rfl
@[simp] theorem ty_zeroO55 : zeroO Tryz.prog 55 = some [.undef] := by kernel_rfl
@[simp] theorem ty_cells56 : Tryz.prog.cellsOf 56 = 1 := by kernel_rfl
@[simp] theorem ty_bytes56 : Tryz.prog.bytesOf 56 = 8 := by kernel_rfl
@[simp] theorem ty_zeroD56 : zeroD Tryz.prog 56 = none := by kernel_rfl
@[simp] theorem ty_zeroC56 : zeroC Tryz.prog 56 = some [.undef] := by kernel_rfl
@[simp] theorem ty_zeroO56 : zeroO Tryz.prog 56 = some [.undef] := by kernel_rfl
@[simp] theorem ty_cells57 : Tryz.prog.cellsOf 57 = 1 := by kernel_rfl
@[simp] theorem ty_bytes57 : Tryz.prog.bytesOf 57 = 8 := by kernel_rfl
@[simp] theorem ty_zeroD57 : zeroD Tryz.prog 57 = none := by kernel_rfl
@[simp] theorem ty_zeroC57 : zeroC Tryz.prog 57 = some [.undef] := by kernel_rfl
@[simp] theorem ty_zeroO57 : zeroO Tryz.prog 57 = some [.undef] := by kernel_rfl
@[simp] theorem ty_cells58 : Tryz.prog.cellsOf 58 = 1 := by kernel_rfl
@[simp] theorem ty_bytes58 : Tryz.prog.bytesOf 58 = 24 := by kernel_rfl
@[simp] theorem ty_zeroD58 : zeroD Tryz.prog 58 = some [.nils] := by kernel_rfl
@[simp] theorem ty_zeroV58 : zeroValD Tryz.prog 58 = some (.nils) := by kernel_rfl
@[simp] theorem ty_elem58 : elemOfD Tryz.prog 58 = some 61 := by kernel_rfl
@[simp] theorem ty_cells59 : Tryz.prog.cellsOf 59 = 1 := by kernel_rfl
@[simp] theorem ty_bytes59 : Tryz.prog.bytesOf 59 = 8 := by kernel_rfl
@[simp] theorem ty_zeroD59 : zeroD Tryz.prog 59 = none := by kernel_rfl
@[simp] theorem ty_zeroC59 : zeroC Tryz.prog 59 = some [.undef] := by kernel_rfl
@[simp] theorem ty_zeroO59 : zeroO Tryz.prog 59 = some [.undef] := by kernel_rfl
@[simp] theorem ty_cells60 : Tryz.prog.cellsOf 60 = 7 := by kernel_rfl
@[simp] theorem ty_bytes60 : Tryz.prog.bytesOf 60 = 112 := by kernel_rfl
@[simp] theorem ty_zeroD60 : zeroD Tryz.prog 60 = some [.nils, .nils, .int .i64 0, .str [], .int .i64 0, .nils, .int .i64 0] := by kernel_rfl
@[simp] theorem ty_zeroV60 : zeroValD Tryz.prog 60 = some (.agg [.nils, .nils, .int .i64 0, .str [], .int .i64 0, .nils, .int .i64 0]) := by kernel_rfl
@[simp] theorem ty_isStruct60 : isStruct Tryz.prog 60 = true := by kernel_rfl
@[simp] theorem ty_field60_0 : fieldOf Tryz.prog 60 0 = some (0, 22) := by kernel_rfl
@[simp] theorem ty_field60_1 : fieldOf Tryz.prog 60 1 = some (1, 28) := by kernel_rfl
@[simp] theorem ty_field60_2 : fieldOf Tryz.prog 60 2 = some (2, 30) := by kernel_rfl
@[simp] theorem ty_field60_3 : fieldOf Tryz.prog 60 3 = some (6, 3) := by kernel_rfl
@[simp] theorem ty_cells61 : Tryz.prog.cellsOf 61 = 7 := by kernel_rfl
@[simp] theorem ty_bytes61 : Tryz.prog.bytesOf 61 = 112 := by kernel_rfl
@[simp] theorem ty_zeroD61 : zeroD Tryz.prog 61 = some [.nils, .nils, .int .i64 0, .str [], .int .i64 0, .nils, .int .i64 0] := by kernel_rfl
@[simp] theorem ty_zeroV61 : zeroValD Tryz.prog 61 = some (.agg [.nils, .nils, .int .i64 0, .str [], .int .i64 0, .nils, .int .i64 0]) := by kernel_rfl
@[simp] theorem ty_isStruct61 : isStruct Tryz.prog 61 = true := by kernel_rfl
@[simp] theorem ty_field61_0 : fieldOf Tryz.prog 61 0 = some (0, 22) := by kernel_rfl
@[simp] theorem ty_field61_1 : fieldOf Tryz.prog 61 1 = some (1, 28) := by kernel_rfl
@[simp] theorem ty_field61_2 : fieldOf Tryz.prog 61 2 = some (2, 30) := by kernel_rfl
@[simp] theorem ty_field61_3 : fieldOf Tryz.prog 61 3 = some (6, 3) := by kernel_rfl
@[simp] theorem ty_cells62 : Tryz.prog.cellsOf 62 = 1 := by kernel_rfl
@[simp] theorem ty_bytes62 : Tryz.prog.bytesOf 62 = 8 := by kernel_rfl
@[simp] theorem ty_zeroD62 : zeroD Tryz.prog 62 = none := by kernel_rfl
@[simp] theorem ty_zeroC62 : zeroC Tryz.prog 62 = some [.undef] := by kernel_rfl
@[simp] theorem ty_zeroO62 : zeroO Tryz.prog 62 = some [.undef] := by kernel_rfl
@[simp] theorem ty_cells63 : Tryz.prog.cellsOf 63 = 1 := by kernel_rfl
@[simp] theorem ty_bytes63 : Tryz.prog.bytesOf 63 = 8 := by kernel_rfl
@[simp] theorem ty_zeroD63 : zeroD Tryz.prog 63 = none := by kernel_rfl
@[simp] theorem ty_zeroC63 : zeroC Tryz.prog 63 = some [.undef] := by kernel_rfl
@[simp] theorem ty_zeroO63 : zeroO Tryz.prog 63 = some [.undef] := by kernel_rfl
@[simp] theorem ty_cells64 : Tryz.prog.cellsOf 64 = 1 := by kernel_rfl
@[simp] theorem ty_bytes64 : Tryz.prog.bytesOf 64 = 8 := by kernel_rfl
@[simp] theorem ty_zeroD64 : zeroD Tryz.prog 64 = none := by kernel_rfl
@[simp] theorem ty_zeroC64 : zeroC Tryz.prog 64 = some [.undef] := by kernel_rfl
@[simp] theorem ty_zeroO64 : zeroO Tryz.prog 64 = some [.undef] := by kernel_rfl
@[simp] theorem ty_cells65 : Tryz.prog.cellsOf 65 = 1 := by kernel_rfl
@[simp] theorem ty_bytes65 : Tryz.prog.bytesOf 65 = 8 := by kernel_rfl
@[simp] theorem ty_zeroD65 : zeroD Tryz.prog 65 = some [.int .i64 0] := by kernel_rfl
@[simp] theorem ty_zeroV65 : zeroValD Tryz.prog 65 = some (.int .i64 0) := by kernel_rfl
@[simp] theorem ty_cells66 : Tryz.prog.cellsOf 66 = 1 := by kernel_rfl
@[simp] theorem ty_bytes66 : Tryz.prog.bytesOf 66 = 24 := by kernel_rfl
@[simp] theorem ty_zeroD66 : zeroD Tryz.prog 66 = some [.nils] := by kernel_rfl
@[simp] theorem ty_zeroV66 : zeroValD Tryz.prog 66 = some (.nils) := by kernel_rfl
@[simp] theorem ty_elem66 : elemOfD Tryz.prog 66 = some 69 := by kernel_rfl
@[simp] theorem ty_cells67 : Tryz.prog.cellsOf 67 = 1 := by kernel_rfl
@[simp] theorem ty_bytes67 : Tryz.prog.bytesOf 67 = 24 := by kernel_rfl
@[simp] theorem ty_zeroD67 : zeroD Tryz.prog 67 = some [.nils] := by kernel_rfl
@[simp] theorem ty_zeroV67 : zeroValD Tryz.prog 67 = some (.nils) := by kernel_rfl
@[simp] theorem ty_elem67 : elemOfD Tryz.prog 67 = some 9 := by kernel_rfl
@[simp] theorem ty_cells68 : Tryz.prog.cellsOf 68 = 9 := by kernel_rfl
@[simp] theorem ty_bytes68 : Tryz.prog.bytesOf 68 = 152 := by kernel_rfl
@[simp] theorem ty_zeroD68 : zeroD Tryz.prog 68 = some [.int .i64 0, .str [], .nils, .nils, .int .i64 0, .str [], .int .i64 0, .nils, .nils] := by kernel_rfl
@[simp] theorem ty_zeroV68 : zeroValD Tryz.prog 68 = some (.agg [.int .i64 0, .str [], .nils, .nils, .int .i64 0, .str [], .int .i64 0, .nils, .nils]) := by kernel_rfl
@[simp] theorem ty_isStruct68 : isStruct Tryz.prog 68 = true := by kernel_rfl
@[simp] theorem ty_field68_0 : fieldOf Tryz.prog 68 0 = some (0, 65) := by kernel_rfl
@[simp] theorem ty_field68_1 : fieldOf Tryz.prog 68 1 = some (1, 9) := by kernel_rfl
@[simp] theorem ty_field68_2 : fieldOf Tryz.prog 68 2 = some (2, 66) := by kernel_rfl
@[simp] theorem ty_field68_3 : fieldOf Tryz.prog 68 3 = some (3, 67) := by kernel_rfl
@[simp] theorem ty_field68_4 : fieldOf Tryz.prog 68 4 = some (4, 30) := by kernel_rfl
@[simp] theorem ty_field68_5 : fieldOf Tryz.prog 68 5 = some (8, 28) := by kernel_rfl
@[simp] theorem ty_cells69 : Tryz.prog.cellsOf 69 = 9 := by kernel_rfl
@[simp] theorem ty_bytes69 : Tryz.prog.bytesOf 69 = 152 := by kernel_rfl
@[simp] theorem ty_zeroD69 : zeroD Tryz.prog 69 = some [.int .i64 0, .str [], .nils, .nils, .int .i64 0, .str [], .int .i64 0, .nils, .nils] := by kernel_rfl
@[simp] theorem ty_zeroV69 : zeroValD Tryz.prog 69 = some (.agg [.int .i64 0, .str [], .nils, .nils, .int .i64 0, .str [], .int .i64 0, .nils, .nils]) := by kernel_rfl
@[simp] theorem ty_isStruct69 : isStruct Tryz.prog 69 = true := by kernel_rfl
@[simp] theorem ty_field69_0 : fieldOf Tryz.prog 69 0 = some (0, 65) := by kernel_rfl
@[simp] theorem ty_field69_1 : fieldOf Tryz.prog 69 1 = some (1, 9) := by kernel_rfl
@[simp] theorem ty_field69_2 : fieldOf Tryz.prog 69 2 = some (2, 66) := by kernel_rfl
@[simp] theorem ty_field69_3 : fieldOf Tryz.prog 69 3 = some (3, 67) := by kernel_rfl
@[simp] theorem ty_field69_4 : fieldOf Tryz.prog 69 4 = some (4, 30) := by kernel_rfl
@[simp] theorem ty_field69_5 : fieldOf Tryz.prog 69 5 = some (8, 28) := by kernel_rfl
@[simp] theorem ty_cells70 : Tryz.prog.cellsOf 70 = 1 := by kernel_rfl
@[simp] theorem ty_bytes70 : Tryz.prog.bytesOf 70 = 8 := by kernel_rfl
@[simp] theorem ty_zeroD70 : zeroD Tryz.prog 70 = some [.int .i64 0] := by kernel_rfl
@[simp] theorem ty_zeroV70 : zeroValD Tryz.prog 70 = some (.int .i64 0) := by kernel_rfl
@[simp] theorem ty_cells71 : Tryz.prog.cellsOf 71 = 1 := by kernel_rfl
@[simp] theorem ty_bytes71 : Tryz.prog.bytesOf 71 = 24 := by kernel_rfl
@[simp] theorem ty_zeroD71 : zeroD Tryz.prog 71 = some [.nils] := by kernel_rfl
@[simp] theorem ty_zeroV71 : zeroValD Tryz.prog 71 = some (.nils) := by kernel_rfl
@[simp] theorem ty_elem71 : elemOfD Tryz.prog 71 = some 75 := by kernel_rfl
@[simp] theorem ty_cells72 : Tryz.prog.cellsOf 72 = 1 := by kernel_rfl
@[simp] theorem ty_bytes72 : Tryz.prog.bytesOf 72 = 24 := by kernel_rfl
@[simp] theorem ty_zeroD72 : zeroD Tryz.prog 72 = some [.nils] := by kernel_rfl
@[simp] theorem ty_zeroV72 : zeroValD Tryz.prog 72 = some (.nils) := by kernel_rfl
@[simp] theorem ty_elem72 : elemOfD Tryz.prog 72 = some 109 := by kernel_rfl
@[simp] theorem ty_cells73 : Tryz.prog.cellsOf 73 = 1 := by kernel_rfl
@[simp] theorem ty_bytes73 : Tryz.prog.bytesOf 73 = 24 := by kernel_rfl
@[simp] theorem ty_zeroD73 : zeroD Tryz.prog 73 = some [.nils] := by kernel_rfl
@[simp] theorem ty_zeroV73 : zeroValD Tryz.prog 73 = some (.nils) := by kernel_rfl
@[simp] theorem ty_elem73 : elemOfD Tryz.prog 73 = some 111 := by kernel_rfl
@[simp] theorem ty_cells74 : Tryz.prog.cellsOf 74 = 7 := by kernel_rfl
@[simp] theorem ty_bytes74 : Tryz.prog.bytesOf 74 = 128 := by kernel_rfl
@[simp] theorem ty_zeroD74 : zeroD Tryz.prog 74 = some [.int .i64 0, .str [], .int .i64 0, .nils, .nils, .nils, .nils] := by kernel_rfl
@[simp] theorem ty_zeroV74 : zeroValD Tryz.prog 74 = some (.agg [.int .i64 0, .str [], .int .i64 0, .nils, .nils, .nils, .nils]) := by kernel_rfl
@[simp] theorem ty_isStruct74 : isStruct Tryz.prog 74 = true := by kernel_rfl
@[simp] theorem ty_field74_0 : fieldOf Tryz.prog 74 0 = some (0, 70) := by kernel_rfl
@[simp] theorem ty_field74_1 : fieldOf Tryz.prog 74 1 = some (1, 9) := by kernel_rfl
@[simp] theorem ty_field74_2 : fieldOf Tryz.prog 74 2 = some (2, 3) := by kernel_rfl
@[simp] theorem ty_field74_3 : fieldOf Tryz.prog 74 3 = some (3, 71) := by kernel_rfl
@[simp] theorem ty_field74_4 : fieldOf Tryz.prog 74 4 = some (4, 72) := by kernel_rfl
@[simp] theorem ty_field74_5 : fieldOf Tryz.prog 74 5 = some (5, 73) := by kernel_rfl
@[simp] theorem ty_field74_6 : fieldOf Tryz.prog 74 6 = some (6, 66) := by kernel_rfl
@[simp] theorem ty_cells75 : Tryz.prog.cellsOf 75 = 7 := by kernel_rfl
@[simp] theorem ty_bytes75 : Tryz.prog.bytesOf 75 = 128 := by kernel_rfl
@[simp] theorem ty_zeroD75 : zeroD Tryz.prog 75 = some [.int .i64 0, .str [], .int .i64 0, .nils, .nils, .nils, .nils] := by kernel_rfl
@[simp] theorem ty_zeroV75 : zeroValD Tryz.prog 75 = some (.agg [.int .i64 0, .str [], .int .i64 0, .nils, .nils, .nils, .nils]) := by kernel_rfl
@[simp] theorem ty_isStruct75 : isStruct Tryz.prog 75 = true := by kernel_rfl
@[simp] theorem ty_field75_0 : fieldOf Tryz.prog 75 0 = some (0, 70) := by kernel_rfl
@[simp] theorem ty_field75_1 : fieldOf Tryz.prog 75 1 = some (1, 9) := by kernel_rfl
@[simp] theorem ty_field75_2 : fieldOf Tryz.prog 75 2 = some (2, 3) := by kernel_rfl
@[simp] theorem ty_field75_3 : fieldOf Tryz.prog 75 3 = some (3, 71) := by kernel_rfl
@[simp] theorem ty_field75_4 : fieldOf Tryz.prog 75 4 = some (4, 72) := by kernel_rfl
@[simp] theorem ty_field75_5 : fieldOf Tryz.prog 75 5 = some (5, 73) := by kernel_rfl
@[simp] theorem ty_field75_6 : fieldOf Tryz.prog 75 6 = some (6, 66) := by kernel_rfl
@[simp] theorem ty_cells76 : Tryz.prog.cellsOf 76 = 1 := by kernel_rfl
@[simp] theorem ty_bytes76 : Tryz.prog.bytesOf 76 = 8 := by kernel_rfl
@[simp] theorem ty_zeroD76 : zeroD Tryz.prog 76 = none := by kernel_rfl
@[simp] theorem ty_zeroC76 : zeroC Tryz.prog 76 = some [.undef] := by kernel_rfl
@[simp] theorem ty_zeroO76 : zeroO Tryz.prog 76 = some [.undef] := by kernel_rfl
@[simp] theorem ty_cells77 : Tryz.prog.cellsOf 77 = 1 := by kernel_rfl
@[simp] theorem ty_bytes77 : Tryz.prog.bytesOf 77 = 8 := by kernel_rfl
@[simp] theorem ty_zeroD77 : zeroD Tryz.prog 77 = none := by kernel_rfl
@[simp] theorem ty_zeroC77 : zeroC Tryz.prog 77 = some [.undef] := by kernel_rfl
@[simp] theorem ty_zeroO77 : zeroO Tryz.prog 77 = some [.undef] := by kernel_rfl
@[simp] theorem ty_cells78 : Tryz.prog.cellsOf 78 = 1 := by kernel_rfl
@[simp] theorem ty_bytes78 : Tryz.prog.bytesOf 78 = 8 := by kernel_rfl
@[simp] theorem ty_zeroD78 : zeroD Tryz.prog 78 = none := by kernel_rfl
@[simp] theorem ty_zeroC78 : zeroC Tryz.prog 78 = some [.undef] := by kernel_rfl
@[simp] theorem ty_zeroO78 : zeroO Tryz.prog 78 = some [.undef] := by kernel_rfl
@[simp] theorem ty_cells79 : Tryz.prog.cellsOf 79 = 1 := by kernel_rfl
@[simp] theorem ty_bytes79 : Tryz.prog.bytesOf 79 = 24 := by kernel_rfl
@[simp] theorem ty_zeroD79 : zeroD Tryz.prog 79 = some [.nils] := by kernel_rfl
@[simp] theorem ty_zeroV79 : zeroValD Tryz.prog 79 = some (.nils) := by kernel_rfl
@[simp] theorem ty_elem79 : elemOfD Tryz.prog 79 = some 43 := by kernel_rfl
@[simp] theorem ty_cells80 : Tryz.prog.cellsOf 80 = 3 := by kernel_rfl
@[simp] theorem ty_bytes80 : Tryz.prog.bytesOf 80 = 56 := by kernel_rfl
@[simp] theorem ty_zeroD80 : zeroD Tryz.prog 80 = some [.str [], .nils, .str []] := by kernel_rfl
@[simp] theorem ty_zeroV80 : zeroValD Tryz.prog 80 = some (.agg [.str [], .nils, .str []]) := by kernel_rfl
@[simp] theorem ty_isStruct80 : isStruct Tryz.prog 80 = true := by kernel_rfl
@[simp] theorem ty_field80_0 : fieldOf Tryz.prog 80 0 = some (0, 9) := by kernel_rfl
@[simp] theorem ty_field80_1 : fieldOf Tryz.prog 80 1 = some (1, 79) := by kernel_rfl
@[simp] theorem ty_field80_2 : fieldOf Tryz.prog 80 2 = some (2, 43) := by kernel_rfl
@[simp] theorem ty_cells81 : Tryz.prog.cellsOf 81 = 3 := by kernel_rfl
@[simp] theorem ty_bytes81 : Tryz.prog.bytesOf 81 = 56 := by kernel_rfl
@[simp] theorem ty_zeroD81 : zeroD Tryz.prog 81 = some [.str [], .nils, .str []] := by kernel_rfl
@[simp] theorem ty_zeroV81 : zeroValD Tryz.prog 81 = some (.agg [.str [], .nils, .str []]) := by kernel_rfl
@[simp] theorem ty_isStruct81 : isStruct Tryz.prog 81 = true := by kernel_rfl
@[simp] theorem ty_field81_0 : fieldOf Tryz.prog 81 0 = some (0, 9) := by kernel_rfl
@[simp] theorem ty_field81_1 : fieldOf Tryz.prog 81 1 = some (1, 79) := by kernel_rfl
@[simp] theorem ty_field81_2 : fieldOf Tryz.prog 81 2 = some (2, 43) := by kernel_rfl
@[simp] theorem ty_cells82 : Tryz.prog.cellsOf 82 = 1 := by kernel_rfl
@[simp] theorem ty_bytes82 : Tryz.prog.bytesOf 82 = 8 := by kernel_rfl
@[simp] theorem ty_zeroD82 : zeroD Tryz.prog 82 = none := by kernel_rfl
@[simp] theorem ty_zeroC82 : zeroC Tryz.prog 82 = some [.undef] := by kernel_rfl
@[simp] theorem ty_zeroO82 : zeroO Tryz.prog 82 = some [.undef] := by kernel_rfl
@[simp] theorem ty_cells83 : Tryz.prog.cellsOf 83 = 1 := by kernel_rfl
@[simp] theorem ty_bytes83 : Tryz.prog.bytesOf 83 = 8 := by kernel_rfl
@[simp] theorem ty_zeroD83 : zeroD Tryz.prog 83 = none := by kernel_rfl
@[simp] theorem ty_zeroC83 : zeroC Tryz.prog 83 = some [.undef] := by kernel_rfl
@[simp] theorem ty_zeroO83 : zeroO Tryz.prog 83 = some [.undef] := by kernel_rfl
@[simp] theorem ty_cells84 : Tryz.prog.cellsOf 84 = 1 := by kernel_rfl
@[simp] theorem ty_bytes84 : Tryz.prog.bytesOf 84 = 8 := by kernel_rfl
@[simp] theorem ty_zeroD84 : zeroD Tryz.prog 84 = none := by kernel_rfl
@[simp] theorem ty_zeroC84 : zeroC Tryz.prog 84 = some [.undef] := by kernel_rfl
@[simp] theorem ty_zeroO84 : zeroO Tryz.prog 84 = some [.undef] := by kernel_rfl
@[simp] theorem ty_cells85 : Tryz.prog.cellsOf 85 = 1 := by kernel_rfl
@[simp] theorem ty_bytes85 : Tryz.prog.bytesOf 85 = 8 := by kernel_rfl
@[simp] theorem ty_zeroD85 : zeroD Tryz.prog 85 = none := by kernel_rfl
@[simp] theorem ty_zeroC85 : zeroC Tryz.prog 85 = some [.undef] := by kernel_rfl
@[simp] theorem ty_zeroO85 : zeroO Tryz.prog 85 = some [.undef] := by kernel_rfl
@[simp] theorem ty_cells86 : Tryz.prog.cellsOf 86 = 1 := by kernel_rfl
@[simp] theorem ty_bytes86 : Tryz.prog.bytesOf 86 = 8 := by kernel_rfl
@[simp] theorem ty_zeroD86 : zeroD Tryz.prog 86 = none := by kernel_rfl
@[simp] theorem ty_zeroC86 : zeroC Tryz.prog 86 = some [.undef] := by kernel_rfl
@[simp] theorem ty_zeroO86 : zeroO Tryz.prog 86 = some [.undef] := by kernel_rfl
@[simp] theorem ty_cells87 : Tryz.prog.cellsOf 87 = 1 := by kernel_rfl
@[simp] theorem ty_bytes87 : Tryz.prog.bytesOf 87 = 8 := by kernel_rfl
@[simp] theorem ty_zeroD87 : zeroD Tryz.prog 87 = none := by kernel_rfl
@[simp] theorem ty_zeroC87 : zeroC Tryz.prog 87 = some [.undef] := by kernel_rfl
@[simp] theorem ty_zeroO87 : zeroO Tryz.prog 87 = some [.undef] := by kernel_rfl
@[simp] theorem ty_cells88 : Tryz.prog.cellsOf 88 = 1 := by kernel_rfl
@[simp] theorem ty_bytes88 : Tryz.prog.bytesOf 88 = 8 := by kernel_rfl
@[simp] theorem ty_zeroD88 : zeroD Tryz.prog 88 = none := by kernel_rfl
@[simp] theorem ty_zeroC88 : zeroC Tryz.prog 88 = some [.undef] := by kernel_rfl
@[simp] theorem ty_zeroO88 : zeroO Tryz.prog 88 = some [.undef] := by kernel_rfl
@[simp] theorem ty_cells89 : Tryz.prog.cellsOf 89 = 1 := by kernel_rfl
@[simp] theorem ty_bytes89 : Tryz.prog.bytesOf 89 = 8 := by kernel_rfl
@[simp] theorem ty_zeroD89 : zeroD Tryz.prog 89 = none := by kernel_rfl
@[simp] theorem ty_zeroC89 : zeroC Tryz.prog 89 = some [.undef] := by kernel_rfl
@[simp] theorem ty_zeroO89 : zeroO Tryz.prog 89 = some [.undef] := by kernel_rfl
@[simp] theorem ty_cells91 : Tryz.prog.cellsOf 91 = 1 := by kernel_rfl
@[simp] theorem ty_bytes91 : Tryz.prog.bytesOf 91 = 8 := by kernel_rfl
@[simp] theorem ty_zeroD91 : zeroD Tryz.prog 91 = none := by kernel_rfl
@[simp] theorem ty_zeroC91 : zeroC Tryz.prog 91 = some [.undef] := by kernel_rfl
@[simp] theorem ty_zeroO91 : zeroO Tryz.prog 91 = some [.undef] := by kernel_rfl
@[simp] theorem ty_cells92 : Tryz.prog.cellsOf 92 = 1 := by kernel_rfl
@[simp] theorem ty_bytes92 : Tryz.prog.bytesOf 92 = 8 := by kernel_rfl
@[simp] theorem ty_zeroD92 : zeroD Tryz.prog 92 = none := by kernel_rfl
@[simp] theorem ty_zeroC92 : zeroC Tryz.prog 92 = some [.undef] := by kernel_rfl
@[simp] theorem ty_zeroO92 : zeroO Tryz.prog 92 = some [.undef] := by kernel_rfl
@[simp] theorem ty_cells93 : Tryz.prog.cellsOf 93 = 1 := by kernel_rfl
@[simp] theorem ty_bytes93 : Tryz.prog.bytesOf 93 = 8 := by kernel_rfl
@[simp] theorem ty_zeroD93 : zeroD Tryz.prog 93 = none := by kernel_rfl
@[simp] theorem ty_zeroC93 : zeroC Tryz.prog 93 = some [.undef] := by kernel_rfl
@[simp] theorem ty_zeroO93 : zeroO Tryz.prog 93 = some [.undef] := by kernel_rfl
@[simp] theorem ty_cells94 : Tryz.prog.cellsOf 94 = 1 := by kernel_rfl
@[simp] theorem ty_bytes94 : Tryz.prog.bytesOf 94 = 8 := by kernel_rfl
@[simp] theorem ty_zeroD94 : zeroD Tryz.prog 94 = none := by kernel_rfl
@[simp] theorem ty_zeroC94 : zeroC Tryz.prog 94 = some [.undef] := by kernel_rfl
@[simp] theorem ty_zeroO94 : zeroO Tryz.prog 94 = some [.undef] := by kernel_rfl
@[simp] theorem ty_cells95 : Tryz.prog.cellsOf 95 = 1 := by kernel_rfl
@[simp] theorem ty_bytes95 : Tryz.prog.bytesOf 95 = 8 := by kernel_rfl
@[simp] theorem ty_zeroD95 : zeroD Tryz.prog 95 = none := by kernel_rfl
@[simp] theorem ty_zeroC95 : zeroC Tryz.prog 95 = some [.undef] := by kernel_rfl
@[simp] theorem ty_zeroO95 : zeroO Tryz.prog 95 = some [.undef] := by kernel_rfl
@[simp] theorem ty_cells96 : Tryz.prog.cellsOf 96 = 1 := by kernel_rfl
@[simp] theorem ty_bytes96 : Tryz.prog.bytesOf 96 = 8 := by kernel_rfl
@[simp] theorem ty_zeroD96 : zeroD Tryz.prog 96 = none := by kernel_rfl
@[simp] theorem ty_zeroC96 : zeroC Tryz.prog 96 = some [.undef] := by kernel_rfl
@[simp] theorem ty_zeroO96 : zeroO Tryz.prog 96 = some [.undef] := by kernel_rfl
@[simp] theorem ty_cells97 : Tryz.prog.cellsOf 97 = 1 := by kernel_rfl
@[simp] theorem ty_bytes97 : Tryz.prog.bytesOf 97 = 8 := by kernel_rfl
@[simp] theorem ty_zeroD97 : zeroD Tryz.prog 97 = none := by kernel_rfl
@[simp] theorem ty_zeroC97 : zeroC Tryz.prog 97 = some [.undef] := by kernel_rfl
@[simp] theorem ty_zeroO97 : zeroO Tryz.prog 97 = some [.undef] := by kernel_rfl
@[simp] theorem ty_cells98 : Tryz.prog.cellsOf 98 = 1 := by kernel_rfl
@[simp] theorem ty_bytes98 : Tryz.prog.bytesOf 98 = 8 := by kernel_rfl
@[simp] theorem ty_zeroD98 : zeroD Tryz.prog 98 = none := by kernel_rfl
@[simp] theorem ty_zeroC98 : zeroC Tryz.prog 98 = some [.undef] := by kernel_rfl
@[simp] theorem ty_zeroO98 : zeroO Tryz.prog 98 = some [.undef] := by kernel_rfl
@[simp] theorem ty_cells99 : Tryz.prog.cellsOf 99 = 1 := by kernel_rfl
@[simp] theorem ty_bytes99 : Tryz.prog.bytesOf 99 = 8 := by kernel_rfl
@[simp] theorem ty_zeroD99 : zeroD Tryz.prog 99 = none := by kernel_rfl
@[simp] theorem ty_zeroC99 : zeroC Tryz.prog 99 = some [.undef] := by kernel_rfl
@[simp] theorem ty_zeroO99 : zeroO Tryz.prog 99 = some [.undef] := by kernel_rfl
@[simp] theorem ty_cells100 : Tryz.prog.cellsOf 100 = 1 := by kernel_rfl
@[simp] theorem ty_bytes100 : Tryz.prog.bytesOf 100 = 8 := by kernel_rfl
@[simp] theorem ty_zeroD100 : zeroD Tryz.prog 100 = none := by kernel_rfl
@[simp] theorem ty_zeroC100 : zeroC Tryz.prog 100 = some [.undef] := by kernel_rfl
@[simp] theorem ty_zeroO100 : zeroO Tryz.prog 100 = some [.undef] := by kernel_rfl
@[simp] theorem ty_cells101 : Tryz.prog.cellsOf 101 = 1 := by kernel_rfl
@[simp] theorem ty_bytes101 : Tryz.prog.bytesOf 101 = 8 := by kernel_rfl
@[simp] theorem ty_zeroD101 : zeroD Tryz.prog 101 = none := by kernel_rfl
@[simp] theorem ty_zeroC101 : zeroC Tryz.prog 101 = some [.undef] := by kernel_rfl
@[simp] theorem ty_zeroO101 : zeroO Tryz.prog 101 = some [.undef] := by kernel_rfl
@[simp] theorem ty_cells102 : Tryz.prog.cellsOf 102 = 1 := by kernel_rfl
@[simp] theorem ty_bytes102 : Tryz.prog.bytesOf 102 = 8 := by kernel_rfl
@[simp] theorem ty_zeroD102 : zeroD Tryz.prog 102 = none := by kernel_rfl
@[simp] theorem ty_zeroC102 : zeroC Tryz.prog 102 = some [.undef] := by kernel_rfl
@[simp] theorem ty_zeroO102 : zeroO Tryz.prog 102 = some [.undef] := by kernel_rfl
@[simp] theorem ty_cells103 : Tryz.prog.cellsOf 103 = 1 := by kernel_rfl
@[simp] theorem ty_bytes103 : Tryz.prog.bytesOf 103 = 8 := by kernel_rfl
@[simp] theorem ty_zeroD103 : zeroD Tryz.prog 103 = none := by kernel_rfl
@[simp] theorem ty_zeroC103 : zeroC Tryz.prog 103 = some [.undef] := by kernel_rfl
@[simp] theorem ty_zeroO103 : zeroO Tryz.prog 103 = some [.undef] := by kernel_rfl
@[simp] theorem ty_cells104 : Tryz.prog.cellsOf 104 = 1 := by kernel_rfl
@[simp] theorem ty_bytes104 : Tryz.prog.bytesOf 104 = 8 := by kernel_rfl
@[simp] theorem ty_zeroD104 : zeroD Tryz.prog 104 = none := by kernel_rfl
@[simp] theorem ty_zeroC104 : zeroC Tryz.prog 104 = some [.undef] := by kernel_rfl
@[simp] theorem ty_zeroO104 : zeroO Tryz.prog 104 = some [.undef] := by kernel_rfl
@[simp] theorem ty_cells105 : Tryz.prog.cellsOf 105 = 1 := by kernel_rfl
@[simp] theorem ty_bytes105 : Tryz.prog.bytesOf 105 = 8 := by kernel_rfl
@[simp] theorem ty_zeroD105 : zeroD Tryz.prog 105 = none := by kernel_rfl
@[simp] theorem ty_zeroC105 : zeroC Tryz.prog 105 = some [.undef] := by kernel_rfl
@[simp] theorem ty_zeroO105 : zeroO Tryz.prog 105 = some [.undef] := by kernel_rfl
@[simp] theorem ty_cells106 : Tryz.prog.cellsOf 106 = 1 := by kernel_rfl
@[simp] theorem ty_bytes106 : Tryz.prog.bytesOf 106 = 8 := by kernel_rfl
@[simp] theorem ty_zeroD106 : zeroD Tryz.prog 106 = none := by kernel_rfl
@[simp] theorem ty_zeroC106 : zeroC Tryz.prog 106 = some [.undef] := by kernel_rfl
@[simp] theorem ty_zeroO106 : zeroO Tryz.prog 106 = some [.undef] := by kernel_rfl
@[simp] theorem ty_cells107 : Tryz.prog.cellsOf 107 = 1 := by kernel_rfl
@[simp] theorem ty_bytes107 : Tryz.prog.bytesOf 107 = 8 := by kernel_rfl
@[simp] theorem ty_zeroD107 : zeroD Tryz.prog 107 = none := by kernel_rfl
@[simp] theorem ty_zeroC107 : zeroC Tryz.prog 107 = some [.undef] := by kernel_rfl
@[simp] theorem ty_zeroO107 : zeroO Tryz.prog 107 = some [.undef] := by kernel_rfl
@[simp] theorem ty_cells108 : Tryz.prog.cellsOf 108 = 10 := by kernel_rfl
@[simp] theorem ty_bytes108 : Tryz.prog.bytesOf 108 = 168 := by kernel_rfl
@[simp] theorem ty_zeroD108 : zeroD Tryz.prog 108 = some [.str [], .int .i64 0, .str [], .nils, .nils, .int .i64 0, .str [], .int .i64 0, .nils, .nils] := by kernel_rfl
@[simp] theorem ty_zeroV108 : zeroValD Tryz.prog 108 = some (.agg [.str [], .int .i64 0, .str [], .nils, .nils, .int .i64 0, .str [], .int .i64 0, .nils, .nils]) := by kernel_rfl
@[simp] theorem ty_isStruct108 : isStruct Tryz.prog 108 = true := by kernel_rfl
@[simp] theorem ty_field108_0 : fieldOf Tryz.prog 108 0 = some (0, 9) := by kernel_rfl
@[simp] theorem ty_field108_1 : fieldOf Tryz.prog 108 1 = some (1, 69) := by kernel_rfl
@[simp] theorem ty_cells109 : Tryz.prog.cellsOf 109 = 10 := by kernel_rfl
@[simp] theorem ty_bytes109 : Tryz.prog.bytesOf 109 = 168 := by kernel_rfl
@[simp] theorem ty_zeroD109 : zeroD Tryz.prog 109 = some [.str [], .int .i64 0, .str [], .nils, .nils, .int .i64 0, .str [], .int .i64 0, .nils, .nils] := by kernel_rfl
@[simp] theorem ty_zeroV109 : zeroValD Tryz.prog 109 = some (.agg [.str [], .int .i64 0, .str [], .nils, .nils, .int .i64 0, .str [], .int .i64 0, .nils, .nils]) := by kernel_rfl
@[simp] theorem ty_isStruct109 : isStruct Tryz.prog 109 = true := by kernel_rfl
@[simp] theorem ty_field109_0 : fieldOf Tryz.prog 109 0 = some (0, 9) := by kernel_rfl
@[simp] theorem ty_field109_1 : fieldOf Tryz.prog 109 1 = some (1, 69) := by kernel_rfl
@[simp] theorem ty_cells110 : Tryz.prog.cellsOf 110 = 9 := by kernel_rfl
@[simp] theorem ty_bytes110 : Tryz.prog.bytesOf 110 = 168 := by kernel_rfl
@[simp] theorem ty_zeroD110 : zeroD Tryz.prog 110 = some [.str [], .nils, .int .i64 0, .str [], .int .i64 0, .nils, .nils, .nils, .nils] := by kernel_rfl
@[simp] theorem ty_zeroV110 : zeroValD Tryz.prog 110 = some (.agg [.str [], .nils, .int .i64 0, .str [], .int .i64 0, .nils, .nils, .nils, .nils]) := by kernel_rfl
@[simp] theorem ty_isStruct110 : isStruct Tryz.prog 110 = true := by kernel_rfl
@[simp] theorem ty_field110_0 : fieldOf Tryz.prog 110 0 = some (0, 9) := by kernel_rfl
@[simp] theorem ty_field110_1 : fieldOf Tryz.prog 110 1 = some (1, 67) := by kernel_rfl
@[simp] theorem ty_field110_2 : fieldOf Tryz.prog 110 2 = some (2, 75) := by kernel_rfl
@[simp] theorem ty_cells111 : Tryz.prog.cellsOf 111 = 9 := by kernel_rfl
@[simp] theorem ty_bytes111 : Tryz.prog.bytesOf 111 = 168 := by kernel_rfl
@[simp] theorem ty_zeroD111 : zeroD Tryz.prog 111 = some [.str [], .nils, .int .i64 0, .str [], .int .i64 0, .nils, .nils, .nils, .nils] := by kernel_rfl
@[simp] theorem ty_zeroV111 : zeroValD Tryz.prog 111 = some (.agg [.str [], .nils, .int .i64 0, .str [], .int .i64 0, .nils, .nils, .nils, .nils]) := by kernel_rfl
@[simp] theorem ty_isStruct111 : isStruct Tryz.prog 111 = true := by kernel_rfl
@[simp] theorem ty_field111_0 : fieldOf Tryz.prog 111 0 = some (0, 9) := by kernel_rfl
@[simp] theorem ty_field111_1 : fieldOf Tryz.prog 111 1 = some (1, 67) := by kernel_rfl
@[simp] theorem ty_field111_2 : fieldOf Tryz.prog 111 2 = some (2, 75) := by kernel_rfl
@[simp] theorem ty_cells112 : Tryz.prog.cellsOf 112 = 1 := by kernel_rfl
@[simp] theorem ty_bytes112 : Tryz.prog.bytesOf 112 = 8 := by kernel_rfl
@[simp] theorem ty_zeroD112 : zeroD Tryz.prog 112 = none := by kernel_rfl
@[simp] theorem ty_zeroC112 : zeroC Tryz.prog 112 = some [.undef] := by kernel_rfl
@[simp] theorem ty_zeroO112 : zeroO Tryz.prog 112 = some [.undef] := by kernel_rfl
@[simp] theorem ty_cells113 : Tryz.prog.cellsOf 113 = 1 := by kernel_rfl
@[simp] theorem ty_bytes113 : Tryz.prog.bytesOf 113 = 24 := by kernel_rfl
@[simp] theorem ty_zeroD113 : zeroD Tryz.prog 113 = some [.nils] := by kernel_rfl
@[simp] theorem ty_zeroV113 : zeroValD Tryz.prog 113 = some (.nils) := by kernel_rfl
@[simp] theorem ty_elem113 : elemOfD Tryz.prog 113 = some 163 := by kernel_rfl
@[simp] theorem ty_cells114 : Tryz.prog.cellsOf 114 = 1 := by kernel_rfl
@[simp] theorem ty_bytes114 : Tryz.prog.bytesOf 114 = 8 := by kernel_rfl
@[simp] theorem ty_zeroD114 : zeroD Tryz.prog 114 = none := by kernel_rfl
@[simp] theorem ty_zeroC114 : zeroC Tryz.prog 114 = some [.undef] := by kernel_rfl
@[simp] theorem ty_zeroO114 : zeroO Tryz.prog 114 = some [.undef] := by kernel_rfl
@[simp] theorem ty_cells116 : Tryz.prog.cellsOf 116 = 1 := by kernel_rfl
@[simp] theorem ty_bytes116 : Tryz.prog.bytesOf 116 = 8 := by kernel_rfl
@[simp] theorem ty_zeroD116 : zeroD Tryz.prog 116 = none := by kernel_rfl
@[simp] theorem ty_zeroC116 : zeroC Tryz.prog 116 = some [.undef] := by kernel_rfl
@[simp] theorem ty_zeroO116 : zeroO Tryz.prog 116 = some [.undef] := by kernel_rfl
@[simp] theorem ty_cells117 : Tryz.prog.cellsOf 117 = 1 := by kernel_rfl
@[simp] theorem ty_bytes117 : Tryz.prog.bytesOf 117 = 8 := by kernel_rfl
@[simp] theorem ty_zeroD117 : zeroD Tryz.prog 117 = none := by kernel_rfl
@[simp] theorem ty_zeroC117 : zeroC Tryz.prog 117 = some [.undef] := by kernel_rfl
@[simp] theorem ty_zeroO117 : zeroO Tryz.prog 117 = some [.undef] := by kernel_rfl
@[simp] theorem ty_cells118 : Tryz.prog.cellsOf 118 = 1 := by kernel_rfl
@[simp] theorem ty_bytes118 : Tryz.prog.bytesOf 118 = 8 := by kernel_rfl
@[simp] theorem ty_zeroD118 : zeroD Tryz.prog 118 = none := by kernel_rfl
@[simp] theorem ty_zeroC118 : zeroC Tryz.prog 118 = some [.undef] := by kernel_rfl
@[simp] theorem ty_zeroO118 : zeroO Tryz.prog 118 = some [.undef] := by kernel_rfl
@[simp] theorem ty_map118 : mapOf Tryz.prog 118 = some (9, 4) := by kernel_rfl
@[simp] theorem ty_cells119 : Tryz.prog.cellsOf 119 = 1 := by kernel_rfl
@[simp] theorem ty_bytes119 : Tryz.prog.bytesOf 119 = 8 := by kernel_rfl
@[simp] theorem ty_zeroD119 : zeroD Tryz.prog 119 = none := by kernel_rfl
@[simp] theorem ty_zeroC119 : zeroC Tryz.prog 119 = some [.undef] := by kernel_rfl
@[simp] theorem ty_zeroO119 : zeroO Tryz.prog 119 = some [.undef] := by kernel_rfl
@[simp] theorem ty_map119 : mapOf Tryz.prog 119 = some (3, 45) := by kernel_rfl
@[simp] theorem ty_cells120 : Tryz.prog.cellsOf 120 = 1 := by kernel_rfl
@[simp] theorem ty_bytes120 : Tryz.prog.bytesOf 120 = 8 := by kernel_rfl
@[simp] theorem ty_zeroD120 : zeroD Tryz.prog 120 = none := by kernel_rfl
@[simp] theorem ty_zeroC120 : zeroC Tryz.prog 120 = some [.undef] := by kernel_rfl
@[simp] theorem ty_zeroO120 : zeroO Tryz.prog 120 = some [.undef] := by kernel_rfl
@[simp] theorem ty_cells121 : Tryz.prog.cellsOf 121 = 2 := by kernel_rfl
@[simp] theorem ty_bytes121 : Tryz.prog.bytesOf 121 = 40 := by kernel_rfl
@[simp] theorem ty_zeroD121 : zeroD Tryz.prog 121 = some [.str [], .nils] := by kernel_rfl
@[simp] theorem ty_zeroV121 : zeroValD Tryz.prog 121 = some (.agg [.str [], .nils]) := by kernel_rfl
@[simp] theorem ty_isStruct121 : isStruct Tryz.prog 121 = true := by kernel_rfl
@[simp] theorem ty_field121_0 : fieldOf Tryz.prog 121 0 = some (0, 9) := by kernel_rfl
@[simp] theorem ty_field121_1 : fieldOf Tryz.prog 121 1 = some (1, 22) := by kernel_rfl
@[simp] theorem ty_cells122 : Tryz.prog.cellsOf 122 = 2 := by kernel_rfl
@[simp] theorem ty_bytes122 : Tryz.prog.bytesOf 122 = 40 := by kernel_rfl
@[simp] theorem ty_zeroD122 : zeroD Tryz.prog 122 = some [.str [], .nils] := by kernel_rfl
@[simp] theorem ty_zeroV122 : zeroValD Tryz.prog 122 = some (.agg [.str [], .nils]) := by kernel_rfl
@[simp] theorem ty_isStruct122 : isStruct Tryz.prog 122 = true := by kernel_rfl
@[simp] theorem ty_field122_0 : fieldOf Tryz.prog 122 0 = some (0, 9) := by kernel_rfl
@[simp] theorem ty_field122_1 : fieldOf Tryz.prog 122 1 = some (1, 22) := by kernel_rfl
@[simp] theorem ty_cells123 : Tryz.prog.cellsOf 123 = 1 := by kernel_rfl
@[simp] theorem ty_bytes123 : Tryz.prog.bytesOf 123 = 8 := by kernel_rfl
@[simp] theorem ty_zeroD123 : zeroD Tryz.prog 123 = none := by kernel_rfl
@[simp] theorem ty_zeroC123 : zeroC Tryz.prog 123 = some [.undef] := by kernel_rfl
@[simp] theorem ty_zeroO123 : zeroO Tryz.prog 123 = some [.undef] := by kernel_rfl
@[simp] theorem ty_cells125 : Tryz.prog.cellsOf 125 = 1 := by kernel_rfl
@[simp] theorem ty_bytes125 : Tryz.prog.bytesOf 125 = 8 := by kernel_rfl
@[simp] theorem ty_zeroD125 : zeroD Tryz.prog 125 = none := by kernel_rfl
@[simp] theorem ty_zeroC125 : zeroC Tryz.prog 125 = some [.undef] := by kernel_rfl
@[simp] theorem ty_zeroO125 : zeroO Tryz.prog 125 = some [.undef] := by kernel_rfl
@[simp] theorem ty_cells126 : Tryz.prog.cellsOf 126 = 1 := by kernel_rfl
@[simp] theorem ty_bytes126 : Tryz.prog.bytesOf 126 = 8 := by kernel_rfl
@[simp] theorem ty_zeroD126 : zeroD Tryz.prog 126 = none := by kernel_rfl
@[simp] theorem ty_zeroC126 : zeroC Tryz.prog 126 = some [.undef] := by kernel_rfl
@[simp] theorem ty_zeroO126 : zeroO Tryz.prog 126 = some [.undef] := by kernel_rfl
@[simp] theorem ty_cells127 : Tryz.prog.cellsOf 127 = 1 := by kernel_rfl
@[simp] theorem ty_bytes127 : Tryz.prog.bytesOf 127 = 8 := by kernel_rfl
@[simp] theorem ty_zeroD127 : zeroD Tryz.prog 127 = none := by kernel_rfl
@[simp] theorem ty_zeroC127 : zeroC Tryz.prog 127 = some [.undef] := by kernel_rfl
@[simp] theorem ty_zeroO127 : zeroO Tryz.prog 127 = some [.undef] := by kernel_rfl
@[simp] theorem ty_cells128 : Tryz.prog.cellsOf 128 = 1 := by kernel_rfl
@[simp] theorem ty_bytes128 : Tryz.prog.bytesOf 128 = 8 := by kernel_rfl
@[simp] theorem ty_zeroD128 : zeroD Tryz.prog 128 = none := by kernel_rfl
@[simp] theorem ty_zeroC128 : zeroC Tryz.prog 128 = some [.undef] := by kernel_rfl
@[simp] theorem ty_zeroO128 : zeroO Tryz.prog 128 = some [.undef] := by kernel_rfl
@[simp] theorem ty_cells129 : Tryz.prog.cellsOf 129 = 1 := by kernel_rfl
@[simp] theorem ty_bytes129 : Tryz.prog.bytesOf 129 = 8 := by kernel_rfl
@[simp] theorem ty_zeroD129 : zeroD Tryz.prog 129 = none := by kernel_rfl
@[simp] theorem ty_zeroC129 : zeroC Tryz.prog 129 = some [.undef] := by kernel_rfl
@[simp] theorem ty_zeroO129 : zeroO Tryz.prog 129 = some [.undef] := by kernel_rfl
@[simp] theorem ty_cells130 : Tryz.prog.cellsOf 130 = 1 := by kernel_rfl
@[simp] theorem ty_bytes130 : Tryz.prog.bytesOf 130 = 8 := by kernel_rfl
@[simp] theorem ty_zeroD130 : zeroD Tryz.prog 130 = none := by kernel_rfl
@[simp] theorem ty_zeroC130 : zeroC Tryz.prog 130 = some [.undef] := by kernel_rfl
@[simp] theorem ty_zeroO130 : zeroO Tryz.prog 130 = some [.undef] := by kernel_rfl
@[simp] theorem ty_cells131 : Tryz.prog.cellsOf 131 = 1 := by kernel_rfl
@[simp] theorem ty_bytes131 : Tryz.prog.bytesOf 131 = 8 := by kernel_rfl
@[simp] theorem ty_zeroD131 : zeroD Tryz.prog 131 = none := by kernel_rfl
@[simp] theorem ty_zeroC131 : zeroC Tryz.prog 131 = some [.undef] := by kernel_rfl
@[simp] theorem ty_zeroO131 : zeroO Tryz.prog 131 = some [.undef] := by kernel_rfl
@[simp] theorem ty_cells132 : Tryz.prog.cellsOf 132 = 1 := by kernel_rfl
@[simp] theorem ty_bytes132 : Tryz.prog.bytesOf 132 = 8 := by kernel_rfl
@[simp] theorem ty_zeroD132 : zeroD Tryz.prog 132 = none := by kernel_rfl
@[simp] theorem ty_zeroC132 : zeroC Tryz.prog 132 = some [.undef] := by kernel_rfl
@[simp] theorem ty_zeroO132 : zeroO Tryz.prog 132 = some [.undef] := by kernel_rfl
@[simp] theorem ty_cells133 : Tryz.prog.cellsOf 133 = 1 := by kernel_rfl
@[simp] theorem ty_bytes133 : Tryz.prog.bytesOf 133 = 8 := by kernel_rfl
@[simp] theorem ty_zeroD133 : zeroD Tryz.prog 133 = none := by kernel_rfl
@[simp] theorem ty_zeroC133 : zeroC Tryz.prog 133 = some [.undef] := by kernel_rfl
@[simp] theorem ty_zeroO133 : zeroO Tryz.prog 133 = some [.undef] := by kernel_rfl
@[simp] theorem ty_cells134 : Tryz.prog.cellsOf 134 = 1 := by kernel_rfl
@[simp] theorem ty_bytes134 : Tryz.prog.bytesOf 134 = 8 := by kernel_rfl
@[simp] theorem ty_zeroD134 : zeroD Tryz.prog 134 = none := by kernel_rfl
@[simp] theorem ty_zeroC134 : zeroC Tryz.prog 134 = some [.undef] := by kernel_rfl
@[simp] theorem ty_zeroO134 : zeroO Tryz.prog 134 = some [.undef] := by kernel_rfl
@[simp] theorem ty_cells135 : Tryz.prog.cellsOf 135 = 1 := by kernel_rfl
@[simp] theorem ty_bytes135 : Tryz.prog.bytesOf 135 = 8 := by kernel_rfl
@[simp] theorem ty_zeroD135 : zeroD Tryz.prog 135 = none := by kernel_rfl
@[simp] theorem ty_zeroC135 : zeroC Tryz.prog 135 = some [.undef] := by kernel_rfl
@[simp] theorem ty_zeroO135 : zeroO Tryz.prog 135 = some [.undef] := by kernel_rfl
@[simp] theorem ty_cells136 : Tryz.prog.cellsOf 136 = 1 := by kernel_rfl
@[simp] theorem ty_bytes136 : Tryz.prog.bytesOf 136 = 8 := by kernel_rfl
@[simp] theorem ty_zeroD136 : zeroD Tryz.prog 136 = none := by kernel_rfl
@[simp] theorem ty_zeroC136 : zeroC Tryz.prog 136 = some [.undef] := by kernel_rfl
@[simp] theorem ty_zeroO136 : zeroO Tryz.prog 136 = some [.undef] := by kernel_rfl
@[simp] theorem ty_cells137 : Tryz.prog.cellsOf 137 = 1 := by kernel_rfl
@[simp] theorem ty_bytes137 : Tryz.prog.bytesOf 137 = 8 := by kernel_rfl
@[simp] theorem ty_zeroD137 : zeroD Tryz.prog 137 = none := by kernel_rfl
@[simp] theorem ty_zeroC137 : zeroC Tryz.prog 137 = some [.undef] := by kernel_rfl
@[simp] theorem ty_zeroO137 : zeroO Tryz.prog 137 = some [.undef] := by kernel_rfl
@[simp] theorem ty_cells138 : Tryz.prog.cellsOf 138 = 1 := by kernel_rfl
@[simp] theorem ty_bytes138 : Tryz.prog.bytesOf 138 = 8 := by kernel_rfl
@[simp] theorem ty_zeroD138 : zeroD Tryz.prog 138 = none := by kernel_rfl
@[simp] theorem ty_zeroC138 : zeroC Tryz.prog 138 = some [.undef] := by kernel_rfl
@[simp] theorem ty_zeroO138 : zeroO Tryz.prog 138 = some [.undef] := by kernel_rfl
@[simp] theorem ty_cells139 : Tryz.prog.cellsOf 139 = 1 := by kernel_rfl
@[simp] theorem ty_bytes139 : Tryz.prog.bytesOf 139 = 8 := by kernel_rfl
@[simp] theorem ty_zeroD139 : zeroD Tryz.prog 139 = none := by kernel_rfl
@[simp] theorem ty_zeroC139 : zeroC Tryz.prog 139 = some [.undef] := by kernel_rfl
@[simp] theorem ty_zeroO139 : zeroO Tryz.prog 139 = some [.undef] := by kernel_rfl
@[simp] theorem ty_cells140 : Tryz.prog.cellsOf 140 = 1 := by kernel_rfl
@[simp] theorem ty_bytes140 : Tryz.prog.bytesOf 140 = 8 := by kernel_rfl
@[simp] theorem ty_zeroD140 : zeroD Tryz.prog 140 = none := by kernel_rfl
@[simp] theorem ty_zeroC140 : zeroC Tryz.prog 140 = some [.undef] := by kernel_rfl
@[simp] theorem ty_zeroO140 : zeroO Tryz.prog 140 = some [.undef] := by kernel_rfl
@[simp] theorem ty_cells141 : Tryz.prog.cellsOf 141 = 1 := by kernel_rfl
@[simp] theorem ty_bytes141 : Tryz.prog.bytesOf 141 = 8 := by kernel_rfl
@[simp] theorem ty_zeroD141 : zeroD Tryz.prog 141 = none := by kernel_rfl
@[simp] theorem ty_zeroC141 : zeroC Tryz.prog 141 = some [.undef] := by kernel_rfl
@[simp] theorem ty_zeroO141 : zeroO Tryz.prog 141 = some [.undef] := by kernel_rfl
@[simp] theorem ty_cells142 : Tryz.prog.cellsOf 142 = 1 := by kernel_rfl
@[simp] theorem ty_bytes142 : Tryz.prog.bytesOf 142 = 8 := by kernel_rfl
@[simp] theorem ty_zeroD142 : zeroD Tryz.prog 142 = none := by kernel_rfl
@[simp] theorem ty_zeroC142 : zeroC Tryz.prog 142 = some [.undef] := by kernel_rfl
@[simp] theorem ty_zeroO142 : zeroO Tryz.prog 142 = some [.undef] := by kernel_rfl
@[simp] theorem ty_cells143 : Tryz.prog.cellsOf 143 = 1 := by kernel_rfl
@[simp] theorem ty_bytes143 : Tryz.prog.bytesOf 143 = 8 := by kernel_rfl
@[simp] theorem ty_zeroD143 : zeroD Tryz.prog 143 = none := by kernel_rfl
@[simp] theorem ty_zeroC143 : zeroC Tryz.prog 143 = some [.undef] := by kernel_rfl
@[simp] theorem ty_zeroO143 : zeroO Tryz.prog 143 = some [.undef] := by kernel_rfl
@[simp] theorem ty_cells145 : Tryz.prog.cellsOf 145 = 1 := by kernel_rfl
@[simp] theorem ty_bytes145 : Tryz.prog.bytesOf 145 = 8 := by kernel_rfl
@[simp] theorem ty_zeroD145 : zeroD Tryz.prog 145 = none := by kernel_rfl
@[simp] theorem ty_zeroC145 : zeroC Tryz.prog 145 = some [.undef] := by kernel_rfl
@[simp] theorem ty_zeroO145 : zeroO Tryz.prog 145 = some [.undef] := by kernel_rfl
@[simp] theorem ty_cells146 : Tryz.prog.cellsOf 146 = 1 := by kernel_rfl
@[simp] theorem ty_bytes146 : Tryz.prog.bytesOf 146 = 8 := by kernel_rfl
@[simp] theorem ty_zeroD146 : zeroD Tryz.prog 146 = none := by kernel_rfl
@[simp] theorem ty_zeroC146 : zeroC Tryz.prog 146 = some [.undef] := by kernel_rfl
@[simp] theorem ty_zeroO146 : zeroO Tryz.prog 146 = some [.undef] := by kernel_rfl
@[simp] theorem ty_cells147 : Tryz.prog.cellsOf 147 = 1 := by kernel_rfl
@[simp] theorem ty_bytes147 : Tryz.prog.bytesOf 147 = 8 := by kernel_rfl
@[simp] theorem ty_zeroD147 : zeroD Tryz.prog 147 = none := by kernel_rfl
@[simp] theorem ty_zeroC147 : zeroC Tryz.prog 147 = some [.undef] := by kernel_rfl
@[simp] theorem ty_zeroO147 : zeroO Tryz.prog 147 = some [.undef] := by kernel_rfl
@[simp] theorem ty_cells148 : Tryz.prog.cellsOf 148 = 1 := by kernel_rfl
@[simp] theorem ty_bytes148 : Tryz.prog.bytesOf 148 = 8 := by kernel_rfl
@[simp] theorem ty_zeroD148 : zeroD Tryz.prog 148 = none := by kernel_rfl
@[simp] theorem ty_zeroC148 : zeroC Tryz.prog 148 = some [.undef] := by kernel_rfl
@[simp] theorem ty_zeroO148 : zeroO Tryz.prog 148 = some [.undef] := by kernel_rfl
@[simp] theorem ty_cells149 : Tryz.prog.cellsOf 149 = 1 := by kernel_rfl
@[simp] theorem ty_bytes149 : Tryz.prog.bytesOf 149 = 8 := by kernel_rfl
@[simp] theorem ty_zeroD149 : zeroD Tryz.prog 149 = none := by kernel_rfl
@[simp] theorem ty_zeroC149 : zeroC Tryz.prog 149 = some [.undef] := by kernel_rfl
@[simp] theorem ty_zeroO149 : zeroO Tryz.prog 149 = some [.undef] := by kernel_rfl
@[simp] theorem ty_cells150 : Tryz.prog.cellsOf 150 = 1 := by kernel_rfl
@[simp] theorem ty_bytes150 : Tryz.prog.bytesOf 150 = 8 := by kernel_rfl
@[simp] theorem ty_zeroD150 : zeroD Tryz.prog 150 = none := by kernel_rfl
@[simp] theorem ty_zeroC150 : zeroC Tryz.prog 150 = some [.undef] := by kernel_rfl
@[simp] theorem ty_zeroO150 : zeroO Tryz.prog 150 = some [.undef] := by kernel_rfl
@[simp] theorem ty_cells151 : Tryz.prog.cellsOf 151 = 1 := by kernel_rfl
@[simp] theorem ty_bytes151 : Tryz.prog.bytesOf 151 = 8 := by kernel_rfl
@[simp] theorem ty_zeroD151 : zeroD Tryz.prog 151 = none := by kernel_rfl
@[simp] theorem ty_zeroC151 : zeroC Tryz.prog 151 = some [.undef] := by kernel_rfl
@[simp] theorem ty_zeroO151 : zeroO Tryz.prog 151 = some [.undef] := by kernel_rfl
@[simp] theorem ty_cells152 : Tryz.prog.cellsOf 152 = 1 := by kernel_rfl
@[simp] theorem ty_bytes152 : Tryz.prog.bytesOf 152 = 8 := by kernel_rfl
@[simp] theorem ty_zeroD152 : zeroD Tryz.prog 152 = none := by kernel_rfl
@[simp] theorem ty_zeroC152 : zeroC Tryz.prog 152 = some [.undef] := by kernel_rfl
@[simp] theorem ty_zeroO152 : zeroO Tryz.prog 152 = some [.undef] := by kernel_rfl
@[simp] theorem ty_cells154 : Tryz.prog.cellsOf 154 = 1 := by kernel_rfl
@[simp] theorem ty_bytes154 : Tryz.prog.bytesOf 154 = 8 := by kernel_rfl
@[simp] theorem ty_zeroD154 : zeroD Tryz.prog 154 = none := by kernel_rfl
@[simp] theorem ty_zeroC154 : zeroC Tryz.prog 154 = some [.undef] := by kernel_rfl
@[simp] theorem ty_zeroO154 : zeroO Tryz.prog 154 = some [.undef] := by kernel_rfl
@[simp] theorem ty_cells155 : Tryz.prog.cellsOf 155 = 1 := by kernel_rfl
@[simp] theorem ty_bytes155 : Tryz.prog.bytesOf 155 = 8 := by kernel_rfl
@[simp] theorem ty_zeroD155 : zeroD Tryz.prog 155 = none := by kernel_rfl
@[simp] theorem ty_zeroC155 : zeroC Tryz.prog 155 = some [.undef] := by kernel_rfl
@[simp] theorem ty_zeroO155 : zeroO Tryz.prog 155 = some [.undef] := by kernel_rfl
@[simp] theorem ty_cells156 : Tryz.prog.cellsOf 156 = 1 := by kernel_rfl
@[simp] theorem ty_bytes156 : Tryz.prog.bytesOf 156 = 8 := by kernel_rfl
@[simp] theorem ty_zeroD156 : zeroD Tryz.prog 156 = none := by kernel_rfl
@[simp] theorem ty_zeroC156 : zeroC Tryz.prog 156 = some [.undef] := by kernel_rfl
@[simp] theorem ty_zeroO156 : zeroO Tryz.prog 156 = some [.undef] := by kernel_rfl
@[simp] theorem ty_cells157 : Tryz.prog.cellsOf 157 = 2 := by kernel_rfl
@[simp] theorem ty_bytes157 : Tryz.prog.bytesOf 157 = 24 := by kernel_rfl
@[simp] theorem ty_zeroD157 : zeroD Tryz.prog 157 = none := by kernel_rfl
@[simp] theorem ty_zeroC157 : zeroC Tryz.prog 157 = some [.undef, .d (.str [])] := by kernel_rfl
@[simp] theorem ty_zeroO157 : zeroO Tryz.prog 157 = some [.undef, .d (.str [])] := by kernel_rfl
@[simp] theorem ty_field157_0 : fieldOf Tryz.prog 157 0 = some (0, 156) := by kernel_rfl
@[simp] theorem ty_field157_1 : fieldOf Tryz.prog 157 1 = some (1, 43) := by kernel_rfl
@[simp] theorem ty_cells158 : Tryz.prog.cellsOf 158 = 2 := by kernel_rfl
@[simp] theorem ty_bytes158 : Tryz.prog.bytesOf 158 = 24 := by kernel_rfl
@[simp] theorem ty_zeroD158 : zeroD Tryz.prog 158 = none := by kernel_rfl
@[simp] theorem ty_zeroC158 : zeroC Tryz.prog 158 = some [.undef, .d (.str [])] := by kernel_rfl
@[simp] theorem ty_zeroO158 : zeroO Tryz.prog 158 = some [.undef, .d (.str [])] := by kernel_rfl
@[simp] theorem ty_isStruct158 : isStruct Tryz.prog 158 = true := by kernel_rfl
@[simp] theorem ty_field158_0 : fieldOf Tryz.prog 158 0 = some (0, 156) := by kernel_rfl
@[simp] theorem ty_field158_1 : fieldOf Tryz.prog 158 1 = some (1, 43) := by kernel_rfl
@[simp] theorem ty_cells159 : Tryz.prog.cellsOf 159 = 1 := by kernel_rfl
@[simp] theorem ty_bytes159 : Tryz.prog.bytesOf 159 = 8 := by kernel_rfl
@[simp] theorem ty_zeroD159 : zeroD Tryz.prog 159 = none := by kernel_rfl
@[simp] theorem ty_zeroC159 : zeroC Tryz.prog 159 = some [.undef] := by kernel_rfl
@[simp] theorem ty_zeroO159 : zeroO Tryz.prog 159 = some [.undef] := by kernel_rfl
@[simp] theorem ty_cells160 : Tryz.prog.cellsOf 160 = 1 := by kernel_rfl
@[simp] theorem ty_bytes160 : Tryz.prog.bytesOf 160 = 8 := by kernel_rfl
@[simp] theorem ty_zeroD160 : zeroD Tryz.prog 160 = none := by kernel_rfl
@[simp] theorem ty_zeroC160 : zeroC Tryz.prog 160 = some [.undef] := by kernel_rfl
@[simp] theorem ty_zeroO160 : zeroO Tryz.prog 160 = some [.undef] := by kernel_rfl
@[simp] theorem ty_cells161 : Tryz.prog.cellsOf 161 = 1 := by kernel_rfl
@[simp] theorem ty_bytes161 : Tryz.prog.bytesOf 161 = 8 := by kernel_rfl
@[simp] theorem ty_zeroD161 : zeroD Tryz.prog 161 = none := by kernel_rfl
@[simp] theorem ty_zeroC161 : zeroC Tryz.prog 161 = some [.undef] := by kernel_rfl
@[simp] theorem ty_zeroO161 : zeroO Tryz.prog 161 = some [.undef] := by kernel_rfl
@[simp] theorem ty_cells162 : Tryz.prog.cellsOf 162 = 1 := by kernel_rfl
@[simp] theorem ty_bytes162 : Tryz.prog.bytesOf 162 = 8 := by kernel_rfl
@[simp] theorem ty_zeroD162 : zeroD Tryz.prog 162 = none := by kernel_rfl
@[simp] theorem ty_zeroC162 : zeroC Tryz.prog 162 = some [.undef] := by kernel_rfl
@[simp] theorem ty_zeroO162 : zeroO Tryz.prog 162 = some [.undef] := by kernel_rfl
@[simp] theorem ty_cells163 : Tryz.prog.cellsOf 163 = 2 := by kernel_rfl
@[simp] theorem ty_bytes163 : Tryz.prog.bytesOf 163 = 32 := by kernel_rfl
@[simp] theorem ty_zeroD163 : zeroD Tryz.prog 163 = some [.str [], .str []] := by kernel_rfl
@[simp] theorem ty_zeroV163 : zeroValD Tryz.prog 163 = some (.agg [.str [], .str []]) := by kernel_rfl
@[simp] theorem ty_isStruct163 : isStruct Tryz.prog 163 = true := by kernel_rfl
@[simp] theorem ty_field163_0 : fieldOf Tryz.prog 163 0 = some (0, 9) := by kernel_rfl
@[simp] theorem ty_field163_1 : fieldOf Tryz.prog 163 1 = some (1, 43) := by kernel_rfl
@[simp] theorem ty_flat163 : flatDescs Tryz.prog 163 = some [.string, .string] := by kernel_rfl
@[simp] theorem ty_cells164 : Tryz.prog.cellsOf 164 = 1 := by kernel_rfl
@[simp] theorem ty_bytes164 : Tryz.prog.bytesOf 164 = 8 := by kernel_rfl
@[simp] theorem ty_zeroD164 : zeroD Tryz.prog 164 = none := by kernel_rfl
@[simp] theorem ty_zeroC164 : zeroC Tryz.prog 164 = some [.undef] := by kernel_rfl
@[simp] theorem ty_zeroO164 : zeroO Tryz.prog 164 = some [.undef] := by kernel_rfl
@[simp] theorem ty_cells165 : Tryz.prog.cellsOf 165 = 1 := by kernel_rfl
@[simp] theorem ty_bytes165 : Tryz.prog.bytesOf 165 = 8 := by kernel_rfl
@[simp] theorem ty_zeroD165 : zeroD Tryz.prog 165 = none := by kernel_rfl
@[simp] theorem ty_zeroC165 : zeroC Tryz.prog 165 = some [.undef] := by kernel_rfl
@[simp] theorem ty_zeroO165 : zeroO Tryz.prog 165 = some [.undef] := by kernel_rfl
@[simp] theorem ty_cells166 : Tryz.prog.cellsOf 166 = 1 := by kernel_rfl
@[simp] theorem ty_bytes166 : Tryz.prog.bytesOf 166 = 8 := by kernel_rfl
@[simp] theorem ty_zeroD166 : zeroD Tryz.prog 166 = none := by kernel_rfl
@[simp] theorem ty_zeroC166 : zeroC Tryz.prog 166 = some [.undef] := by kernel_rfl
@[simp] theorem ty_zeroO166 : zeroO Tryz.prog 166 = some [.undef] := by kernel_rfl
@[simp] theorem ty_cells167 : Tryz.prog.cellsOf 167 = 42 := by kernel_rfl
@[simp] theorem ty_bytes167 : Tryz.prog.bytesOf 167 = 672 := by kernel_rfl
@[simp] theorem ty_zeroD167 : zeroD Tryz.prog 167 = some [.str [], .str [], .str [], .str [], .str [], .str [], .str [], .str [], .str [], .str [], .str [], .str [], .str [], .str [], .str [], .str [], .str [], .str [], .str [], .str [], .str [], .str [], .str [], .str [], .str [], .str [], .str [], .str [], .str [], .str [], .str [], .str [], .str [], .str [], .str [], .str [], .str [], .str [], .str [], .str [], .str [], .str []] := by kernel_rfl
@[simp] theorem ty_cells168 : Tryz.prog.cellsOf 168 = 1 := by kernel_rfl
@[simp] theorem ty_bytes168 : Tryz.prog.bytesOf 168 = 8 := by kernel_rfl
@[simp] theorem ty_zeroD168 : zeroD Tryz.prog 168 = none := by kernel_rfl
@[simp] theorem ty_zeroC168 : zeroC Tryz.prog 168 = some [.undef] := by kernel_rfl
@[simp] theorem ty_zeroO168 : zeroO Tryz.prog 168 = some [.undef] := by kernel_rfl
@[simp] theorem ty_cells169 : Tryz.prog.cellsOf 169 = 1 := by kernel_rfl
@[simp] theorem ty_bytes169 : Tryz.prog.bytesOf 169 = 8 := by kernel_rfl
@[simp] theorem ty_zeroD169 : zeroD Tryz.prog 169 = none := by kernel_rfl
@[simp] theorem ty_zeroC169 : zeroC Tryz.prog 169 = some [.undef] := by kernel_rfl
@[simp] theorem ty_zeroO169 : zeroO Tryz.prog 169 = some [.undef] := by kernel_rfl
@[simp] theorem ty_cells170 : Tryz.prog.cellsOf 170 = 1 := by kernel_rfl
@[simp] theorem ty_bytes170 : Tryz.prog.bytesOf 170 = 8 := by kernel_rfl
@[simp] theorem ty_zeroD170 : zeroD Tryz.prog 170 = none := by kernel_rfl
@[simp] theorem ty_zeroC170 : zeroC Tryz.prog 170 = some [.undef] := by kernel_rfl
@[simp] theorem ty_zeroO170 : zeroO Tryz.prog 170 = some [.undef] := by kernel_rfl
@[simp] theorem ty_cells171 : Tryz.prog.cellsOf 171 = 1 := by kernel_rfl
@[simp] theorem ty_bytes171 : Tryz.prog.bytesOf 171 = 8 := by kernel_rfl
@[simp] theorem ty_zeroD171 : zeroD Tryz.prog 171 = none := by kernel_rfl
@[simp] theorem ty_zeroC171 : zeroC Tryz.prog 171 = some [.undef] := by kernel_rfl
@[simp] theorem ty_zeroO171 : zeroO Tryz.prog 171 = some [.undef] := by kernel_rfl
@[simp] theorem ty_cells172 : Tryz.prog.cellsOf 172 = 1 := by kernel_rfl
@[simp] theorem ty_bytes172 : Tryz.prog.bytesOf 172 = 8 := by kernel_rfl
@[simp] theorem ty_zeroD172 : zeroD Tryz.prog 172 = none := by kernel_rfl
@[simp] theorem ty_zeroC172 : zeroC Tryz.prog 172 = some [.undef] := by kernel_rfl
@[simp] theorem ty_zeroO172 : zeroO Tryz.prog 172 = some [.undef] := by kernel_rfl
@[simp] theorem ty_cells174 : Tryz.prog.cellsOf 174 = 1 := by kernel_rfl
@[simp] theorem ty_bytes174 : Tryz.prog.bytesOf 174 = 8 := by kernel_rfl
@[simp] theorem ty_zeroD174 : zeroD Tryz.prog 174 = none := by kernel_rfl
@[simp] theorem ty_zeroC174 : zeroC Tryz.prog 174 = some [.undef] := by kernel_rfl
@[simp] theorem ty_zeroO174 : zeroO Tryz.prog 174 = some [.undef] := by kernel_rfl
@[simp] theorem ty_cells175 : Tryz.prog.cellsOf 175 = 1 := by kernel_rfl
@[simp] theorem ty_bytes175 : Tryz.prog.bytesOf 175 = 8 := by kernel_rfl
@[simp] theorem ty_zeroD175 : zeroD Tryz.prog 175 = none := by kernel_rfl
@[simp] theorem ty_zeroC175 : zeroC Tryz.prog 175 = some [.undef] := by kernel_rfl
@[simp] theorem ty_zeroO175 : zeroO Tryz.prog 175 = some [.undef] := by kernel_rfl
@[simp] theorem ty_cells176 : Tryz.prog.cellsOf 176 = 1 := by kernel_rfl
@[simp] theorem ty_bytes176 : Tryz.prog.bytesOf 176 = 8 := by kernel_rfl
@[simp] theorem ty_zeroD176 : zeroD Tryz.prog 176 = none := by kernel_rfl
@[simp] theorem ty_zeroC176 : zeroC Tryz.prog 176 = some [.undef] := by kernel_rfl
@[simp] theorem ty_zeroO176 : zeroO Tryz.prog 176 = some [.undef] := by kernel_rfl
@[simp] theorem ty_cells177 : Tryz.prog.cellsOf 177 = 1 := by kernel_rfl
@[simp] theorem ty_bytes177 : Tryz.prog.bytesOf 177 = 8 := by kernel_rfl
@[simp] theorem ty_zeroD177 : zeroD Tryz.prog 177 = none := by kernel_rfl
@[simp] theorem ty_zeroC177 : zeroC Tryz.prog 177 = some [.undef] := by kernel_rfl
@[simp] theorem ty_zeroO177 : zeroO Tryz.prog 177 = some [.undef] := by kernel_rfl
@[simp] theorem ty_cells178 : Tryz.prog.cellsOf 178 = 1 := by kernel_rfl
@[simp] theorem ty_bytes178 : Tryz.prog.bytesOf 178 = 8 := by kernel_rfl
@[simp] theorem ty_zeroD178 : zeroD Tryz.prog 178 = none := by kernel_rfl
@[simp] theorem ty_zeroC178 : zeroC Tryz.prog 178 = some [.undef] := by kernel_rfl
@[simp] theorem ty_zeroO178 : zeroO Tryz.prog 178 = some [.undef] := by kernel_rfl
@[simp] theorem ty_cells179 : Tryz.prog.cellsOf 179 = 1 := by kernel_rfl
@[simp] theorem ty_bytes179 : Tryz.prog.bytesOf 179 = 8 := by kernel_rfl
@[simp] theorem ty_zeroD179 : zeroD Tryz.prog 179 = none := by kernel_rfl
@[simp] theorem ty_zeroC179 : zeroC Tryz.prog 179 = some [.undef] := by kernel_rfl
@[simp] theorem ty_zeroO179 : zeroO Tryz.prog 179 = some [.undef] := by kernel_rfl
@[simp] theorem ty_cells180 : Tryz.prog.cellsOf 180 = 1 := by kernel_rfl
@[simp] theorem ty_bytes180 : Tryz.prog.bytesOf 180 = 8 := by kernel_rfl
@[simp] theorem ty_zeroD180 : zeroD Tryz.prog 180 = none := by kernel_rfl
@[simp] theorem ty_zeroC180 : zeroC Tryz.prog 180 = some [.undef] := by kernel_rfl
@[simp] theorem ty_zeroO180 : zeroO Tryz.prog 180 = some [.undef] := by kernel_rfl
@[simp] theorem ty_cells181 : Tryz.prog.cellsOf 181 = 1 := by kernel_rfl
@[simp] theorem ty_bytes181 : Tryz.prog.bytesOf 181 = 8 := by kernel_rfl
@[simp] theorem ty_zeroD181 : zeroD Tryz.prog 181 = none := by kernel_rfl
@[simp] theorem ty_zeroC181 : zeroC Tryz.prog 181 = some [.undef] := by kernel_rfl
@[simp] theorem ty_zeroO181 : zeroO Tryz.prog 181 = some [.undef] := by kernel_rfl
@[simp] theorem ty_cells182 : Tryz.prog.cellsOf 182 = 4 := by kernel_rfl
@[simp] theorem ty_bytes182 : Tryz.prog.bytesOf 182 = 40 := by kernel_rfl
@[simp] theorem ty_zeroD182 : zeroD Tryz.prog 182 = none := by kernel_rfl
@[simp] theorem ty_zeroC182 : zeroC Tryz.prog 182 = some [.undef, .undef, .undef, .d (.str [])] := by kernel_rfl
@[simp] theorem ty_zeroO182 : zeroO Tryz.prog 182 = some [.undef, .undef, .undef, .d (.str [])] := by kernel_rfl
@[simp] theorem ty_field182_0 : fieldOf Tryz.prog 182 0 = some (0, 17) := by kernel_rfl
@[simp] theorem ty_field182_1 : fieldOf Tryz.prog 182 1 = some (1, 17) := by kernel_rfl
@[simp] theorem ty_field182_2 : fieldOf Tryz.prog 182 2 = some (2, 17) := by kernel_rfl
@[simp] theorem ty_field182_3 : fieldOf Tryz.prog 182 3 = some (3, 9) := by kernel_rfl
@[simp] theorem ty_cells183 : Tryz.prog.cellsOf 183 = 4 := by kernel_rfl
@[simp] theorem ty_bytes183 : Tryz.prog.bytesOf 183 = 40 := by kernel_rfl
@[simp] theorem ty_zeroD183 : zeroD Tryz.prog 183 = none := by kernel_rfl
@[simp] theorem ty_zeroC183 : zeroC Tryz.prog 183 = some [.undef, .undef, .undef, .d (.str [])] := by kernel_rfl
@[simp] theorem ty_zeroO183 : zeroO Tryz.prog 183 = some [.undef, .undef, .undef, .d (.str [])] := by kernel_rfl
@[simp] theorem ty_field183_0 : fieldOf Tryz.prog 183 0 = some (0, 17) := by kernel_rfl
@[simp] theorem ty_field183_1 : fieldOf Tryz.prog 183 1 = some (1, 17) := by kernel_rfl
@[simp] theorem ty_field183_2 : fieldOf Tryz.prog 183 2 = some (2, 17) := by kernel_rfl
@[simp] theorem ty_field183_3 : fieldOf Tryz.prog 183 3 = some (3, 9) := by kernel_rfl
@[simp] theorem ty_cells184 : Tryz.prog.cellsOf 184 = 0 := by kernel_rfl
@[simp] theorem ty_bytes184 : Tryz.prog.bytesOf 184 = 0 := by kernel_rfl
@[simp] theorem ty_cells185 : Tryz.prog.cellsOf 185 = 0 := by kernel_rfl
@[simp] theorem ty_bytes185 : Tryz.prog.bytesOf 185 = 0 := by kernel_rfl
@[simp] theorem ty_field185_0 : fieldOf Tryz.prog 185 0 = some (0, 184) := by kernel_rfl
@[simp] theorem ty_cells186 : Tryz.prog.cellsOf 186 = 0 := by kernel_rfl
@[simp] theorem ty_bytes186 : Tryz.prog.bytesOf 186 = 0 := by kernel_rfl
@[simp] theorem ty_field186_0 : fieldOf Tryz.prog 186 0 = some (0, 184) := by kernel_rfl
@[simp] theorem ty_cells187 : Tryz.prog.cellsOf 187 = 1 := by kernel_rfl
@[simp] theorem ty_bytes187 : Tryz.prog.bytesOf 187 = 8 := by kernel_rfl
@[simp] theorem ty_zeroD187 : zeroD Tryz.prog 187 = none := by kernel_rfl
@[simp] theorem ty_zeroC187 : zeroC Tryz.prog 187 = some [.undef] := by kernel_rfl
@[simp] theorem ty_zeroO187 : zeroO Tryz.prog 187 = some [.undef] := by kernel_rfl
@[simp] theorem ty_cells188 : Tryz.prog.cellsOf 188 = 1 := by kernel_rfl
@[simp] theorem ty_bytes188 : Tryz.prog.bytesOf 188 = 4 := by kernel_rfl
@[simp] theorem ty_zeroD188 : zeroD Tryz.prog 188 = some [.int .u32 0] := by kernel_rfl
@[simp] theorem ty_zeroV188 : zeroValD Tryz.prog 188 = some (.int .u32 0) := by kernel_rfl
@[simp] theorem ty_cells189 : Tryz.prog.cellsOf 189 = 1 := by kernel_rfl
@[simp] theorem ty_bytes189 : Tryz.prog.bytesOf 189 = 1 := by kernel_rfl
@[simp] theorem ty_zeroD189 : zeroD Tryz.prog 189 = some [.int .u8 0] := by kernel_rfl
@[simp] theorem ty_zeroV189 : zeroValD Tryz.prog 189 = some (.int .u8 0) := by kernel_rfl
@[simp] theorem ty_cells190 : Tryz.prog.cellsOf 190 = 1 := by kernel_rfl
@[simp] theorem ty_bytes190 : Tryz.prog.bytesOf 190 = 1 := by kernel_rfl
@[simp] theorem ty_zeroD190 : zeroD Tryz.prog 190 = some [.int .u8 0] := by kernel_rfl
@[simp] theorem ty_zeroV190 : zeroValD Tryz.prog 190 = some (.int .u8 0) := by kernel_rfl
@[simp] theorem ty_cells191 : Tryz.prog.cellsOf 191 = 1 := by kernel_rfl
@[simp] theorem ty_bytes191 : Tryz.prog.bytesOf 191 = 8 := by kernel_rfl
@[simp] theorem ty_zeroD191 : zeroD Tryz.prog 191 = none := by kernel_rfl
@[simp] theorem ty_zeroC191 : zeroC Tryz.prog 191 = some [.undef] := by kernel_rfl
@[simp] theorem ty_zeroO191 : zeroO Tryz.prog 191 = some [.undef] := by kernel_rfl
@[simp] theorem ty_cells192 : Tryz.prog.cellsOf 192 = 1 := by kernel_rfl
@[simp] theorem ty_bytes192 : Tryz.prog.bytesOf 192 = 8 := by kernel_rfl
@[simp] theorem ty_zeroD192 : zeroD Tryz.prog 192 = none := by kernel_rfl
@[simp] theorem ty_zeroC192 : zeroC Tryz.prog 192 = some [.undef] := by kernel_rfl
@[simp] theorem ty_zeroO192 : zeroO Tryz.prog 192 = some [.undef] := by kernel_rfl
@[simp] theorem ty_cells193 : Tryz.prog.cellsOf 193 = 1 := by kernel_rfl
@[simp] theorem ty_bytes193 : Tryz.prog.bytesOf 193 = 4 := by kernel_rfl
@[simp] theorem ty_zeroD193 : zeroD Tryz.prog 193 = some [.int .i32 0] := by kernel_rfl
@[simp] theorem ty_zeroV193 : zeroValD Tryz.prog 193 = some (.int .i32 0) := by kernel_rfl
@[simp] theorem ty_cells194 : Tryz.prog.cellsOf 194 = 1 := by kernel_rfl
@[simp] theorem ty_bytes194 : Tryz.prog.bytesOf 194 = 4 := by kernel_rfl
@[simp] theorem ty_zeroD194 : zeroD Tryz.prog 194 = some [.int .i32 0] := by kernel_rfl
@[simp] theorem ty_zeroV194 : zeroValD Tryz.prog 194 = some (.int .i32 0) := by kernel_rfl
@[simp] theorem ty_cells195 : Tryz.prog.cellsOf 195 = 11 := by kernel_rfl
@[simp] theorem ty_bytes195 : Tryz.prog.bytesOf 195 = 48 := by kernel_rfl
@[simp] theorem ty_zeroD195 : zeroD Tryz.prog 195 = none := by kernel_rfl
@[simp] theorem ty_zeroC195 : zeroC Tryz.prog 195 = some [.d (.int .u64 0), .d (.int .u64 0), .d (.int .u32 0), .d (.int .u8 0), .d (.int .u8 0), .d (.int .u8 0), .d (.int .u8 0), .undef, .undef, .d (.int .i32 0), .d (.int .i32 0)] := by kernel_rfl
@[simp] theorem ty_zeroO195 : zeroO Tryz.prog 195 = some [.d (.int .u64 0), .d (.int .u64 0), .d (.int .u32 0), .d (.int .u8 0), .d (.int .u8 0), .d (.int .u8 0), .d (.int .u8 0), .undef, .undef, .d (.int .i32 0), .d (.int .i32 0)] := by kernel_rfl
@[simp] theorem ty_field195_0 : fieldOf Tryz.prog 195 0 = some (0, 12) := by kernel_rfl
@[simp] theorem ty_field195_1 : fieldOf Tryz.prog 195 1 = some (1, 12) := by kernel_rfl
@[simp] theorem ty_field195_2 : fieldOf Tryz.prog 195 2 = some (2, 188) := by kernel_rfl
@[simp] theorem ty_field195_3 : fieldOf Tryz.prog 195 3 = some (3, 189) := by kernel_rfl
@[simp] theorem ty_field195_4 : fieldOf Tryz.prog 195 4 = some (4, 5) := by kernel_rfl
@[simp] theorem ty_field195_5 : fieldOf Tryz.prog 195 5 = some (5, 5) := by kernel_rfl
@[simp] theorem ty_field195_6 : fieldOf Tryz.prog 195 6 = some (6, 190) := by kernel_rfl
@[simp] theorem ty_field195_7 : fieldOf Tryz.prog 195 7 = some (7, 191) := by kernel_rfl
@[simp] theorem ty_field195_8 : fieldOf Tryz.prog 195 8 = some (8, 192) := by kernel_rfl
@[simp] theorem ty_field195_9 : fieldOf Tryz.prog 195 9 = some (9, 193) := by kernel_rfl
@[simp] theorem ty_field195_10 : fieldOf Tryz.prog 195 10 = some (10, 194) := by kernel_rfl
@[simp] theorem ty_cells196 : Tryz.prog.cellsOf 196 = 11 := by kernel_rfl
@[simp] theorem ty_bytes196 : Tryz.prog.bytesOf 196 = 48 := by kernel_rfl
@[simp] theorem ty_zeroD196 : zeroD Tryz.prog 196 = none := by kernel_rfl
@[simp] theorem ty_zeroC196 : zeroC Tryz.prog 196 = some [.d (.int .u64 0), .d (.int .u64 0), .d (.int .u32 0), .d (.int .u8 0), .d (.int .u8 0), .d (.int .u8 0), .d (.int .u8 0), .undef, .undef, .d (.int .i32 0), .d (.int .i32 0)] := by kernel_rfl
@[simp] theorem ty_zeroO196 : zeroO Tryz.prog 196 = some [.d (.int .u64 0), .d (.int .u64 0), .d (.int .u32 0), .d (.int .u8 0), .d (.int .u8 0), .d (.int .u8 0), .d (.int .u8 0), .undef, .undef, .d (.int .i32 0), .d (.int .i32 0)] := by kernel_rfl
@[simp] theorem ty_field196_0 : fieldOf Tryz.prog 196 0 = some (0, 12) := by kernel_rfl
@[simp] theorem ty_field196_1 : fieldOf Tryz.prog 196 1 = some (1, 12) := by kernel_rfl
@[simp] theorem ty_field196_2 : fieldOf Tryz.prog 196 2 = some (2, 188) := by kernel_rfl
@[simp] theorem ty_field196_3 : fieldOf Tryz.prog 196 3 = some (3, 189) := by kernel_rfl
@[simp] theorem ty_field196_4 : fieldOf Tryz.prog 196 4 = some (4, 5) := by kernel_rfl
@[simp] theorem ty_field196_5 : fieldOf Tryz.prog 196 5 = some (5, 5) := by kernel_rfl
@[simp] theorem ty_field196_6 : fieldOf Tryz.prog 196 6 = some (6, 190) := by kernel_rfl
@[simp] theorem ty_field196_7 : fieldOf Tryz.prog 196 7 = some (7, 191) := by kernel_rfl
@[simp] theorem ty_field196_8 : fieldOf Tryz.prog 196 8 = some (8, 192) := by kernel_rfl
@[simp] theorem ty_field196_9 : fieldOf Tryz.prog 196 9 = some (9, 193) := by kernel_rfl
@[simp] theorem ty_field196_10 : fieldOf Tryz.prog 196 10 = some (10, 194) := by kernel_rfl
@[simp] theorem ty_elemOk9 : elemOk Tryz.prog 9 = true := by kernel_rfl
@[simp] theorem ty_elemOk30 : elemOk Tryz.prog 30 = true := by kernel_rfl
@[simp] theorem ty_elemOk43 : elemOk Tryz.prog 43 = true := by kernel_rfl
@[simp] theorem ty_elemOk45 : elemOk Tryz.prog 45 = true := by kernel_rfl
@[simp] theorem ty_elemOk54 : elemOk Tryz.prog 54 = true := by kernel_rfl
@[simp] theorem ty_elemOk61 : elemOk Tryz.prog 61 = true := by kernel_rfl
@[simp] theorem ty_elemOk69 : elemOk Tryz.prog 69 = true := by kernel_rfl
@[simp] theorem ty_elemOk75 : elemOk Tryz.prog 75 = true := by kernel_rfl
@[simp] theorem ty_elemOk81 : elemOk Tryz.prog 81 = true := by kernel_rfl
@[simp] theorem ty_elemOk109 : elemOk Tryz.prog 109 = true := by kernel_rfl
@[simp] theorem ty_elemOk111 : elemOk Tryz.prog 111 = true := by kernel_rfl
@[simp] theorem ty_elemOk122 : elemOk Tryz.prog 122 = true := by kernel_rfl
@[simp] theorem ty_elemOk163 : elemOk Tryz.prog 163 = true := by kernel_rfl
end Go.Proofs.YthikbenglkfioaaGreatDoor
