/- The facts on this translation's types that the machine on data asks, one closed fact each. By a program of ours. No condition. -/
import Derived.Test.YthikbenglkfioaaDoorZF
import Derived.KernelRfl
import Derived.Test.YthikbenglkfioaaDoorProg
set_option linter.unusedVariables false
set_option linter.unusedSimpArgs false
namespace Go.Proofs.YthikbenglkfioaaDoor
open Go Go.VM
@[simp] theorem ty_cells1 : Tryd.prog.cellsOf 1 = 1 := by kernel_rfl
@[simp] theorem ty_bytes1 : Tryd.prog.bytesOf 1 = 8 := by kernel_rfl
@[simp] theorem ty_zeroD1 : zeroD Tryd.prog 1 = none := by kernel_rfl
@[simp] theorem ty_zeroC1 : zeroC Tryd.prog 1 = some [.undef] := by kernel_rfl
@[simp] theorem ty_zeroO1 : zeroO Tryd.prog 1 = some [.undef] := by kernel_rfl
@[simp] theorem ty_cells2 : Tryd.prog.cellsOf 2 = 1 := by kernel_rfl
@[simp] theorem ty_bytes2 : Tryd.prog.bytesOf 2 = 8 := by kernel_rfl
@[simp] theorem ty_zeroD2 : zeroD Tryd.prog 2 = some [.int .i64 0] := by kernel_rfl
@[simp] theorem ty_zeroV2 : zeroValD Tryd.prog 2 = some (.int .i64 0) := by kernel_rfl
@[simp] theorem ty_cells3 : Tryd.prog.cellsOf 3 = 1 := by kernel_rfl
@[simp] theorem ty_bytes3 : Tryd.prog.bytesOf 3 = 8 := by kernel_rfl
@[simp] theorem ty_zeroD3 : zeroD Tryd.prog 3 = some [.int .i64 0] := by kernel_rfl
@[simp] theorem ty_zeroV3 : zeroValD Tryd.prog 3 = some (.int .i64 0) := by kernel_rfl
@[simp] theorem ty_cells4 : Tryd.prog.cellsOf 4 = 1 := by kernel_rfl
@[simp] theorem ty_bytes4 : Tryd.prog.bytesOf 4 = 1 := by kernel_rfl
@[simp] theorem ty_zeroD4 : zeroD Tryd.prog 4 = some [.bool false] := by kernel_rfl
@[simp] theorem ty_zeroV4 : zeroValD Tryd.prog 4 = some (.bool false) := by kernel_rfl
@[simp] theorem ty_cells5 : Tryd.prog.cellsOf 5 = 1 := by kernel_rfl
@[simp] theorem ty_bytes5 : Tryd.prog.bytesOf 5 = 1 := by kernel_rfl
@[simp] theorem ty_zeroD5 : zeroD Tryd.prog 5 = some [.int .u8 0] := by kernel_rfl
@[simp] theorem ty_zeroV5 : zeroValD Tryd.prog 5 = some (.int .u8 0) := by kernel_rfl
@[simp] theorem ty_cells6 : Tryd.prog.cellsOf 6 = 1 := by kernel_rfl
@[simp] theorem ty_bytes6 : Tryd.prog.bytesOf 6 = 1 := by kernel_rfl
@[simp] theorem ty_zeroD6 : zeroD Tryd.prog 6 = some [.int .u8 0] := by kernel_rfl
@[simp] theorem ty_zeroV6 : zeroValD Tryd.prog 6 = some (.int .u8 0) := by kernel_rfl
@[simp] theorem ty_cells7 : Tryd.prog.cellsOf 7 = 4 := by kernel_rfl
@[simp] theorem ty_bytes7 : Tryd.prog.bytesOf 7 = 24 := by kernel_rfl
@[simp] theorem ty_zeroD7 : zeroD Tryd.prog 7 = some [.int .i64 0, .int .i64 0, .bool false, .int .u8 0] := by kernel_rfl
@[simp] theorem ty_zeroV7 : zeroValD Tryd.prog 7 = some (.agg [.int .i64 0, .int .i64 0, .bool false, .int .u8 0]) := by kernel_rfl
@[simp] theorem ty_isStruct7 : isStruct Tryd.prog 7 = true := by kernel_rfl
@[simp] theorem ty_field7_0 : fieldOf Tryd.prog 7 0 = some (0, 2) := by kernel_rfl
@[simp] theorem ty_field7_1 : fieldOf Tryd.prog 7 1 = some (1, 3) := by kernel_rfl
@[simp] theorem ty_field7_2 : fieldOf Tryd.prog 7 2 = some (2, 4) := by kernel_rfl
@[simp] theorem ty_field7_3 : fieldOf Tryd.prog 7 3 = some (3, 6) := by kernel_rfl
@[simp] theorem ty_cells8 : Tryd.prog.cellsOf 8 = 4 := by kernel_rfl
@[simp] theorem ty_bytes8 : Tryd.prog.bytesOf 8 = 24 := by kernel_rfl
@[simp] theorem ty_zeroD8 : zeroD Tryd.prog 8 = some [.int .i64 0, .int .i64 0, .bool false, .int .u8 0] := by kernel_rfl
@[simp] theorem ty_zeroV8 : zeroValD Tryd.prog 8 = some (.agg [.int .i64 0, .int .i64 0, .bool false, .int .u8 0]) := by kernel_rfl
@[simp] theorem ty_isStruct8 : isStruct Tryd.prog 8 = true := by kernel_rfl
@[simp] theorem ty_field8_0 : fieldOf Tryd.prog 8 0 = some (0, 2) := by kernel_rfl
@[simp] theorem ty_field8_1 : fieldOf Tryd.prog 8 1 = some (1, 3) := by kernel_rfl
@[simp] theorem ty_field8_2 : fieldOf Tryd.prog 8 2 = some (2, 4) := by kernel_rfl
@[simp] theorem ty_field8_3 : fieldOf Tryd.prog 8 3 = some (3, 6) := by kernel_rfl
@[simp] theorem ty_cells9 : Tryd.prog.cellsOf 9 = 1 := by kernel_rfl
@[simp] theorem ty_bytes9 : Tryd.prog.bytesOf 9 = 16 := by kernel_rfl
@[simp] theorem ty_zeroD9 : zeroD Tryd.prog 9 = some [.str []] := by kernel_rfl
@[simp] theorem ty_zeroV9 : zeroValD Tryd.prog 9 = some (.str []) := by kernel_rfl
@[simp] theorem ty_cells10 : Tryd.prog.cellsOf 10 = 1 := by kernel_rfl
@[simp] theorem ty_bytes10 : Tryd.prog.bytesOf 10 = 16 := by kernel_rfl
@[simp] theorem ty_zeroD10 : zeroD Tryd.prog 10 = some [.str []] := by kernel_rfl
@[simp] theorem ty_zeroV10 : zeroValD Tryd.prog 10 = some (.str []) := by kernel_rfl
@[simp] theorem ty_cells11 : Tryd.prog.cellsOf 11 = 1 := by kernel_rfl
@[simp] theorem ty_bytes11 : Tryd.prog.bytesOf 11 = 16 := by kernel_rfl
@[simp] theorem ty_zeroD11 : zeroD Tryd.prog 11 = some [.str []] := by kernel_rfl
@[simp] theorem ty_zeroV11 : zeroValD Tryd.prog 11 = some (.str []) := by kernel_rfl
@[simp] theorem ty_cells12 : Tryd.prog.cellsOf 12 = 1 := by kernel_rfl
@[simp] theorem ty_bytes12 : Tryd.prog.bytesOf 12 = 8 := by kernel_rfl
@[simp] theorem ty_zeroD12 : zeroD Tryd.prog 12 = some [.int .u64 0] := by kernel_rfl
@[simp] theorem ty_zeroV12 : zeroValD Tryd.prog 12 = some (.int .u64 0) := by kernel_rfl
@[simp] theorem ty_cells13 : Tryd.prog.cellsOf 13 = 2 := by kernel_rfl
@[simp] theorem ty_bytes13 : Tryd.prog.bytesOf 13 = 24 := by kernel_rfl
@[simp] theorem ty_zeroD13 : zeroD Tryd.prog 13 = some [.str [], .int .u64 0] := by kernel_rfl
@[simp] theorem ty_zeroV13 : zeroValD Tryd.prog 13 = some (.agg [.str [], .int .u64 0]) := by kernel_rfl
@[simp] theorem ty_isStruct13 : isStruct Tryd.prog 13 = true := by kernel_rfl
@[simp] theorem ty_field13_0 : fieldOf Tryd.prog 13 0 = some (0, 9) := by kernel_rfl
@[simp] theorem ty_field13_1 : fieldOf Tryd.prog 13 1 = some (1, 12) := by kernel_rfl
@[simp] theorem ty_cells14 : Tryd.prog.cellsOf 14 = 2 := by kernel_rfl
@[simp] theorem ty_bytes14 : Tryd.prog.bytesOf 14 = 24 := by kernel_rfl
@[simp] theorem ty_zeroD14 : zeroD Tryd.prog 14 = some [.str [], .int .u64 0] := by kernel_rfl
@[simp] theorem ty_zeroV14 : zeroValD Tryd.prog 14 = some (.agg [.str [], .int .u64 0]) := by kernel_rfl
@[simp] theorem ty_isStruct14 : isStruct Tryd.prog 14 = true := by kernel_rfl
@[simp] theorem ty_field14_0 : fieldOf Tryd.prog 14 0 = some (0, 9) := by kernel_rfl
@[simp] theorem ty_field14_1 : fieldOf Tryd.prog 14 1 = some (1, 12) := by kernel_rfl
@[simp] theorem ty_cells15 : Tryd.prog.cellsOf 15 = 1 := by kernel_rfl
@[simp] theorem ty_bytes15 : Tryd.prog.bytesOf 15 = 8 := by kernel_rfl
@[simp] theorem ty_zeroD15 : zeroD Tryd.prog 15 = none := by kernel_rfl
@[simp] theorem ty_zeroC15 : zeroC Tryd.prog 15 = some [.undef] := by kernel_rfl
@[simp] theorem ty_zeroO15 : zeroO Tryd.prog 15 = some [.undef] := by kernel_rfl
@[simp] theorem ty_cells16 : Tryd.prog.cellsOf 16 = 1 := by kernel_rfl
@[simp] theorem ty_bytes16 : Tryd.prog.bytesOf 16 = 8 := by kernel_rfl
@[simp] theorem ty_zeroD16 : zeroD Tryd.prog 16 = none := by kernel_rfl
@[simp] theorem ty_zeroC16 : zeroC Tryd.prog 16 = some [.undef] := by kernel_rfl
@[simp] theorem ty_zeroO16 : zeroO Tryd.prog 16 = some [.undef] := by kernel_rfl
@[simp] theorem ty_cells17 : Tryd.prog.cellsOf 17 = 1 := by kernel_rfl
@[simp] theorem ty_bytes17 : Tryd.prog.bytesOf 17 = 8 := by kernel_rfl
@[simp] theorem ty_zeroD17 : zeroD Tryd.prog 17 = none := by kernel_rfl
@[simp] theorem ty_zeroC17 : zeroC Tryd.prog 17 = some [.undef] := by kernel_rfl
@[simp] theorem ty_zeroO17 : zeroO Tryd.prog 17 = some [.undef] := by kernel_rfl
@[simp] theorem ty_cells18 : Tryd.prog.cellsOf 18 = 1 := by kernel_rfl
@[simp] theorem ty_bytes18 : Tryd.prog.bytesOf 18 = 8 := by kernel_rfl
@[simp] theorem ty_zeroD18 : zeroD Tryd.prog 18 = none := by kernel_rfl
@[simp] theorem ty_zeroC18 : zeroC Tryd.prog 18 = some [.undef] := by kernel_rfl
@[simp] theorem ty_zeroO18 : zeroO Tryd.prog 18 = some [.undef] := by kernel_rfl
@[simp] theorem ty_field18_0 : fieldOf Tryd.prog 18 0 = some (0, 17) := by kernel_rfl
@[simp] theorem ty_cells19 : Tryd.prog.cellsOf 19 = 1 := by kernel_rfl
@[simp] theorem ty_bytes19 : Tryd.prog.bytesOf 19 = 8 := by kernel_rfl
@[simp] theorem ty_zeroD19 : zeroD Tryd.prog 19 = none := by kernel_rfl
@[simp] theorem ty_zeroC19 : zeroC Tryd.prog 19 = some [.undef] := by kernel_rfl
@[simp] theorem ty_zeroO19 : zeroO Tryd.prog 19 = some [.undef] := by kernel_rfl
@[simp] theorem ty_field19_0 : fieldOf Tryd.prog 19 0 = some (0, 17) := by kernel_rfl
@[simp] theorem ty_zeroD20 : zeroD Tryd.prog 20 = none := by kernel_rfl
@[simp] theorem ty_zeroC20 : zeroC Tryd.prog 20 = some [.undef] := by kernel_rfl
@[simp] theorem ty_zeroO20 : zeroO Tryd.prog 20 = some [.undef] := by kernel_rfl
@[simp] theorem ty_cells21 : Tryd.prog.cellsOf 21 = 1 := by kernel_rfl
@[simp] theorem ty_bytes21 : Tryd.prog.bytesOf 21 = 4 := by kernel_rfl
@[simp] theorem ty_zeroD21 : zeroD Tryd.prog 21 = some [.int .i32 0] := by kernel_rfl
@[simp] theorem ty_zeroV21 : zeroValD Tryd.prog 21 = some (.int .i32 0) := by kernel_rfl
@[simp] theorem ty_cells22 : Tryd.prog.cellsOf 22 = 1 := by kernel_rfl
@[simp] theorem ty_bytes22 : Tryd.prog.bytesOf 22 = 24 := by kernel_rfl
@[simp] theorem ty_zeroD22 : zeroD Tryd.prog 22 = some [.nils] := by kernel_rfl
@[simp] theorem ty_zeroV22 : zeroValD Tryd.prog 22 = some (.nils) := by kernel_rfl
@[simp] theorem ty_elem22 : elemOfD Tryd.prog 22 = some 9 := by kernel_rfl
@[simp] theorem ty_cells23 : Tryd.prog.cellsOf 23 = 1 := by kernel_rfl
@[simp] theorem ty_bytes23 : Tryd.prog.bytesOf 23 = 24 := by kernel_rfl
@[simp] theorem ty_zeroD23 : zeroD Tryd.prog 23 = some [.nils] := by kernel_rfl
@[simp] theorem ty_zeroV23 : zeroValD Tryd.prog 23 = some (.nils) := by kernel_rfl
@[simp] theorem ty_elem23 : elemOfD Tryd.prog 23 = some 203 := by kernel_rfl
@[simp] theorem ty_cells24 : Tryd.prog.cellsOf 24 = 1 := by kernel_rfl
@[simp] theorem ty_bytes24 : Tryd.prog.bytesOf 24 = 24 := by kernel_rfl
@[simp] theorem ty_zeroD24 : zeroD Tryd.prog 24 = some [.nils] := by kernel_rfl
@[simp] theorem ty_zeroV24 : zeroValD Tryd.prog 24 = some (.nils) := by kernel_rfl
@[simp] theorem ty_elem24 : elemOfD Tryd.prog 24 = some 151 := by kernel_rfl
@[simp] theorem ty_cells25 : Tryd.prog.cellsOf 25 = 1 := by kernel_rfl
@[simp] theorem ty_bytes25 : Tryd.prog.bytesOf 25 = 24 := by kernel_rfl
@[simp] theorem ty_zeroD25 : zeroD Tryd.prog 25 = some [.nils] := by kernel_rfl
@[simp] theorem ty_zeroV25 : zeroValD Tryd.prog 25 = some (.nils) := by kernel_rfl
@[simp] theorem ty_elem25 : elemOfD Tryd.prog 25 = some 43 := by kernel_rfl
@[simp] theorem ty_cells26 : Tryd.prog.cellsOf 26 = 1 := by kernel_rfl
@[simp] theorem ty_bytes26 : Tryd.prog.bytesOf 26 = 8 := by kernel_rfl
@[simp] theorem ty_zeroD26 : zeroD Tryd.prog 26 = some [.int .i64 0] := by kernel_rfl
@[simp] theorem ty_zeroV26 : zeroValD Tryd.prog 26 = some (.int .i64 0) := by kernel_rfl
@[simp] theorem ty_cells27 : Tryd.prog.cellsOf 27 = 1 := by kernel_rfl
@[simp] theorem ty_bytes27 : Tryd.prog.bytesOf 27 = 24 := by kernel_rfl
@[simp] theorem ty_zeroD27 : zeroD Tryd.prog 27 = some [.nils] := by kernel_rfl
@[simp] theorem ty_zeroV27 : zeroValD Tryd.prog 27 = some (.nils) := by kernel_rfl
@[simp] theorem ty_elem27 : elemOfD Tryd.prog 27 = some 33 := by kernel_rfl
@[simp] theorem ty_cells28 : Tryd.prog.cellsOf 28 = 1 := by kernel_rfl
@[simp] theorem ty_bytes28 : Tryd.prog.bytesOf 28 = 8 := by kernel_rfl
@[simp] theorem ty_zeroD28 : zeroD Tryd.prog 28 = some [.int .i64 0] := by kernel_rfl
@[simp] theorem ty_zeroV28 : zeroValD Tryd.prog 28 = some (.int .i64 0) := by kernel_rfl
@[simp] theorem ty_cells29 : Tryd.prog.cellsOf 29 = 1 := by kernel_rfl
@[simp] theorem ty_bytes29 : Tryd.prog.bytesOf 29 = 24 := by kernel_rfl
@[simp] theorem ty_zeroD29 : zeroD Tryd.prog 29 = some [.nils] := by kernel_rfl
@[simp] theorem ty_zeroV29 : zeroValD Tryd.prog 29 = some (.nils) := by kernel_rfl
@[simp] theorem ty_elem29 : elemOfD Tryd.prog 29 = some 31 := by kernel_rfl
@[simp] theorem ty_cells30 : Tryd.prog.cellsOf 30 = 4 := by kernel_rfl
@[simp] theorem ty_bytes30 : Tryd.prog.bytesOf 30 = 56 := by kernel_rfl
@[simp] theorem ty_zeroD30 : zeroD Tryd.prog 30 = some [.int .i64 0, .str [], .int .i64 0, .nils] := by kernel_rfl
@[simp] theorem ty_zeroV30 : zeroValD Tryd.prog 30 = some (.agg [.int .i64 0, .str [], .int .i64 0, .nils]) := by kernel_rfl
@[simp] theorem ty_isStruct30 : isStruct Tryd.prog 30 = true := by kernel_rfl
@[simp] theorem ty_field30_0 : fieldOf Tryd.prog 30 0 = some (0, 28) := by kernel_rfl
@[simp] theorem ty_field30_1 : fieldOf Tryd.prog 30 1 = some (1, 9) := by kernel_rfl
@[simp] theorem ty_field30_2 : fieldOf Tryd.prog 30 2 = some (2, 3) := by kernel_rfl
@[simp] theorem ty_field30_3 : fieldOf Tryd.prog 30 3 = some (3, 29) := by kernel_rfl
@[simp] theorem ty_cells31 : Tryd.prog.cellsOf 31 = 4 := by kernel_rfl
@[simp] theorem ty_bytes31 : Tryd.prog.bytesOf 31 = 56 := by kernel_rfl
@[simp] theorem ty_zeroD31 : zeroD Tryd.prog 31 = some [.int .i64 0, .str [], .int .i64 0, .nils] := by kernel_rfl
@[simp] theorem ty_zeroV31 : zeroValD Tryd.prog 31 = some (.agg [.int .i64 0, .str [], .int .i64 0, .nils]) := by kernel_rfl
@[simp] theorem ty_isStruct31 : isStruct Tryd.prog 31 = true := by kernel_rfl
@[simp] theorem ty_field31_0 : fieldOf Tryd.prog 31 0 = some (0, 28) := by kernel_rfl
@[simp] theorem ty_field31_1 : fieldOf Tryd.prog 31 1 = some (1, 9) := by kernel_rfl
@[simp] theorem ty_field31_2 : fieldOf Tryd.prog 31 2 = some (2, 3) := by kernel_rfl
@[simp] theorem ty_field31_3 : fieldOf Tryd.prog 31 3 = some (3, 29) := by kernel_rfl
@[simp] theorem ty_cells32 : Tryd.prog.cellsOf 32 = 9 := by kernel_rfl
@[simp] theorem ty_bytes32 : Tryd.prog.bytesOf 32 = 152 := by kernel_rfl
@[simp] theorem ty_zeroD32 : zeroD Tryd.prog 32 = some [.int .i64 0, .str [], .nils, .nils, .int .i64 0, .str [], .int .i64 0, .nils, .nils] := by kernel_rfl
@[simp] theorem ty_zeroV32 : zeroValD Tryd.prog 32 = some (.agg [.int .i64 0, .str [], .nils, .nils, .int .i64 0, .str [], .int .i64 0, .nils, .nils]) := by kernel_rfl
@[simp] theorem ty_isStruct32 : isStruct Tryd.prog 32 = true := by kernel_rfl
@[simp] theorem ty_field32_0 : fieldOf Tryd.prog 32 0 = some (0, 26) := by kernel_rfl
@[simp] theorem ty_field32_1 : fieldOf Tryd.prog 32 1 = some (1, 9) := by kernel_rfl
@[simp] theorem ty_field32_2 : fieldOf Tryd.prog 32 2 = some (2, 27) := by kernel_rfl
@[simp] theorem ty_field32_3 : fieldOf Tryd.prog 32 3 = some (3, 22) := by kernel_rfl
@[simp] theorem ty_field32_4 : fieldOf Tryd.prog 32 4 = some (4, 31) := by kernel_rfl
@[simp] theorem ty_field32_5 : fieldOf Tryd.prog 32 5 = some (8, 29) := by kernel_rfl
@[simp] theorem ty_cells33 : Tryd.prog.cellsOf 33 = 9 := by kernel_rfl
@[simp] theorem ty_bytes33 : Tryd.prog.bytesOf 33 = 152 := by kernel_rfl
@[simp] theorem ty_zeroD33 : zeroD Tryd.prog 33 = some [.int .i64 0, .str [], .nils, .nils, .int .i64 0, .str [], .int .i64 0, .nils, .nils] := by kernel_rfl
@[simp] theorem ty_zeroV33 : zeroValD Tryd.prog 33 = some (.agg [.int .i64 0, .str [], .nils, .nils, .int .i64 0, .str [], .int .i64 0, .nils, .nils]) := by kernel_rfl
@[simp] theorem ty_isStruct33 : isStruct Tryd.prog 33 = true := by kernel_rfl
@[simp] theorem ty_field33_0 : fieldOf Tryd.prog 33 0 = some (0, 26) := by kernel_rfl
@[simp] theorem ty_field33_1 : fieldOf Tryd.prog 33 1 = some (1, 9) := by kernel_rfl
@[simp] theorem ty_field33_2 : fieldOf Tryd.prog 33 2 = some (2, 27) := by kernel_rfl
@[simp] theorem ty_field33_3 : fieldOf Tryd.prog 33 3 = some (3, 22) := by kernel_rfl
@[simp] theorem ty_field33_4 : fieldOf Tryd.prog 33 4 = some (4, 31) := by kernel_rfl
@[simp] theorem ty_field33_5 : fieldOf Tryd.prog 33 5 = some (8, 29) := by kernel_rfl
@[simp] theorem ty_cells34 : Tryd.prog.cellsOf 34 = 14 := by kernel_rfl
@[simp] theorem ty_bytes34 : Tryd.prog.bytesOf 34 = 272 := by kernel_rfl
@[simp] theorem ty_zeroD34 : zeroD Tryd.prog 34 = some [.nils, .nils, .nils, .nils, .int .i64 0, .str [], .nils, .nils, .int .i64 0, .str [], .int .i64 0, .nils, .nils, .nils] := by kernel_rfl
@[simp] theorem ty_zeroV34 : zeroValD Tryd.prog 34 = some (.agg [.nils, .nils, .nils, .nils, .int .i64 0, .str [], .nils, .nils, .int .i64 0, .str [], .int .i64 0, .nils, .nils, .nils]) := by kernel_rfl
@[simp] theorem ty_isStruct34 : isStruct Tryd.prog 34 = true := by kernel_rfl
@[simp] theorem ty_field34_0 : fieldOf Tryd.prog 34 0 = some (0, 22) := by kernel_rfl
@[simp] theorem ty_field34_1 : fieldOf Tryd.prog 34 1 = some (1, 23) := by kernel_rfl
@[simp] theorem ty_field34_2 : fieldOf Tryd.prog 34 2 = some (2, 24) := by kernel_rfl
@[simp] theorem ty_field34_3 : fieldOf Tryd.prog 34 3 = some (3, 25) := by kernel_rfl
@[simp] theorem ty_field34_4 : fieldOf Tryd.prog 34 4 = some (4, 33) := by kernel_rfl
@[simp] theorem ty_field34_5 : fieldOf Tryd.prog 34 5 = some (13, 29) := by kernel_rfl
@[simp] theorem ty_cells35 : Tryd.prog.cellsOf 35 = 14 := by kernel_rfl
@[simp] theorem ty_bytes35 : Tryd.prog.bytesOf 35 = 272 := by kernel_rfl
@[simp] theorem ty_zeroD35 : zeroD Tryd.prog 35 = some [.nils, .nils, .nils, .nils, .int .i64 0, .str [], .nils, .nils, .int .i64 0, .str [], .int .i64 0, .nils, .nils, .nils] := by kernel_rfl
@[simp] theorem ty_zeroV35 : zeroValD Tryd.prog 35 = some (.agg [.nils, .nils, .nils, .nils, .int .i64 0, .str [], .nils, .nils, .int .i64 0, .str [], .int .i64 0, .nils, .nils, .nils]) := by kernel_rfl
@[simp] theorem ty_isStruct35 : isStruct Tryd.prog 35 = true := by kernel_rfl
@[simp] theorem ty_field35_0 : fieldOf Tryd.prog 35 0 = some (0, 22) := by kernel_rfl
@[simp] theorem ty_field35_1 : fieldOf Tryd.prog 35 1 = some (1, 23) := by kernel_rfl
@[simp] theorem ty_field35_2 : fieldOf Tryd.prog 35 2 = some (2, 24) := by kernel_rfl
@[simp] theorem ty_field35_3 : fieldOf Tryd.prog 35 3 = some (3, 25) := by kernel_rfl
@[simp] theorem ty_field35_4 : fieldOf Tryd.prog 35 4 = some (4, 33) := by kernel_rfl
@[simp] theorem ty_field35_5 : fieldOf Tryd.prog 35 5 = some (13, 29) := by kernel_rfl
@[simp] theorem ty_cells36 : Tryd.prog.cellsOf 36 = 1 := by kernel_rfl
@[simp] theorem ty_bytes36 : Tryd.prog.bytesOf 36 = 24 := by kernel_rfl
@[simp] theorem ty_zeroD36 : zeroD Tryd.prog 36 = some [.nils] := by kernel_rfl
@[simp] theorem ty_zeroV36 : zeroValD Tryd.prog 36 = some (.nils) := by kernel_rfl
@[simp] theorem ty_elem36 : elemOfD Tryd.prog 36 = some 40 := by kernel_rfl
@[simp] theorem ty_cells37 : Tryd.prog.cellsOf 37 = 1 := by kernel_rfl
@[simp] theorem ty_bytes37 : Tryd.prog.bytesOf 37 = 8 := by kernel_rfl
@[simp] theorem ty_zeroD37 : zeroD Tryd.prog 37 = none := by kernel_rfl
@[simp] theorem ty_zeroC37 : zeroC Tryd.prog 37 = some [.undef] := by kernel_rfl
@[simp] theorem ty_zeroO37 : zeroO Tryd.prog 37 = some [.undef] := by kernel_rfl
@[simp] theorem ty_cells38 : Tryd.prog.cellsOf 38 = 1 := by kernel_rfl
@[simp] theorem ty_bytes38 : Tryd.prog.bytesOf 38 = 24 := by kernel_rfl
@[simp] theorem ty_zeroD38 : zeroD Tryd.prog 38 = some [.nils] := by kernel_rfl
@[simp] theorem ty_zeroV38 : zeroValD Tryd.prog 38 = some (.nils) := by kernel_rfl
@[simp] theorem ty_elem38 : elemOfD Tryd.prog 38 = some 79 := by kernel_rfl
@[simp] theorem ty_cells39 : Tryd.prog.cellsOf 39 = 2 := by kernel_rfl
@[simp] theorem ty_bytes39 : Tryd.prog.bytesOf 39 = 40 := by kernel_rfl
@[simp] theorem ty_zeroD39 : zeroD Tryd.prog 39 = some [.str [], .nils] := by kernel_rfl
@[simp] theorem ty_zeroV39 : zeroValD Tryd.prog 39 = some (.agg [.str [], .nils]) := by kernel_rfl
@[simp] theorem ty_isStruct39 : isStruct Tryd.prog 39 = true := by kernel_rfl
@[simp] theorem ty_field39_0 : fieldOf Tryd.prog 39 0 = some (0, 9) := by kernel_rfl
@[simp] theorem ty_field39_1 : fieldOf Tryd.prog 39 1 = some (1, 38) := by kernel_rfl
@[simp] theorem ty_cells40 : Tryd.prog.cellsOf 40 = 2 := by kernel_rfl
@[simp] theorem ty_bytes40 : Tryd.prog.bytesOf 40 = 40 := by kernel_rfl
@[simp] theorem ty_zeroD40 : zeroD Tryd.prog 40 = some [.str [], .nils] := by kernel_rfl
@[simp] theorem ty_zeroV40 : zeroValD Tryd.prog 40 = some (.agg [.str [], .nils]) := by kernel_rfl
@[simp] theorem ty_isStruct40 : isStruct Tryd.prog 40 = true := by kernel_rfl
@[simp] theorem ty_field40_0 : fieldOf Tryd.prog 40 0 = some (0, 9) := by kernel_rfl
@[simp] theorem ty_field40_1 : fieldOf Tryd.prog 40 1 = some (1, 38) := by kernel_rfl
@[simp] theorem ty_cells41 : Tryd.prog.cellsOf 41 = 1 := by kernel_rfl
@[simp] theorem ty_bytes41 : Tryd.prog.bytesOf 41 = 8 := by kernel_rfl
@[simp] theorem ty_zeroD41 : zeroD Tryd.prog 41 = none := by kernel_rfl
@[simp] theorem ty_zeroC41 : zeroC Tryd.prog 41 = some [.undef] := by kernel_rfl
@[simp] theorem ty_zeroO41 : zeroO Tryd.prog 41 = some [.undef] := by kernel_rfl
@[simp] theorem ty_cells42 : Tryd.prog.cellsOf 42 = 10 := by kernel_rfl
@[simp] theorem ty_bytes42 : Tryd.prog.bytesOf 42 = 152 := by kernel_rfl
@[simp] theorem ty_zeroD42 : zeroD Tryd.prog 42 = some [.str [], .nils, .int .i64 0, .str [], .int .i64 0, .nils, .int .i64 0, .str [], .int .i64 0, .nils] := by kernel_rfl
@[simp] theorem ty_zeroV42 : zeroValD Tryd.prog 42 = some (.agg [.str [], .nils, .int .i64 0, .str [], .int .i64 0, .nils, .int .i64 0, .str [], .int .i64 0, .nils]) := by kernel_rfl
@[simp] theorem ty_isStruct42 : isStruct Tryd.prog 42 = true := by kernel_rfl
@[simp] theorem ty_field42_0 : fieldOf Tryd.prog 42 0 = some (0, 9) := by kernel_rfl
@[simp] theorem ty_field42_1 : fieldOf Tryd.prog 42 1 = some (1, 38) := by kernel_rfl
@[simp] theorem ty_field42_2 : fieldOf Tryd.prog 42 2 = some (2, 31) := by kernel_rfl
@[simp] theorem ty_field42_3 : fieldOf Tryd.prog 42 3 = some (6, 31) := by kernel_rfl
@[simp] theorem ty_cells43 : Tryd.prog.cellsOf 43 = 10 := by kernel_rfl
@[simp] theorem ty_bytes43 : Tryd.prog.bytesOf 43 = 152 := by kernel_rfl
@[simp] theorem ty_zeroD43 : zeroD Tryd.prog 43 = some [.str [], .nils, .int .i64 0, .str [], .int .i64 0, .nils, .int .i64 0, .str [], .int .i64 0, .nils] := by kernel_rfl
@[simp] theorem ty_zeroV43 : zeroValD Tryd.prog 43 = some (.agg [.str [], .nils, .int .i64 0, .str [], .int .i64 0, .nils, .int .i64 0, .str [], .int .i64 0, .nils]) := by kernel_rfl
@[simp] theorem ty_isStruct43 : isStruct Tryd.prog 43 = true := by kernel_rfl
@[simp] theorem ty_field43_0 : fieldOf Tryd.prog 43 0 = some (0, 9) := by kernel_rfl
@[simp] theorem ty_field43_1 : fieldOf Tryd.prog 43 1 = some (1, 38) := by kernel_rfl
@[simp] theorem ty_field43_2 : fieldOf Tryd.prog 43 2 = some (2, 31) := by kernel_rfl
@[simp] theorem ty_field43_3 : fieldOf Tryd.prog 43 3 = some (6, 31) := by kernel_rfl
@[simp] theorem ty_cells44 : Tryd.prog.cellsOf 44 = 1 := by kernel_rfl
@[simp] theorem ty_bytes44 : Tryd.prog.bytesOf 44 = 8 := by kernel_rfl
@[simp] theorem ty_zeroD44 : zeroD Tryd.prog 44 = some [.int .i64 0] := by kernel_rfl
@[simp] theorem ty_zeroV44 : zeroValD Tryd.prog 44 = some (.int .i64 0) := by kernel_rfl
@[simp] theorem ty_cells45 : Tryd.prog.cellsOf 45 = 1 := by kernel_rfl
@[simp] theorem ty_bytes45 : Tryd.prog.bytesOf 45 = 16 := by kernel_rfl
@[simp] theorem ty_zeroD45 : zeroD Tryd.prog 45 = some [.str []] := by kernel_rfl
@[simp] theorem ty_zeroV45 : zeroValD Tryd.prog 45 = some (.str []) := by kernel_rfl
@[simp] theorem ty_cells46 : Tryd.prog.cellsOf 46 = 1 := by kernel_rfl
@[simp] theorem ty_bytes46 : Tryd.prog.bytesOf 46 = 24 := by kernel_rfl
@[simp] theorem ty_zeroD46 : zeroD Tryd.prog 46 = some [.nils] := by kernel_rfl
@[simp] theorem ty_zeroV46 : zeroValD Tryd.prog 46 = some (.nils) := by kernel_rfl
@[simp] theorem ty_elem46 : elemOfD Tryd.prog 46 = some 48 := by kernel_rfl
@[simp] theorem ty_cells47 : Tryd.prog.cellsOf 47 = 9 := by kernel_rfl
@[simp] theorem ty_bytes47 : Tryd.prog.bytesOf 47 = 128 := by kernel_rfl
@[simp] theorem ty_zeroD47 : zeroD Tryd.prog 47 = some [.int .i64 0, .str [], .str [], .int .i64 0, .str [], .int .i64 0, .nils, .int .i64 0, .nils] := by kernel_rfl
@[simp] theorem ty_zeroV47 : zeroValD Tryd.prog 47 = some (.agg [.int .i64 0, .str [], .str [], .int .i64 0, .str [], .int .i64 0, .nils, .int .i64 0, .nils]) := by kernel_rfl
@[simp] theorem ty_isStruct47 : isStruct Tryd.prog 47 = true := by kernel_rfl
@[simp] theorem ty_field47_0 : fieldOf Tryd.prog 47 0 = some (0, 44) := by kernel_rfl
@[simp] theorem ty_field47_1 : fieldOf Tryd.prog 47 1 = some (1, 9) := by kernel_rfl
@[simp] theorem ty_field47_2 : fieldOf Tryd.prog 47 2 = some (2, 45) := by kernel_rfl
@[simp] theorem ty_field47_3 : fieldOf Tryd.prog 47 3 = some (3, 31) := by kernel_rfl
@[simp] theorem ty_field47_4 : fieldOf Tryd.prog 47 4 = some (7, 3) := by kernel_rfl
@[simp] theorem ty_field47_5 : fieldOf Tryd.prog 47 5 = some (8, 46) := by kernel_rfl
@[simp] theorem ty_cells48 : Tryd.prog.cellsOf 48 = 9 := by kernel_rfl
@[simp] theorem ty_bytes48 : Tryd.prog.bytesOf 48 = 128 := by kernel_rfl
@[simp] theorem ty_zeroD48 : zeroD Tryd.prog 48 = some [.int .i64 0, .str [], .str [], .int .i64 0, .str [], .int .i64 0, .nils, .int .i64 0, .nils] := by kernel_rfl
@[simp] theorem ty_zeroV48 : zeroValD Tryd.prog 48 = some (.agg [.int .i64 0, .str [], .str [], .int .i64 0, .str [], .int .i64 0, .nils, .int .i64 0, .nils]) := by kernel_rfl
@[simp] theorem ty_isStruct48 : isStruct Tryd.prog 48 = true := by kernel_rfl
@[simp] theorem ty_field48_0 : fieldOf Tryd.prog 48 0 = some (0, 44) := by kernel_rfl
@[simp] theorem ty_field48_1 : fieldOf Tryd.prog 48 1 = some (1, 9) := by kernel_rfl
@[simp] theorem ty_field48_2 : fieldOf Tryd.prog 48 2 = some (2, 45) := by kernel_rfl
@[simp] theorem ty_field48_3 : fieldOf Tryd.prog 48 3 = some (3, 31) := by kernel_rfl
@[simp] theorem ty_field48_4 : fieldOf Tryd.prog 48 4 = some (7, 3) := by kernel_rfl
@[simp] theorem ty_field48_5 : fieldOf Tryd.prog 48 5 = some (8, 46) := by kernel_rfl
@[simp] theorem ty_cells49 : Tryd.prog.cellsOf 49 = 1 := by kernel_rfl
@[simp] theorem ty_bytes49 : Tryd.prog.bytesOf 49 = 8 := by kernel_rfl
@[simp] theorem ty_zeroD49 : zeroD Tryd.prog 49 = none := by kernel_rfl
@[simp] theorem ty_zeroC49 : zeroC Tryd.prog 49 = some [.undef] := by kernel_rfl
@[simp] theorem ty_zeroO49 : zeroO Tryd.prog 49 = some [.undef] := by kernel_rfl
@[simp] theorem ty_cells50 : Tryd.prog.cellsOf 50 = 1 := by kernel_rfl
@[simp] theorem ty_bytes50 : Tryd.prog.bytesOf 50 = 8 := by kernel_rfl
@[simp] theorem ty_zeroD50 : zeroD Tryd.prog 50 = none := by kernel_rfl
@[simp] theorem ty_zeroC50 : zeroC Tryd.prog 50 = some [.undef] := by kernel_rfl
@[simp] theorem ty_zeroO50 : zeroO Tryd.prog 50 = some [.undef] := by kernel_rfl
@[simp] theorem ty_cells52 : Tryd.prog.cellsOf 52 = 1 := by kernel_rfl
@[simp] theorem ty_bytes52 : Tryd.prog.bytesOf 52 = 8 := by kernel_rfl
@[simp] theorem ty_zeroD52 : zeroD Tryd.prog 52 = none := by kernel_rfl
@[simp] theorem ty_zeroC52 : zeroC Tryd.prog 52 = some [.undef] := by kernel_rfl
@[simp] theorem ty_zeroO52 : zeroO Tryd.prog 52 = some [.undef] := by kernel_rfl
@[simp] theorem ty_cells53 : Tryd.prog.cellsOf 53 = 1 := by kernel_rfl
@[simp] theorem ty_bytes53 : Tryd.prog.bytesOf 53 = 8 := by kernel_rfl
@[simp] theorem ty_zeroD53 : zeroD Tryd.prog 53 = none := by kernel_rfl
@[simp] theorem ty_zeroC53 : zeroC Tryd.prog 53 = some [.undef] := by kernel_rfl
@[simp] theorem ty_zeroO53 : zeroO Tryd.prog 53 = some [.undef] := by kernel_rfl
@[simp] theorem ty_cells54 : Tryd.prog.cellsOf 54 = 1 := by kernel_rfl
@[simp] theorem ty_bytes54 : Tryd.prog.bytesOf 54 = 8 := by kernel_rfl
@[simp] theorem ty_zeroD54 : zeroD Tryd.prog 54 = none := by kernel_rfl
@[simp] theorem ty_zeroC54 : zeroC Tryd.prog 54 = some [.undef] := by kernel_rfl
@[simp] theorem ty_zeroO54 : zeroO Tryd.prog 54 = some [.undef] := by kernel_rfl
@[simp] theorem ty_cells55 : Tryd.prog.cellsOf 55 = 1 := by kernel_rfl
@[simp] theorem ty_bytes55 : Tryd.prog.bytesOf 55 = 8 := by kernel_rfl
@[simp] theorem ty_zeroD55 : zeroD Tryd.prog 55 = none := by kernel_rfl
@[simp] theorem ty_zeroC55 : zeroC Tryd.prog 55 = some [.undef] := by kernel_rfl
@[simp] theorem ty_zeroO55 : zeroO Tryd.prog 55 = some [.undef] := by kernel_rfl
@[simp] theorem ty_cells56 : Tryd.prog.cellsOf 56 = 1 := by kernel_rfl
@[simp] theorem ty_bytes56 : Tryd.prog.bytesOf 56 = 8 := by kernel_rfl
@[simp] theorem ty_zeroD56 : zeroD Tryd.prog 56 = none := by kernel_rfl
@[simp] theorem ty_zeroC56 : zeroC Tryd.prog 56 = some [.undef] := by kernel_rfl
@[simp] theorem ty_zeroO56 : zeroO Tryd.prog 56 = some [.undef] := by kernel_rfl
@[simp] theorem ty_cells57 : Tryd.prog.cellsOf 57 = 1 := by kernel_rfl
@[simp] theorem ty_bytes57 : Tryd.prog.bytesOf 57 = 24 := by kernel_rfl
@[simp] theorem ty_zeroD57 : zeroD Tryd.prog 57 = some [.nils] := by kernel_rfl
@[simp] theorem ty_zeroV57 : zeroValD Tryd.prog 57 = some (.nils) := by kernel_rfl
@[simp] theorem ty_elem57 : elemOfD Tryd.prog 57 = some 73 := by kernel_rfl
@[simp] theorem ty_cells58 : Tryd.prog.cellsOf 58 = 1 := by kernel_rfl
@[simp] theorem ty_bytes58 : Tryd.prog.bytesOf 58 = 8 := by kernel_rfl
@[simp] theorem ty_zeroD58 : zeroD Tryd.prog 58 = none := by kernel_rfl
@[simp] theorem ty_zeroC58 : zeroC Tryd.prog 58 = some [.undef] := by kernel_rfl
@[simp] theorem ty_zeroO58 : zeroO Tryd.prog 58 = some [.undef] := by kernel_rfl
@[simp] theorem ty_cells59 : Tryd.prog.cellsOf 59 = 1 := by kernel_rfl
@[simp] theorem ty_bytes59 : Tryd.prog.bytesOf 59 = 8 := by kernel_rfl
@[simp] theorem ty_zeroD59 : zeroD Tryd.prog 59 = none := by kernel_rfl
@[simp] theorem ty_zeroC59 : zeroC Tryd.prog 59 = some [.undef] := by kernel_rfl
@[simp] theorem ty_zeroO59 : zeroO Tryd.prog 59 = some [.undef] := by kernel_rfl
@[simp] theorem ty_cells60 : Tryd.prog.cellsOf 60 = 1 := by kernel_rfl
@[simp] theorem ty_bytes60 : Tryd.prog.bytesOf 60 = 8 := by kernel_rfl
@[simp] theorem ty_zeroD60 : zeroD Tryd.prog 60 = none := by kernel_rfl
@[simp] theorem ty_zeroC60 : zeroC Tryd.prog 60 = some [.undef] := by kernel_rfl
@[simp] theorem ty_zeroO60 : zeroO Tryd.prog 60 = some [.undef] := by kernel_rfl
@[simp] theorem ty_cells61 : Tryd.prog.cellsOf 61 = 1 := by kernel_rfl
@[simp] theorem ty_bytes61 : Tryd.prog.bytesOf 61 = 8 := by kernel_rfl
@[simp] theorem ty_zeroD61 : zeroD Tryd.prog 61 = none := by kernel_rfl
@[simp] theorem ty_zeroC61 : zeroC Tryd.prog 61 = some [.undef] := by kernel_rfl
@[simp] theorem ty_zeroO61 : zeroO Tryd.prog 61 = some [.undef] := by kernel_rfl
@[simp] theorem ty_cells62 : Tryd.prog.cellsOf 62 = 1 := by kernel_rfl
@[simp] theorem ty_bytes62 : Tryd.prog.bytesOf 62 = 8 := by kernel_rfl
@[simp] theorem ty_zeroD62 : zeroD Tryd.prog 62 = none := by kernel_rfl
@[simp] theorem ty_zeroC62 : zeroC Tryd.prog 62 = some [.undef] := by kernel_rfl
@[simp] theorem ty_zeroO62 : zeroO Tryd.prog 62 = some [.undef] := by kernel_rfl
@[simp] theorem ty_cells63 : Tryd.prog.cellsOf 63 = 1 := by kernel_rfl
@[simp] theorem ty_bytes63 : Tryd.prog.bytesOf 63 = 8 := by kernel_rfl
@[simp] theorem ty_zeroD63 : zeroD Tryd.prog 63 = none := by kernel_rfl
@[simp] theorem ty_zeroC63 : zeroC Tryd.prog 63 = some [.undef] := by kernel_rfl
@[simp] theorem ty_zeroO63 : zeroO Tryd.prog 63 = some [.undef] := by kernel_rfl
@[simp] theorem ty_cells64 : Tryd.prog.cellsOf 64 = 1 := by kernel_rfl
@[simp] theorem ty_bytes64 : Tryd.prog.bytesOf 64 = 8 := by kernel_rfl
@[simp] theorem ty_zeroD64 : zeroD Tryd.prog 64 = none := by kernel_rfl
@[simp] theorem ty_zeroC64 : zeroC Tryd.prog 64 = some [.undef] := by kernel_rfl
@[simp] theorem ty_zeroO64 : zeroO Tryd.prog 64 = some [.undef] := by kernel_rfl
@[simp] theorem ty_cells65 : Tryd.prog.cellsOf 65 = 1 := by kernel_rfl
@[simp] theorem ty_bytes65 : Tryd.prog.bytesOf 65 = 24 := by kernel_rfl
@[simp] theorem ty_zeroD65 : zeroD Tryd.prog 65 = some [.nils] := by kernel_rfl
@[simp] theorem ty_zeroV65 : zeroValD Tryd.prog 65 = some (.nils) := by kernel_rfl
@[simp] theorem ty_elem65 : elemOfD Tryd.prog 65 = some 67 := by kernel_rfl
@[simp] theorem ty_cells66 : Tryd.prog.cellsOf 66 = 5 := by kernel_rfl
@[simp] theorem ty_bytes66 : Tryd.prog.bytesOf 66 = 72 := by kernel_rfl
@[simp] theorem ty_zeroD66 : zeroD Tryd.prog 66 = some [.str [], .int .i64 0, .str [], .int .i64 0, .nils] := by kernel_rfl
@[simp] theorem ty_zeroV66 : zeroValD Tryd.prog 66 = some (.agg [.str [], .int .i64 0, .str [], .int .i64 0, .nils]) := by kernel_rfl
@[simp] theorem ty_isStruct66 : isStruct Tryd.prog 66 = true := by kernel_rfl
@[simp] theorem ty_field66_0 : fieldOf Tryd.prog 66 0 = some (0, 9) := by kernel_rfl
@[simp] theorem ty_field66_1 : fieldOf Tryd.prog 66 1 = some (1, 31) := by kernel_rfl
@[simp] theorem ty_cells67 : Tryd.prog.cellsOf 67 = 5 := by kernel_rfl
@[simp] theorem ty_bytes67 : Tryd.prog.bytesOf 67 = 72 := by kernel_rfl
@[simp] theorem ty_zeroD67 : zeroD Tryd.prog 67 = some [.str [], .int .i64 0, .str [], .int .i64 0, .nils] := by kernel_rfl
@[simp] theorem ty_zeroV67 : zeroValD Tryd.prog 67 = some (.agg [.str [], .int .i64 0, .str [], .int .i64 0, .nils]) := by kernel_rfl
@[simp] theorem ty_isStruct67 : isStruct Tryd.prog 67 = true := by kernel_rfl
@[simp] theorem ty_field67_0 : fieldOf Tryd.prog 67 0 = some (0, 9) := by kernel_rfl
@[simp] theorem ty_field67_1 : fieldOf Tryd.prog 67 1 = some (1, 31) := by kernel_rfl
@[simp] theorem ty_cells68 : Tryd.prog.cellsOf 68 = 1 := by kernel_rfl
@[simp] theorem ty_bytes68 : Tryd.prog.bytesOf 68 = 8 := by kernel_rfl
@[simp] theorem ty_zeroD68 : zeroD Tryd.prog 68 = none := by kernel_rfl
@[simp] theorem ty_zeroC68 : zeroC Tryd.prog 68 = some [.undef] := by kernel_rfl
@[simp] theorem ty_zeroO68 : zeroO Tryd.prog 68 = some [.undef] := by kernel_rfl
@[simp] theorem ty_cells69 : Tryd.prog.cellsOf 69 = 1 := by kernel_rfl
@[simp] theorem ty_bytes69 : Tryd.prog.bytesOf 69 = 8 := by kernel_rfl
@[simp] theorem ty_zeroD69 : zeroD Tryd.prog 69 = none := by kernel_rfl
@[simp] theorem ty_zeroC69 : zeroC Tryd.prog 69 = some [.undef] := by kernel_rfl
@[simp] theorem ty_zeroO69 : zeroO Tryd.prog 69 = some [.undef] := by kernel_rfl
@[simp] theorem ty_cells70 : Tryd.prog.cellsOf 70 = 1 := by kernel_rfl
@[simp] theorem ty_bytes70 : Tryd.prog.bytesOf 70 = 8 := by kernel_rfl
@[simp] theorem ty_zeroD70 : zeroD Tryd.prog 70 = none := by kernel_rfl
@[simp] theorem ty_zeroC70 : zeroC Tryd.prog 70 = some [.undef] := by kernel_rfl
@[simp] theorem ty_zeroO70 : zeroO Tryd.prog 70 = some [.undef] := by kernel_rfl
@[simp] theorem ty_cells71 : Tryd.prog.cellsOf 71 = 1 := by kernel_rfl
@[simp] theorem ty_bytes71 : Tryd.prog.bytesOf 71 = 8 := by kernel_rfl
@[simp] theorem ty_zeroD71 : zeroD Tryd.prog 71 = none := by kernel_rfl
@[simp] theorem ty_zeroC71 : zeroC Tryd.prog 71 = some [.undef] := by kernel_rfl
@[simp] theorem ty_zeroO71 : zeroO Tryd.prog 71 = some [.undef] := by kernel_rfl
@[simp] theorem ty_cells72 : Tryd.prog.cellsOf 72 = 7 := by kernel_rfl
@[simp] theorem ty_bytes72 : Tryd.prog.bytesOf 72 = 112 := by kernel_rfl
@[simp] theorem ty_zeroD72 : zeroD Tryd.prog 72 = some [.nils, .nils, .int .i64 0, .str [], .int .i64 0, .nils, .int .i64 0] := by kernel_rfl
@[simp] theorem ty_zeroV72 : zeroValD Tryd.prog 72 = some (.agg [.nils, .nils, .int .i64 0, .str [], .int .i64 0, .nils, .int .i64 0]) := by kernel_rfl
@[simp] theorem ty_isStruct72 : isStruct Tryd.prog 72 = true := by kernel_rfl
@[simp] theorem ty_field72_0 : fieldOf Tryd.prog 72 0 = some (0, 38) := by kernel_rfl
@[simp] theorem ty_field72_1 : fieldOf Tryd.prog 72 1 = some (1, 29) := by kernel_rfl
@[simp] theorem ty_field72_2 : fieldOf Tryd.prog 72 2 = some (2, 31) := by kernel_rfl
@[simp] theorem ty_field72_3 : fieldOf Tryd.prog 72 3 = some (6, 3) := by kernel_rfl
@[simp] theorem ty_cells73 : Tryd.prog.cellsOf 73 = 7 := by kernel_rfl
@[simp] theorem ty_bytes73 : Tryd.prog.bytesOf 73 = 112 := by kernel_rfl
@[simp] theorem ty_zeroD73 : zeroD Tryd.prog 73 = some [.nils, .nils, .int .i64 0, .str [], .int .i64 0, .nils, .int .i64 0] := by kernel_rfl
@[simp] theorem ty_zeroV73 : zeroValD Tryd.prog 73 = some (.agg [.nils, .nils, .int .i64 0, .str [], .int .i64 0, .nils, .int .i64 0]) := by kernel_rfl
@[simp] theorem ty_isStruct73 : isStruct Tryd.prog 73 = true := by kernel_rfl
@[simp] theorem ty_field73_0 : fieldOf Tryd.prog 73 0 = some (0, 38) := by kernel_rfl
@[simp] theorem ty_field73_1 : fieldOf Tryd.prog 73 1 = some (1, 29) := by kernel_rfl
@[simp] theorem ty_field73_2 : fieldOf Tryd.prog 73 2 = some (2, 31) := by kernel_rfl
@[simp] theorem ty_field73_3 : fieldOf Tryd.prog 73 3 = some (6, 3) := by kernel_rfl
@[simp] theorem ty_cells74 : Tryd.prog.cellsOf 74 = 1 := by kernel_rfl
@[simp] theorem ty_bytes74 : Tryd.prog.bytesOf 74 = 8 := by kernel_rfl
@[simp] theorem ty_zeroD74 : zeroD Tryd.prog 74 = none := by kernel_rfl
@[simp] theorem ty_zeroC74 : zeroC Tryd.prog 74 = some [.undef] := by kernel_rfl
@[simp] theorem ty_zeroO74 : zeroO Tryd.prog 74 = some [.undef] := by kernel_rfl
@[simp] theorem ty_cells75 : Tryd.prog.cellsOf 75 = 1 := by kernel_rfl
@[simp] theorem ty_bytes75 : Tryd.prog.bytesOf 75 = 8 := by kernel_rfl
@[simp] theorem ty_zeroD75 : zeroD Tryd.prog 75 = none := by kernel_rfl
@[simp] theorem ty_zeroC75 : zeroC Tryd.prog 75 = some [.undef] := by kernel_rfl
@[simp] theorem ty_zeroO75 : zeroO Tryd.prog 75 = some [.undef] := by kernel_rfl
@[simp] theorem ty_cells76 : Tryd.prog.cellsOf 76 = 1 := by kernel_rfl
@[simp] theorem ty_bytes76 : Tryd.prog.bytesOf 76 = 8 := by kernel_rfl
@[simp] theorem ty_zeroD76 : zeroD Tryd.prog 76 = none := by kernel_rfl
@[simp] theorem ty_zeroC76 : zeroC Tryd.prog 76 = some [.undef] := by kernel_rfl
@[simp] theorem ty_zeroO76 : zeroO Tryd.prog 76 = some [.undef] := by kernel_rfl
@[simp] theorem ty_cells77 : Tryd.prog.cellsOf 77 = 1 := by kernel_rfl
@[simp] theorem ty_bytes77 : Tryd.prog.bytesOf 77 = 8 := by kernel_rfl
@[simp] theorem ty_zeroD77 : zeroD Tryd.prog 77 = none := by kernel_rfl
@[simp] theorem ty_zeroC77 : zeroC Tryd.prog 77 = some [.undef] := by kernel_rfl
@[simp] theorem ty_zeroO77 : zeroO Tryd.prog 77 = some [.undef] := by kernel_rfl
@[simp] theorem ty_cells78 : Tryd.prog.cellsOf 78 = 2 := by kernel_rfl
@[simp] theorem ty_bytes78 : Tryd.prog.bytesOf 78 = 32 := by kernel_rfl
@[simp] theorem ty_zeroD78 : zeroD Tryd.prog 78 = some [.str [], .str []] := by kernel_rfl
@[simp] theorem ty_zeroV78 : zeroValD Tryd.prog 78 = some (.agg [.str [], .str []]) := by kernel_rfl
@[simp] theorem ty_isStruct78 : isStruct Tryd.prog 78 = true := by kernel_rfl
@[simp] theorem ty_field78_0 : fieldOf Tryd.prog 78 0 = some (0, 9) := by kernel_rfl
@[simp] theorem ty_field78_1 : fieldOf Tryd.prog 78 1 = some (1, 45) := by kernel_rfl
@[simp] theorem ty_cells79 : Tryd.prog.cellsOf 79 = 2 := by kernel_rfl
@[simp] theorem ty_bytes79 : Tryd.prog.bytesOf 79 = 32 := by kernel_rfl
@[simp] theorem ty_zeroD79 : zeroD Tryd.prog 79 = some [.str [], .str []] := by kernel_rfl
@[simp] theorem ty_zeroV79 : zeroValD Tryd.prog 79 = some (.agg [.str [], .str []]) := by kernel_rfl
@[simp] theorem ty_isStruct79 : isStruct Tryd.prog 79 = true := by kernel_rfl
@[simp] theorem ty_field79_0 : fieldOf Tryd.prog 79 0 = some (0, 9) := by kernel_rfl
@[simp] theorem ty_field79_1 : fieldOf Tryd.prog 79 1 = some (1, 45) := by kernel_rfl
@[simp] theorem ty_flat79 : flatDescs Tryd.prog 79 = some [.string, .string] := by kernel_rfl
@[simp] theorem ty_cells80 : Tryd.prog.cellsOf 80 = 1 := by kernel_rfl
@[simp] theorem ty_bytes80 : Tryd.prog.bytesOf 80 = 8 := by kernel_rfl
@[simp] theorem ty_zeroD80 : zeroD Tryd.prog 80 = none := by kernel_rfl
@[simp] theorem ty_zeroC80 : zeroC Tryd.prog 80 = some [.undef] := by kernel_rfl
@[simp] theorem ty_zeroO80 : zeroO Tryd.prog 80 = some [.undef] := by kernel_rfl
@[simp] theorem ty_cells81 : Tryd.prog.cellsOf 81 = 1 := by kernel_rfl
@[simp] theorem ty_bytes81 : Tryd.prog.bytesOf 81 = 8 := by kernel_rfl
@[simp] theorem ty_zeroD81 : zeroD Tryd.prog 81 = none := by kernel_rfl
@[simp] theorem ty_zeroC81 : zeroC Tryd.prog 81 = some [.undef] := by kernel_rfl
@[simp] theorem ty_zeroO81 : zeroO Tryd.prog 81 = some [.undef] := by kernel_rfl
@[simp] theorem ty_cells82 : Tryd.prog.cellsOf 82 = 1 := by kernel_rfl
@[simp] theorem ty_bytes82 : Tryd.prog.bytesOf 82 = 8 := by kernel_rfl
@[simp] theorem ty_zeroD82 : zeroD Tryd.prog 82 = some [.int .i64 0] := by kernel_rfl
@[simp] theorem ty_zeroV82 : zeroValD Tryd.prog 82 = some (.int .i64 0) := by kernel_rfl
@[simp] theorem ty_cells84 : Tryd.prog.cellsOf 84 = 1 := by kernel_rfl
@[simp] theorem ty_bytes84 : Tryd.prog.bytesOf 84 = 8 := by kernel_rfl
@[simp] theorem ty_zeroD84 : zeroD Tryd.prog 84 = none := by kernel_rfl
@[simp] theorem ty_zeroC84 : zeroC Tryd.prog 84 = some [.undef] := by kernel_rfl
@[simp] theorem ty_zeroO84 : zeroO Tryd.prog 84 = some [.undef] := by kernel_rfl
@[simp] theorem ty_cells85 : Tryd.prog.cellsOf 85 = 1 := by kernel_rfl
@[simp] theorem ty_bytes85 : Tryd.prog.bytesOf 85 = 24 := by kernel_rfl
@[simp] theorem ty_zeroD85 : zeroD Tryd.prog 85 = some [.nils] := by kernel_rfl
@[simp] theorem ty_zeroV85 : zeroValD Tryd.prog 85 = some (.nils) := by kernel_rfl
@[simp] theorem ty_elem85 : elemOfD Tryd.prog 85 = some 45 := by kernel_rfl
@[simp] theorem ty_cells86 : Tryd.prog.cellsOf 86 = 3 := by kernel_rfl
@[simp] theorem ty_bytes86 : Tryd.prog.bytesOf 86 = 56 := by kernel_rfl
@[simp] theorem ty_zeroD86 : zeroD Tryd.prog 86 = some [.str [], .nils, .str []] := by kernel_rfl
@[simp] theorem ty_zeroV86 : zeroValD Tryd.prog 86 = some (.agg [.str [], .nils, .str []]) := by kernel_rfl
@[simp] theorem ty_isStruct86 : isStruct Tryd.prog 86 = true := by kernel_rfl
@[simp] theorem ty_field86_0 : fieldOf Tryd.prog 86 0 = some (0, 9) := by kernel_rfl
@[simp] theorem ty_field86_1 : fieldOf Tryd.prog 86 1 = some (1, 85) := by kernel_rfl
@[simp] theorem ty_field86_2 : fieldOf Tryd.prog 86 2 = some (2, 45) := by kernel_rfl
@[simp] theorem ty_cells87 : Tryd.prog.cellsOf 87 = 3 := by kernel_rfl
@[simp] theorem ty_bytes87 : Tryd.prog.bytesOf 87 = 56 := by kernel_rfl
@[simp] theorem ty_zeroD87 : zeroD Tryd.prog 87 = some [.str [], .nils, .str []] := by kernel_rfl
@[simp] theorem ty_zeroV87 : zeroValD Tryd.prog 87 = some (.agg [.str [], .nils, .str []]) := by kernel_rfl
@[simp] theorem ty_isStruct87 : isStruct Tryd.prog 87 = true := by kernel_rfl
@[simp] theorem ty_field87_0 : fieldOf Tryd.prog 87 0 = some (0, 9) := by kernel_rfl
@[simp] theorem ty_field87_1 : fieldOf Tryd.prog 87 1 = some (1, 85) := by kernel_rfl
@[simp] theorem ty_field87_2 : fieldOf Tryd.prog 87 2 = some (2, 45) := by kernel_rfl
@[simp] theorem ty_cells88 : Tryd.prog.cellsOf 88 = 1 := by kernel_rfl
@[simp] theorem ty_bytes88 : Tryd.prog.bytesOf 88 = 24 := by kernel_rfl
@[simp] theorem ty_zeroD88 : zeroD Tryd.prog 88 = some [.nils] := by kernel_rfl
@[simp] theorem ty_zeroV88 : zeroValD Tryd.prog 88 = some (.nils) := by kernel_rfl
@[simp] theorem ty_elem88 : elemOfD Tryd.prog 88 = some 87 := by kernel_rfl
@[simp] theorem ty_cells89 : Tryd.prog.cellsOf 89 = 3 := by kernel_rfl
@[simp] theorem ty_bytes89 : Tryd.prog.bytesOf 89 = 72 := by kernel_rfl
@[simp] theorem ty_zeroD89 : zeroD Tryd.prog 89 = some [.nils, .nils, .nils] := by kernel_rfl
@[simp] theorem ty_zeroV89 : zeroValD Tryd.prog 89 = some (.agg [.nils, .nils, .nils]) := by kernel_rfl
@[simp] theorem ty_isStruct89 : isStruct Tryd.prog 89 = true := by kernel_rfl
@[simp] theorem ty_field89_0 : fieldOf Tryd.prog 89 0 = some (0, 38) := by kernel_rfl
@[simp] theorem ty_field89_1 : fieldOf Tryd.prog 89 1 = some (1, 88) := by kernel_rfl
@[simp] theorem ty_field89_2 : fieldOf Tryd.prog 89 2 = some (2, 36) := by kernel_rfl
@[simp] theorem ty_cells90 : Tryd.prog.cellsOf 90 = 3 := by kernel_rfl
@[simp] theorem ty_bytes90 : Tryd.prog.bytesOf 90 = 72 := by kernel_rfl
@[simp] theorem ty_zeroD90 : zeroD Tryd.prog 90 = some [.nils, .nils, .nils] := by kernel_rfl
@[simp] theorem ty_zeroV90 : zeroValD Tryd.prog 90 = some (.agg [.nils, .nils, .nils]) := by kernel_rfl
@[simp] theorem ty_isStruct90 : isStruct Tryd.prog 90 = true := by kernel_rfl
@[simp] theorem ty_field90_0 : fieldOf Tryd.prog 90 0 = some (0, 38) := by kernel_rfl
@[simp] theorem ty_field90_1 : fieldOf Tryd.prog 90 1 = some (1, 88) := by kernel_rfl
@[simp] theorem ty_field90_2 : fieldOf Tryd.prog 90 2 = some (2, 36) := by kernel_rfl
@[simp] theorem ty_cells91 : Tryd.prog.cellsOf 91 = 1 := by kernel_rfl
@[simp] theorem ty_bytes91 : Tryd.prog.bytesOf 91 = 8 := by kernel_rfl
@[simp] theorem ty_zeroD91 : zeroD Tryd.prog 91 = none := by kernel_rfl
@[simp] theorem ty_zeroC91 : zeroC Tryd.prog 91 = some [.undef] := by kernel_rfl
@[simp] theorem ty_zeroO91 : zeroO Tryd.prog 91 = some [.undef] := by kernel_rfl
@[simp] theorem ty_cells92 : Tryd.prog.cellsOf 92 = 1 := by kernel_rfl
@[simp] theorem ty_bytes92 : Tryd.prog.bytesOf 92 = 8 := by kernel_rfl
@[simp] theorem ty_zeroD92 : zeroD Tryd.prog 92 = none := by kernel_rfl
@[simp] theorem ty_zeroC92 : zeroC Tryd.prog 92 = some [.undef] := by kernel_rfl
@[simp] theorem ty_zeroO92 : zeroO Tryd.prog 92 = some [.undef] := by kernel_rfl
@[simp] theorem ty_cells93 : Tryd.prog.cellsOf 93 = 1 := by kernel_rfl
@[simp] theorem ty_bytes93 : Tryd.prog.bytesOf 93 = 8 := by kernel_rfl
@[simp] theorem ty_zeroD93 : zeroD Tryd.prog 93 = none := by kernel_rfl
@[simp] theorem ty_zeroC93 : zeroC Tryd.prog 93 = some [.undef] := by kernel_rfl
@[simp] theorem ty_zeroO93 : zeroO Tryd.prog 93 = some [.undef] := by kernel_rfl
@[simp] theorem ty_cells94 : Tryd.prog.cellsOf 94 = 1 := by kernel_rfl
@[simp] theorem ty_bytes94 : Tryd.prog.bytesOf 94 = 8 := by kernel_rfl
@[simp] theorem ty_zeroD94 : zeroD Tryd.prog 94 = some [.int .i64 0] := by kernel_rfl
@[simp] theorem ty_zeroV94 : zeroValD Tryd.prog 94 = some (.int .i64 0) := by kernel_rfl
@[simp] theorem ty_cells95 : Tryd.prog.cellsOf 95 = 1 := by kernel_rfl
@[simp] theorem ty_bytes95 : Tryd.prog.bytesOf 95 = 24 := by kernel_rfl
@[simp] theorem ty_zeroD95 : zeroD Tryd.prog 95 = some [.nils] := by kernel_rfl
@[simp] theorem ty_zeroV95 : zeroValD Tryd.prog 95 = some (.nils) := by kernel_rfl
@[simp] theorem ty_elem95 : elemOfD Tryd.prog 95 = some 99 := by kernel_rfl
@[simp] theorem ty_cells96 : Tryd.prog.cellsOf 96 = 1 := by kernel_rfl
@[simp] theorem ty_bytes96 : Tryd.prog.bytesOf 96 = 24 := by kernel_rfl
@[simp] theorem ty_zeroD96 : zeroD Tryd.prog 96 = some [.nils] := by kernel_rfl
@[simp] theorem ty_zeroV96 : zeroValD Tryd.prog 96 = some (.nils) := by kernel_rfl
@[simp] theorem ty_elem96 : elemOfD Tryd.prog 96 = some 123 := by kernel_rfl
@[simp] theorem ty_cells97 : Tryd.prog.cellsOf 97 = 1 := by kernel_rfl
@[simp] theorem ty_bytes97 : Tryd.prog.bytesOf 97 = 24 := by kernel_rfl
@[simp] theorem ty_zeroD97 : zeroD Tryd.prog 97 = some [.nils] := by kernel_rfl
@[simp] theorem ty_zeroV97 : zeroValD Tryd.prog 97 = some (.nils) := by kernel_rfl
@[simp] theorem ty_elem97 : elemOfD Tryd.prog 97 = some 125 := by kernel_rfl
@[simp] theorem ty_cells98 : Tryd.prog.cellsOf 98 = 7 := by kernel_rfl
@[simp] theorem ty_bytes98 : Tryd.prog.bytesOf 98 = 128 := by kernel_rfl
@[simp] theorem ty_zeroD98 : zeroD Tryd.prog 98 = some [.int .i64 0, .str [], .int .i64 0, .nils, .nils, .nils, .nils] := by kernel_rfl
@[simp] theorem ty_zeroV98 : zeroValD Tryd.prog 98 = some (.agg [.int .i64 0, .str [], .int .i64 0, .nils, .nils, .nils, .nils]) := by kernel_rfl
@[simp] theorem ty_isStruct98 : isStruct Tryd.prog 98 = true := by kernel_rfl
@[simp] theorem ty_field98_0 : fieldOf Tryd.prog 98 0 = some (0, 94) := by kernel_rfl
@[simp] theorem ty_field98_1 : fieldOf Tryd.prog 98 1 = some (1, 9) := by kernel_rfl
@[simp] theorem ty_field98_2 : fieldOf Tryd.prog 98 2 = some (2, 3) := by kernel_rfl
@[simp] theorem ty_field98_3 : fieldOf Tryd.prog 98 3 = some (3, 95) := by kernel_rfl
@[simp] theorem ty_field98_4 : fieldOf Tryd.prog 98 4 = some (4, 96) := by kernel_rfl
@[simp] theorem ty_field98_5 : fieldOf Tryd.prog 98 5 = some (5, 97) := by kernel_rfl
@[simp] theorem ty_field98_6 : fieldOf Tryd.prog 98 6 = some (6, 27) := by kernel_rfl
@[simp] theorem ty_cells99 : Tryd.prog.cellsOf 99 = 7 := by kernel_rfl
@[simp] theorem ty_bytes99 : Tryd.prog.bytesOf 99 = 128 := by kernel_rfl
@[simp] theorem ty_zeroD99 : zeroD Tryd.prog 99 = some [.int .i64 0, .str [], .int .i64 0, .nils, .nils, .nils, .nils] := by kernel_rfl
@[simp] theorem ty_zeroV99 : zeroValD Tryd.prog 99 = some (.agg [.int .i64 0, .str [], .int .i64 0, .nils, .nils, .nils, .nils]) := by kernel_rfl
@[simp] theorem ty_isStruct99 : isStruct Tryd.prog 99 = true := by kernel_rfl
@[simp] theorem ty_field99_0 : fieldOf Tryd.prog 99 0 = some (0, 94) := by kernel_rfl
@[simp] theorem ty_field99_1 : fieldOf Tryd.prog 99 1 = some (1, 9) := by kernel_rfl
@[simp] theorem ty_field99_2 : fieldOf Tryd.prog 99 2 = some (2, 3) := by kernel_rfl
@[simp] theorem ty_field99_3 : fieldOf Tryd.prog 99 3 = some (3, 95) := by kernel_rfl
@[simp] theorem ty_field99_4 : fieldOf Tryd.prog 99 4 = some (4, 96) := by kernel_rfl
@[simp] theorem ty_field99_5 : fieldOf Tryd.prog 99 5 = some (5, 97) := by kernel_rfl
@[simp] theorem ty_field99_6 : fieldOf Tryd.prog 99 6 = some (6, 27) := by kernel_rfl
@[simp] theorem ty_cells100 : Tryd.prog.cellsOf 100 = 1 := by kernel_rfl
@[simp] theorem ty_bytes100 : Tryd.prog.bytesOf 100 = 8 := by kernel_rfl
@[simp] theorem ty_zeroD100 : zeroD Tryd.prog 100 = none := by kernel_rfl
@[simp] theorem ty_zeroC100 : zeroC Tryd.prog 100 = some [.undef] := by kernel_rfl
@[simp] theorem ty_zeroO100 : zeroO Tryd.prog 100 = some [.undef] := by kernel_rfl
@[simp] theorem ty_cells101 : Tryd.prog.cellsOf 101 = 1 := by kernel_rfl
@[simp] theorem ty_bytes101 : Tryd.prog.bytesOf 101 = 8 := by kernel_rfl
@[simp] theorem ty_zeroD101 : zeroD Tryd.prog 101 = none := by kernel_rfl
@[simp] theorem ty_zeroC101 : zeroC Tryd.prog 101 = some [.undef] := by kernel_rfl
@[simp] theorem ty_zeroO101 : zeroO Tryd.prog 101 = some [.undef] := by kernel_rfl
@[simp] theorem ty_cells102 : Tryd.prog.cellsOf 102 = 1 := by kernel_rfl
@[simp] theorem ty_bytes102 : Tryd.prog.bytesOf 102 = 8 := by kernel_rfl
@[simp] theorem ty_zeroD102 : zeroD Tryd.prog 102 = none := by kernel_rfl
@[simp] theorem ty_zeroC102 : zeroC Tryd.prog 102 = some [.undef] := by kernel_rfl
@[simp] theorem ty_zeroO102 : zeroO Tryd.prog 102 = some [.undef] := by kernel_rfl
@[simp] theorem ty_cells103 : Tryd.prog.cellsOf 103 = 1 := by kernel_rfl
@[simp] theorem ty_bytes103 : Tryd.prog.bytesOf 103 = 8 := by kernel_rfl
@[simp] theorem ty_zeroD103 : zeroD Tryd.prog 103 = none := by kernel_rfl
@[simp] theorem ty_zeroC103 : zeroC Tryd.prog 103 = some [.undef] := by kernel_rfl
@[simp] theorem ty_zeroO103 : zeroO Tryd.prog 103 = some [.undef] := by kernel_rfl
@[simp] theorem ty_cells104 : Tryd.prog.cellsOf 104 = 1 := by kernel_rfl
@[simp] theorem ty_bytes104 : Tryd.prog.bytesOf 104 = 8 := by kernel_rfl
@[simp] theorem ty_zeroD104 : zeroD Tryd.prog 104 = none := by kernel_rfl
@[simp] theorem ty_zeroC104 : zeroC Tryd.prog 104 = some [.undef] := by kernel_rfl
@[simp] theorem ty_zeroO104 : zeroO Tryd.prog 104 = some [.undef] := by kernel_rfl
@[simp] theorem ty_cells105 : Tryd.prog.cellsOf 105 = 1 := by kernel_rfl
@[simp] theorem ty_bytes105 : Tryd.prog.bytesOf 105 = 8 := by kernel_rfl
@[simp] theorem ty_zeroD105 : zeroD Tryd.prog 105 = none := by kernel_rfl
@[simp] theorem ty_zeroC105 : zeroC Tryd.prog 105 = some [.undef] := by kernel_rfl
@[simp] theorem ty_zeroO105 : zeroO Tryd.prog 105 = some [.undef] := by kernel_rfl
@[simp] theorem ty_cells106 : Tryd.prog.cellsOf 106 = 1 := by kernel_rfl
@[simp] theorem ty_bytes106 : Tryd.prog.bytesOf 106 = 8 := by kernel_rfl
@[simp] theorem ty_zeroD106 : zeroD Tryd.prog 106 = none := by kernel_rfl
@[simp] theorem ty_zeroC106 : zeroC Tryd.prog 106 = some [.undef] := by kernel_rfl
@[simp] theorem ty_zeroO106 : zeroO Tryd.prog 106 = some [.undef] := by kernel_rfl
@[simp] theorem ty_cells107 : Tryd.prog.cellsOf 107 = 1 := by kernel_rfl
@[simp] theorem ty_bytes107 : Tryd.prog.bytesOf 107 = 8 := by kernel_rfl
@[simp] theorem ty_zeroD107 : zeroD Tryd.prog 107 = none := by kernel_rfl
@[simp] theorem ty_zeroC107 : zeroC Tryd.prog 107 = some [.undef] := by kernel_rfl
@[simp] theorem ty_zeroO107 : zeroO Tryd.prog 107 = some [.undef] := by kernel_rfl
@[simp] theorem ty_cells108 : Tryd.prog.cellsOf 108 = 1 := by kernel_rfl
@[simp] theorem ty_bytes108 : Tryd.prog.bytesOf 108 = 8 := by kernel_rfl
@[simp] theorem ty_zeroD108 : zeroD Tryd.prog 108 = none := by kernel_rfl
@[simp] theorem ty_zeroC108 : zeroC Tryd.prog 108 = some [.undef] := by kernel_rfl
@[simp] theorem ty_zeroO108 : zeroO Tryd.prog 108 = some [.undef] := by kernel_rfl
@[simp] theorem ty_cells109 : Tryd.prog.cellsOf 109 = 1 := by kernel_rfl
@[simp] theorem ty_bytes109 : Tryd.prog.bytesOf 109 = 8 := by kernel_rfl
@[simp] theorem ty_zeroD109 : zeroD Tryd.prog 109 = none := by kernel_rfl
@[simp] theorem ty_zeroC109 : zeroC Tryd.prog 109 = some [.undef] := by kernel_rfl
@[simp] theorem ty_zeroO109 : zeroO Tryd.prog 109 = some [.undef] := by kernel_rfl
@[simp] theorem ty_cells110 : Tryd.prog.cellsOf 110 = 1 := by kernel_rfl
@[simp] theorem ty_bytes110 : Tryd.prog.bytesOf 110 = 8 := by kernel_rfl
@[simp] theorem ty_zeroD110 : zeroD Tryd.prog 110 = none := by kernel_rfl
@[simp] theorem ty_zeroC110 : zeroC Tryd.prog 110 = some [.undef] := by kernel_rfl
@[simp] theorem ty_zeroO110 : zeroO Tryd.prog 110 = some [.undef] := by kernel_rfl
@[simp] theorem ty_cells111 : Tryd.prog.cellsOf 111 = 1 := by kernel_rfl
@[simp] theorem ty_bytes111 : Tryd.prog.bytesOf 111 = 8 := by kernel_rfl
@[simp] theorem ty_zeroD111 : zeroD Tryd.prog 111 = none := by kernel_rfl
@[simp] theorem ty_zeroC111 : zeroC Tryd.prog 111 = some [.undef] := by kernel_rfl
@[simp] theorem ty_zeroO111 : zeroO Tryd.prog 111 = some [.undef] := by kernel_rfl
@[simp] theorem ty_cells112 : Tryd.prog.cellsOf 112 = 1 := by kernel_rfl
@[simp] theorem ty_bytes112 : Tryd.prog.bytesOf 112 = 8 := by kernel_rfl
@[simp] theorem ty_zeroD112 : zeroD Tryd.prog 112 = none := by kernel_rfl
@[simp] theorem ty_zeroC112 : zeroC Tryd.prog 112 = some [.undef] := by kernel_rfl
@[simp] theorem ty_zeroO112 : zeroO Tryd.prog 112 = some [.undef] := by kernel_rfl
@[simp] theorem ty_cells113 : Tryd.prog.cellsOf 113 = 1 := by kernel_rfl
@[simp] theorem ty_bytes113 : Tryd.prog.bytesOf 113 = 8 := by kernel_rfl
@[simp] theorem ty_zeroD113 : zeroD Tryd.prog 113 = none := by kernel_rfl
@[simp] theorem ty_zeroC113 : zeroC Tryd.prog 113 = some [.undef] := by kernel_rfl
@[simp] theorem ty_zeroO113 : zeroO Tryd.prog 113 = some [.undef] := by kernel_rfl
@[simp] theorem ty_cells114 : Tryd.prog.cellsOf 114 = 1 := by kernel_rfl
@[simp] theorem ty_bytes114 : Tryd.prog.bytesOf 114 = 8 := by kernel_rfl
@[simp] theorem ty_zeroD114 : zeroD Tryd.prog 114 = none := by kernel_rfl
@[simp] theorem ty_zeroC114 : zeroC Tryd.prog 114 = some [.undef] := by kernel_rfl
@[simp] theorem ty_zeroO114 : zeroO Tryd.prog 114 = some [.undef] := by kernel_rfl
@[simp] theorem ty_cells115 : Tryd.prog.cellsOf 115 = 1 := by kernel_rfl
@[simp] theorem ty_bytes115 : Tryd.prog.bytesOf 115 = 8 := by kernel_rfl
@[simp] theorem ty_zeroD115 : zeroD Tryd.prog 115 = none := by kernel_rfl
@[simp] theorem ty_zeroC115 : zeroC Tryd.prog 115 = some [.undef] := by kernel_rfl
@[simp] theorem ty_zeroO115 : zeroO Tryd.prog 115 = some [.undef] := by kernel_rfl
@[simp] theorem ty_cells116 : Tryd.prog.cellsOf 116 = 1 := by kernel_rfl
@[simp] theorem ty_bytes116 : Tryd.prog.bytesOf 116 = 8 := by kernel_rfl
@[simp] theorem ty_zeroD116 : zeroD Tryd.prog 116 = none := by kernel_rfl
@[simp] theorem ty_zeroC116 : zeroC Tryd.prog 116 = some [.undef] := by kernel_rfl
@[simp] theorem ty_zeroO116 : zeroO Tryd.prog 116 = some [.undef] := by kernel_rfl
@[simp] theorem ty_cells117 : Tryd.prog.cellsOf 117 = 1 := by kernel_rfl
@[simp] theorem ty_bytes117 : Tryd.prog.bytesOf 117 = 8 := by kernel_rfl
@[simp] theorem ty_zeroD117 : zeroD Tryd.prog 117 = none := by kernel_rfl
@[simp] theorem ty_zeroC117 : zeroC Tryd.prog 117 = some [.undef] := by kernel_rfl
@[simp] theorem ty_zeroO117 : zeroO Tryd.prog 117 = some [.undef] := by kernel_rfl
@[simp] theorem ty_cells118 : Tryd.prog.cellsOf 118 = 1 := by kernel_rfl
@[simp] theorem ty_bytes118 : Tryd.prog.bytesOf 118 = 8 := by kernel_rfl
@[simp] theorem ty_zeroD118 : zeroD Tryd.prog 118 = none := by kernel_rfl
@[simp] theorem ty_zeroC118 : zeroC Tryd.prog 118 = some [.undef] := by kernel_rfl
@[simp] theorem ty_zeroO118 : zeroO Tryd.prog 118 = some [.undef] := by kernel_rfl
@[simp] theorem ty_cells119 : Tryd.prog.cellsOf 119 = 1 := by kernel_rfl
@[simp] theorem ty_bytes119 : Tryd.prog.bytesOf 119 = 8 := by kernel_rfl
@[simp] theorem ty_zeroD119 : zeroD Tryd.prog 119 = none := by kernel_rfl
@[simp] theorem ty_zeroC119 : zeroC Tryd.prog 119 = some [.undef] := by kernel_rfl
@[simp] theorem ty_zeroO119 : zeroO Tryd.prog 119 = some [.undef] := by kernel_rfl
@[simp] theorem ty_cells120 : Tryd.prog.cellsOf 120 = 1 := by kernel_rfl
@[simp] theorem ty_bytes120 : Tryd.prog.bytesOf 120 = 8 := by kernel_rfl
@[simp] theorem ty_zeroD120 : zeroD Tryd.prog 120 = none := by kernel_rfl
@[simp] theorem ty_zeroC120 : zeroC Tryd.prog 120 = some [.undef] := by kernel_rfl
@[simp] theorem ty_zeroO120 : zeroO Tryd.prog 120 = some [.undef] := by kernel_rfl
@[simp] theorem ty_cells121 : Tryd.prog.cellsOf 121 = 1 := by kernel_rfl
@[simp] theorem ty_bytes121 : Tryd.prog.bytesOf 121 = 8 := by kernel_rfl
@[simp] theorem ty_zeroD121 : zeroD Tryd.prog 121 = none := by kernel_rfl
@[simp] theorem ty_zeroC121 : zeroC Tryd.prog 121 = some [.undef] := by kernel_rfl
@[simp] theorem ty_zeroO121 : zeroO Tryd.prog 121 = some [.undef] := by kernel_rfl
@[simp] theorem ty_cells122 : Tryd.prog.cellsOf 122 = 10 := by kernel_rfl
@[simp] theorem ty_bytes122 : Tryd.prog.bytesOf 122 = 168 := by kernel_rfl
@[simp] theorem ty_zeroD122 : zeroD Tryd.prog 122 = some [.str [], .int .i64 0, .str [], .nils, .nils, .int .i64 0, .str [], .int .i64 0, .nils, .nils] := by kernel_rfl
@[simp] theorem ty_zeroV122 : zeroValD Tryd.prog 122 = some (.agg [.str [], .int .i64 0, .str [], .nils, .nils, .int .i64 0, .str [], .int .i64 0, .nils, .nils]) := by kernel_rfl
@[simp] theorem ty_isStruct122 : isStruct Tryd.prog 122 = true := by kernel_rfl
@[simp] theorem ty_field122_0 : fieldOf Tryd.prog 122 0 = some (0, 9) := by kernel_rfl
@[simp] theorem ty_field122_1 : fieldOf Tryd.prog 122 1 = some (1, 33) := by kernel_rfl
@[simp] theorem ty_cells123 : Tryd.prog.cellsOf 123 = 10 := by kernel_rfl
@[simp] theorem ty_bytes123 : Tryd.prog.bytesOf 123 = 168 := by kernel_rfl
@[simp] theorem ty_zeroD123 : zeroD Tryd.prog 123 = some [.str [], .int .i64 0, .str [], .nils, .nils, .int .i64 0, .str [], .int .i64 0, .nils, .nils] := by kernel_rfl
@[simp] theorem ty_zeroV123 : zeroValD Tryd.prog 123 = some (.agg [.str [], .int .i64 0, .str [], .nils, .nils, .int .i64 0, .str [], .int .i64 0, .nils, .nils]) := by kernel_rfl
@[simp] theorem ty_isStruct123 : isStruct Tryd.prog 123 = true := by kernel_rfl
@[simp] theorem ty_field123_0 : fieldOf Tryd.prog 123 0 = some (0, 9) := by kernel_rfl
@[simp] theorem ty_field123_1 : fieldOf Tryd.prog 123 1 = some (1, 33) := by kernel_rfl
@[simp] theorem ty_cells124 : Tryd.prog.cellsOf 124 = 9 := by kernel_rfl
@[simp] theorem ty_bytes124 : Tryd.prog.bytesOf 124 = 168 := by kernel_rfl
@[simp] theorem ty_zeroD124 : zeroD Tryd.prog 124 = some [.str [], .nils, .int .i64 0, .str [], .int .i64 0, .nils, .nils, .nils, .nils] := by kernel_rfl
@[simp] theorem ty_zeroV124 : zeroValD Tryd.prog 124 = some (.agg [.str [], .nils, .int .i64 0, .str [], .int .i64 0, .nils, .nils, .nils, .nils]) := by kernel_rfl
@[simp] theorem ty_isStruct124 : isStruct Tryd.prog 124 = true := by kernel_rfl
@[simp] theorem ty_field124_0 : fieldOf Tryd.prog 124 0 = some (0, 9) := by kernel_rfl
@[simp] theorem ty_field124_1 : fieldOf Tryd.prog 124 1 = some (1, 22) := by kernel_rfl
@[simp] theorem ty_field124_2 : fieldOf Tryd.prog 124 2 = some (2, 99) := by kernel_rfl
@[simp] theorem ty_cells125 : Tryd.prog.cellsOf 125 = 9 := by kernel_rfl
@[simp] theorem ty_bytes125 : Tryd.prog.bytesOf 125 = 168 := by kernel_rfl
@[simp] theorem ty_zeroD125 : zeroD Tryd.prog 125 = some [.str [], .nils, .int .i64 0, .str [], .int .i64 0, .nils, .nils, .nils, .nils] := by kernel_rfl
@[simp] theorem ty_zeroV125 : zeroValD Tryd.prog 125 = some (.agg [.str [], .nils, .int .i64 0, .str [], .int .i64 0, .nils, .nils, .nils, .nils]) := by kernel_rfl
@[simp] theorem ty_isStruct125 : isStruct Tryd.prog 125 = true := by kernel_rfl
@[simp] theorem ty_field125_0 : fieldOf Tryd.prog 125 0 = some (0, 9) := by kernel_rfl
@[simp] theorem ty_field125_1 : fieldOf Tryd.prog 125 1 = some (1, 22) := by kernel_rfl
@[simp] theorem ty_field125_2 : fieldOf Tryd.prog 125 2 = some (2, 99) := by kernel_rfl
@[simp] theorem ty_cells126 : Tryd.prog.cellsOf 126 = 1 := by kernel_rfl
@[simp] theorem ty_bytes126 : Tryd.prog.bytesOf 126 = 8 := by kernel_rfl
@[simp] theorem ty_zeroD126 : zeroD Tryd.prog 126 = none := by kernel_rfl
@[simp] theorem ty_zeroC126 : zeroC Tryd.prog 126 = some [.undef] := by kernel_rfl
@[simp] theorem ty_zeroO126 : zeroO Tryd.prog 126 = some [.undef] := by kernel_rfl
@[simp] theorem ty_cells127 : Tryd.prog.cellsOf 127 = 1 := by kernel_rfl
@[simp] theorem ty_bytes127 : Tryd.prog.bytesOf 127 = 8 := by kernel_rfl
@[simp] theorem ty_zeroD127 : zeroD Tryd.prog 127 = none := by kernel_rfl
@[simp] theorem ty_zeroC127 : zeroC Tryd.prog 127 = some [.undef] := by kernel_rfl
@[simp] theorem ty_zeroO127 : zeroO Tryd.prog 127 = some [.undef] := by kernel_rfl
@[simp] theorem ty_cells129 : Tryd.prog.cellsOf 129 = 1 := by kernel_rfl
@[simp] theorem ty_bytes129 : Tryd.prog.bytesOf 129 = 8 := by kernel_rfl
@[simp] theorem ty_zeroD129 : zeroD Tryd.prog 129 = none := by kernel_rfl
@[simp] theorem ty_zeroC129 : zeroC Tryd.prog 129 = some [.undef] := by kernel_rfl
@[simp] theorem ty_zeroO129 : zeroO Tryd.prog 129 = some [.undef] := by kernel_rfl
@[simp] theorem ty_cells130 : Tryd.prog.cellsOf 130 = 1 := by kernel_rfl
@[simp] theorem ty_bytes130 : Tryd.prog.bytesOf 130 = 8 := by kernel_rfl
@[simp] theorem ty_zeroD130 : zeroD Tryd.prog 130 = none := by kernel_rfl
@[simp] theorem ty_zeroC130 : zeroC Tryd.prog 130 = some [.undef] := by kernel_rfl
@[simp] theorem ty_zeroO130 : zeroO Tryd.prog 130 = some [.undef] := by kernel_rfl
@[simp] theorem ty_cells131 : Tryd.prog.cellsOf 131 = 1 := by kernel_rfl
@[simp] theorem ty_bytes131 : Tryd.prog.bytesOf 131 = 8 := by kernel_rfl
@[simp] theorem ty_zeroD131 : zeroD Tryd.prog 131 = none := by kernel_rfl
@[simp] theorem ty_zeroC131 : zeroC Tryd.prog 131 = some [.undef] := by kernel_rfl
@[simp] theorem ty_zeroO131 : zeroO Tryd.prog 131 = some [.undef] := by kernel_rfl
@[simp] theorem ty_cells132 : Tryd.prog.cellsOf 132 = 1 := by kernel_rfl
@[simp] theorem ty_bytes132 : Tryd.prog.bytesOf 132 = 8 := by kernel_rfl
@[simp] theorem ty_zeroD132 : zeroD Tryd.prog 132 = none := by kernel_rfl
@[simp] theorem ty_zeroC132 : zeroC Tryd.prog 132 = some [.undef] := by kernel_rfl
@[simp] theorem ty_zeroO132 : zeroO Tryd.prog 132 = some [.undef] := by kernel_rfl
@[simp] theorem ty_cells133 : Tryd.prog.cellsOf 133 = 1 := by kernel_rfl
@[simp] theorem ty_bytes133 : Tryd.prog.bytesOf 133 = 8 := by kernel_rfl
@[simp] theorem ty_zeroD133 : zeroD Tryd.prog 133 = none := by kernel_rfl
@[simp] theorem ty_zeroC133 : zeroC Tryd.prog 133 = some [.undef] := by kernel_rfl
@[simp] theorem ty_zeroO133 : zeroO Tryd.prog 133 = some [.undef] := by kernel_rfl
@[simp] theorem ty_cells134 : Tryd.prog.cellsOf 134 = 1 := by kernel_rfl
@[simp] theorem ty_bytes134 : Tryd.prog.bytesOf 134 = 8 := by kernel_rfl
@[simp] theorem ty_zeroD134 : zeroD Tryd.prog 134 = none := by kernel_rfl
@[simp] theorem ty_zeroC134 : zeroC Tryd.prog 134 = some [.undef] := by kernel_rfl
@[simp] theorem ty_zeroO134 : zeroO Tryd.prog 134 = some [.undef] := by kernel_rfl
@[simp] theorem ty_cells135 : Tryd.prog.cellsOf 135 = 1 := by kernel_rfl
@[simp] theorem ty_bytes135 : Tryd.prog.bytesOf 135 = 8 := by kernel_rfl
@[simp] theorem ty_zeroD135 : zeroD Tryd.prog 135 = none := by kernel_rfl
@[simp] theorem ty_zeroC135 : zeroC Tryd.prog 135 = some [.undef] := by kernel_rfl
@[simp] theorem ty_zeroO135 : zeroO Tryd.prog 135 = some [.undef] := by kernel_rfl
@[simp] theorem ty_cells136 : Tryd.prog.cellsOf 136 = 1 := by kernel_rfl
@[simp] theorem ty_bytes136 : Tryd.prog.bytesOf 136 = 8 := by kernel_rfl
@[simp] theorem ty_zeroD136 : zeroD Tryd.prog 136 = none := by kernel_rfl
@[simp] theorem ty_zeroC136 : zeroC Tryd.prog 136 = some [.undef] := by kernel_rfl
@[simp] theorem ty_zeroO136 : zeroO Tryd.prog 136 = some [.undef] := by kernel_rfl
@[simp] theorem ty_cells137 : Tryd.prog.cellsOf 137 = 1 := by kernel_rfl
@[simp] theorem ty_bytes137 : Tryd.prog.bytesOf 137 = 8 := by kernel_rfl
@[simp] theorem ty_zeroD137 : zeroD Tryd.prog 137 = none := by kernel_rfl
@[simp] theorem ty_zeroC137 : zeroC Tryd.prog 137 = some [.undef] := by kernel_rfl
@[simp] theorem ty_zeroO137 : zeroO Tryd.prog 137 = some [.undef] := by kernel_rfl
@[simp] theorem ty_cells138 : Tryd.prog.cellsOf 138 = 1 := by kernel_rfl
@[simp] theorem ty_bytes138 : Tryd.prog.bytesOf 138 = 8 := by kernel_rfl
@[simp] theorem ty_zeroD138 : zeroD Tryd.prog 138 = none := by kernel_rfl
@[simp] theorem ty_zeroC138 : zeroC Tryd.prog 138 = some [.undef] := by kernel_rfl
@[simp] theorem ty_zeroO138 : zeroO Tryd.prog 138 = some [.undef] := by kernel_rfl
@[simp] theorem ty_cells139 : Tryd.prog.cellsOf 139 = 1 := by kernel_rfl
@[simp] theorem ty_bytes139 : Tryd.prog.bytesOf 139 = 8 := by kernel_rfl
@[simp] theorem ty_zeroD139 : zeroD Tryd.prog 139 = none := by kernel_rfl
@[simp] theorem ty_zeroC139 : zeroC Tryd.prog 139 = some [.undef] := by kernel_rfl
@[simp] theorem ty_zeroO139 : zeroO Tryd.prog 139 = some [.undef] := by kernel_rfl
@[simp] theorem ty_cells141 : Tryd.prog.cellsOf 141 = 1 := by kernel_rfl
@[simp] theorem ty_bytes141 : Tryd.prog.bytesOf 141 = 8 := by kernel_rfl
@[simp] theorem ty_zeroD141 : zeroD Tryd.prog 141 = none := by kernel_rfl
@[simp] theorem ty_zeroC141 : zeroC Tryd.prog 141 = some [.undef] := by kernel_rfl
@[simp] theorem ty_zeroO141 : zeroO Tryd.prog 141 = some [.undef] := by kernel_rfl
@[simp] theorem ty_cells142 : Tryd.prog.cellsOf 142 = 1 := by kernel_rfl
@[simp] theorem ty_bytes142 : Tryd.prog.bytesOf 142 = 8 := by kernel_rfl
@[simp] theorem ty_zeroD142 : zeroD Tryd.prog 142 = none := by kernel_rfl
@[simp] theorem ty_zeroC142 : zeroC Tryd.prog 142 = some [.undef] := by kernel_rfl
@[simp] theorem ty_zeroO142 : zeroO Tryd.prog 142 = some [.undef] := by kernel_rfl
@[simp] theorem ty_cells143 : Tryd.prog.cellsOf 143 = 1 := by kernel_rfl
@[simp] theorem ty_bytes143 : Tryd.prog.bytesOf 143 = 8 := by kernel_rfl
@[simp] theorem ty_zeroD143 : zeroD Tryd.prog 143 = none := by kernel_rfl
@[simp] theorem ty_zeroC143 : zeroC Tryd.prog 143 = some [.undef] := by kernel_rfl
@[simp] theorem ty_zeroO143 : zeroO Tryd.prog 143 = some [.undef] := by kernel_rfl
@[simp] theorem ty_map143 : mapOf Tryd.prog 143 = some (9, 4) := by kernel_rfl
@[simp] theorem ty_cells144 : Tryd.prog.cellsOf 144 = 1 := by kernel_rfl
@[simp] theorem ty_bytes144 : Tryd.prog.bytesOf 144 = 8 := by kernel_rfl
@[simp] theorem ty_zeroD144 : zeroD Tryd.prog 144 = none := by kernel_rfl
@[simp] theorem ty_zeroC144 : zeroC Tryd.prog 144 = some [.undef] := by kernel_rfl
@[simp] theorem ty_zeroO144 : zeroO Tryd.prog 144 = some [.undef] := by kernel_rfl
@[simp] theorem ty_map144 : mapOf Tryd.prog 144 = some (3, 79) := by kernel_rfl
@[simp] theorem ty_cells145 : Tryd.prog.cellsOf 145 = 1 := by kernel_rfl
@[simp] theorem ty_bytes145 : Tryd.prog.bytesOf 145 = 8 := by kernel_rfl
@[simp] theorem ty_zeroD145 : zeroD Tryd.prog 145 = none := by kernel_rfl
@[simp] theorem ty_zeroC145 : zeroC Tryd.prog 145 = some [.undef] := by kernel_rfl
@[simp] theorem ty_zeroO145 : zeroO Tryd.prog 145 = some [.undef] := by kernel_rfl
@[simp] theorem ty_cells148 : Tryd.prog.cellsOf 148 = 1 := by kernel_rfl
@[simp] theorem ty_bytes148 : Tryd.prog.bytesOf 148 = 8 := by kernel_rfl
@[simp] theorem ty_zeroD148 : zeroD Tryd.prog 148 = none := by kernel_rfl
@[simp] theorem ty_zeroC148 : zeroC Tryd.prog 148 = some [.undef] := by kernel_rfl
@[simp] theorem ty_zeroO148 : zeroO Tryd.prog 148 = some [.undef] := by kernel_rfl
@[simp] theorem ty_cells149 : Tryd.prog.cellsOf 149 = 1 := by kernel_rfl
@[simp] theorem ty_bytes149 : Tryd.prog.bytesOf 149 = 8 := by kernel_rfl
@[simp] theorem ty_zeroD149 : zeroD Tryd.prog 149 = none := by kernel_rfl
@[simp] theorem ty_zeroC149 : zeroC Tryd.prog 149 = some [.undef] := by kernel_rfl
@[simp] theorem ty_zeroO149 : zeroO Tryd.prog 149 = some [.undef] := by kernel_rfl
@[simp] theorem ty_cells150 : Tryd.prog.cellsOf 150 = 1 := by kernel_rfl
@[simp] theorem ty_bytes150 : Tryd.prog.bytesOf 150 = 8 := by kernel_rfl
@[simp] theorem ty_zeroD150 : zeroD Tryd.prog 150 = none := by kernel_rfl
@[simp] theorem ty_zeroC150 : zeroC Tryd.prog 150 = some [.undef] := by kernel_rfl
@[simp] theorem ty_zeroO150 : zeroO Tryd.prog 150 = some [.undef] := by kernel_rfl
@[simp] theorem ty_cells151 : Tryd.prog.cellsOf 151 = 2 := by kernel_rfl
@[simp] theorem ty_bytes151 : Tryd.prog.bytesOf 151 = 32 := by kernel_rfl
@[simp] theorem ty_zeroD151 : zeroD Tryd.prog 151 = some [.str [], .str []] := by kernel_rfl
@[simp] theorem ty_zeroV151 : zeroValD Tryd.prog 151 = some (.agg [.str [], .str []]) := by kernel_rfl
@[simp] theorem ty_isStruct151 : isStruct Tryd.prog 151 = true := by kernel_rfl
@[simp] theorem ty_field151_0 : fieldOf Tryd.prog 151 0 = some (0, 9) := by kernel_rfl
@[simp] theorem ty_field151_1 : fieldOf Tryd.prog 151 1 = some (1, 45) := by kernel_rfl
@[simp] theorem ty_flat151 : flatDescs Tryd.prog 151 = some [.string, .string] := by kernel_rfl
@[simp] theorem ty_cells152 : Tryd.prog.cellsOf 152 = 1 := by kernel_rfl
@[simp] theorem ty_bytes152 : Tryd.prog.bytesOf 152 = 8 := by kernel_rfl
@[simp] theorem ty_zeroD152 : zeroD Tryd.prog 152 = none := by kernel_rfl
@[simp] theorem ty_zeroC152 : zeroC Tryd.prog 152 = some [.undef] := by kernel_rfl
@[simp] theorem ty_zeroO152 : zeroO Tryd.prog 152 = some [.undef] := by kernel_rfl
@[simp] theorem ty_cells153 : Tryd.prog.cellsOf 153 = 1 := by kernel_rfl
@[simp] theorem ty_bytes153 : Tryd.prog.bytesOf 153 = 8 := by kernel_rfl
@[simp] theorem ty_zeroD153 : zeroD Tryd.prog 153 = none := by kernel_rfl
@[simp] theorem ty_zeroC153 : zeroC Tryd.prog 153 = some [.undef] := by kernel_rfl
@[simp] theorem ty_zeroO153 : zeroO Tryd.prog 153 = some [.undef] := by kernel_rfl
@[simp] theorem ty_cells154 : Tryd.prog.cellsOf 154 = 1 := by kernel_rfl
@[simp] theorem ty_bytes154 : Tryd.prog.bytesOf 154 = 8 := by kernel_rfl
@[simp] theorem ty_zeroD154 : zeroD Tryd.prog 154 = none := by kernel_rfl
@[simp] theorem ty_zeroC154 : zeroC Tryd.prog 154 = some [.undef] := by kernel_rfl
@[simp] theorem ty_zeroO154 : zeroO Tryd.prog 154 = some [.undef] := by kernel_rfl
@[simp] theorem ty_cells155 : Tryd.prog.cellsOf 155 = 1 := by kernel_rfl
@[simp] theorem ty_bytes155 : Tryd.prog.bytesOf 155 = 8 := by kernel_rfl
@[simp] theorem ty_zeroD155 : zeroD Tryd.prog 155 = none := by kernel_rfl
@[simp] theorem ty_zeroC155 : zeroC Tryd.prog 155 = some [.undef] := by kernel_rfl
@[simp] theorem ty_zeroO155 : zeroO Tryd.prog 155 = some [.undef] := by kernel_rfl
@[simp] theorem ty_cells156 : Tryd.prog.cellsOf 156 = 1 := by kernel_rfl
@[simp] theorem ty_bytes156 : Tryd.prog.bytesOf 156 = 8 := by kernel_rfl
@[simp] theorem ty_zeroD156 : zeroD Tryd.prog 156 = none := by kernel_rfl
@[simp] theorem ty_zeroC156 : zeroC Tryd.prog 156 = some [.undef] := by kernel_rfl
@[simp] theorem ty_zeroO156 : zeroO Tryd.prog 156 = some [.undef] := by kernel_rfl
@[simp] theorem ty_cells157 : Tryd.prog.cellsOf 157 = 1 := by kernel_rfl
@[simp] theorem ty_bytes157 : Tryd.prog.bytesOf 157 = 8 := by kernel_rfl
@[simp] theorem ty_zeroD157 : zeroD Tryd.prog 157 = none := by kernel_rfl
@[simp] theorem ty_zeroC157 : zeroC Tryd.prog 157 = some [.undef] := by kernel_rfl
@[simp] theorem ty_zeroO157 : zeroO Tryd.prog 157 = some [.undef] := by kernel_rfl
@[simp] theorem ty_cells158 : Tryd.prog.cellsOf 158 = 1 := by kernel_rfl
@[simp] theorem ty_bytes158 : Tryd.prog.bytesOf 158 = 8 := by kernel_rfl
@[simp] theorem ty_zeroD158 : zeroD Tryd.prog 158 = none := by kernel_rfl
@[simp] theorem ty_zeroC158 : zeroC Tryd.prog 158 = some [.undef] := by kernel_rfl
@[simp] theorem ty_zeroO158 : zeroO Tryd.prog 158 = some [.undef] := by kernel_rfl
@[simp] theorem ty_cells159 : Tryd.prog.cellsOf 159 = 1 := by kernel_rfl
@[simp] theorem ty_bytes159 : Tryd.prog.bytesOf 159 = 8 := by kernel_rfl
@[simp] theorem ty_zeroD159 : zeroD Tryd.prog 159 = none := by kernel_rfl
@[simp] theorem ty_zeroC159 : zeroC Tryd.prog 159 = some [.undef] := by kernel_rfl
@[simp] theorem ty_zeroO159 : zeroO Tryd.prog 159 = some [.undef] := by kernel_rfl
@[simp] theorem ty_cells160 : Tryd.prog.cellsOf 160 = 1 := by kernel_rfl
@[simp] theorem ty_bytes160 : Tryd.prog.bytesOf 160 = 8 := by kernel_rfl
@[simp] theorem ty_zeroD160 : zeroD Tryd.prog 160 = none := by kernel_rfl
@[simp] theorem ty_zeroC160 : zeroC Tryd.prog 160 = some [.undef] := by kernel_rfl
@[simp] theorem ty_zeroO160 : zeroO Tryd.prog 160 = some [.undef] := by kernel_rfl
@[simp] theorem ty_cells161 : Tryd.prog.cellsOf 161 = 1 := by kernel_rfl
@[simp] theorem ty_bytes161 : Tryd.prog.bytesOf 161 = 8 := by kernel_rfl
@[simp] theorem ty_zeroD161 : zeroD Tryd.prog 161 = none := by kernel_rfl
@[simp] theorem ty_zeroC161 : zeroC Tryd.prog 161 = some [.undef] := by kernel_rfl
@[simp] theorem ty_zeroO161 : zeroO Tryd.prog 161 = some [.undef] := by kernel_rfl
@[simp] theorem ty_cells162 : Tryd.prog.cellsOf 162 = 1 := by kernel_rfl
@[simp] theorem ty_bytes162 : Tryd.prog.bytesOf 162 = 8 := by kernel_rfl
@[simp] theorem ty_zeroD162 : zeroD Tryd.prog 162 = none := by kernel_rfl
@[simp] theorem ty_zeroC162 : zeroC Tryd.prog 162 = some [.undef] := by kernel_rfl
@[simp] theorem ty_zeroO162 : zeroO Tryd.prog 162 = some [.undef] := by kernel_rfl
@[simp] theorem ty_cells163 : Tryd.prog.cellsOf 163 = 1 := by kernel_rfl
@[simp] theorem ty_bytes163 : Tryd.prog.bytesOf 163 = 8 := by kernel_rfl
@[simp] theorem ty_zeroD163 : zeroD Tryd.prog 163 = none := by kernel_rfl
@[simp] theorem ty_zeroC163 : zeroC Tryd.prog 163 = some [.undef] := by kernel_rfl
@[simp] theorem ty_zeroO163 : zeroO Tryd.prog 163 = some [.undef] := by kernel_rfl
@[simp] theorem ty_cells164 : Tryd.prog.cellsOf 164 = 1 := by kernel_rfl
@[simp] theorem ty_bytes164 : Tryd.prog.bytesOf 164 = 8 := by kernel_rfl
@[simp] theorem ty_zeroD164 : zeroD Tryd.prog 164 = none := by kernel_rfl
@[simp] theorem ty_zeroC164 : zeroC Tryd.prog 164 = some [.undef] := by kernel_rfl
@[simp] theorem ty_zeroO164 : zeroO Tryd.prog 164 = some [.undef] := by kernel_rfl
@[simp] theorem ty_cells165 : Tryd.prog.cellsOf 165 = 42 := by kernel_rfl
@[simp] theorem ty_bytes165 : Tryd.prog.bytesOf 165 = 672 := by kernel_rfl
@[simp] theorem ty_zeroD165 : zeroD Tryd.prog 165 = some [.str [], .str [], .str [], .str [], .str [], .str [], .str [], .str [], .str [], .str [], .str [], .str [], .str [], .str [], .str [], .str [], .str [], .str [], .str [], .str [], .str [], .str [], .str [], .str [], .str [], .str [], .str [], .str [], .str [], .str [], .str [], .str [], .str [], .str [], .str [], .str [], .str [], .str [], .str [], .str [], .str [], .str []] := by kernel_rfl
@[simp] theorem ty_cells166 : Tryd.prog.cellsOf 166 = 1 := by kernel_rfl
@[simp] theorem ty_bytes166 : Tryd.prog.bytesOf 166 = 8 := by kernel_rfl
@[simp] theorem ty_zeroD166 : zeroD Tryd.prog 166 = none := by kernel_rfl
@[simp] theorem ty_zeroC166 : zeroC Tryd.prog 166 = some [.undef] := by kernel_rfl
@[simp] theorem ty_zeroO166 : zeroO Tryd.prog 166 = some [.undef] := by kernel_rfl
@[simp] theorem ty_cells167 : Tryd.prog.cellsOf 167 = 1 := by kernel_rfl
@[simp] theorem ty_bytes167 : Tryd.prog.bytesOf 167 = 8 := by kernel_rfl
@[simp] theorem ty_zeroD167 : zeroD Tryd.prog 167 = none := by kernel_rfl
@[simp] theorem ty_zeroC167 : zeroC Tryd.prog 167 = some [.undef] := by kernel_rfl
@[simp] theorem ty_zeroO167 : zeroO Tryd.prog 167 = some [.undef] := by kernel_rfl
@[simp] theorem ty_cells168 : Tryd.prog.cellsOf 168 = 1 := by kernel_rfl
@[simp] theorem ty_bytes168 : Tryd.prog.bytesOf 168 = 8 := by kernel_rfl
@[simp] theorem ty_zeroD168 : zeroD Tryd.prog 168 = none := by kernel_rfl
@[simp] theorem ty_zeroC168 : zeroC Tryd.prog 168 = some [.undef] := by kernel_rfl
@[simp] theorem ty_zeroO168 : zeroO Tryd.prog 168 = some [.undef] := by kernel_rfl
@[simp] theorem ty_cells170 : Tryd.prog.cellsOf 170 = 1 := by kernel_rfl
@[simp] theorem ty_bytes170 : Tryd.prog.bytesOf 170 = 8 := by kernel_rfl
@[simp] theorem ty_zeroD170 : zeroD Tryd.prog 170 = none := by kernel_rfl
@[simp] theorem ty_zeroC170 : zeroC Tryd.prog 170 = some [.undef] := by kernel_rfl
@[simp] theorem ty_zeroO170 : zeroO Tryd.prog 170 = some [.undef] := by kernel_rfl
@[simp] theorem ty_cells171 : Tryd.prog.cellsOf 171 = 1 := by kernel_rfl
@[simp] theorem ty_bytes171 : Tryd.prog.bytesOf 171 = 8 := by kernel_rfl
@[simp] theorem ty_zeroD171 : zeroD Tryd.prog 171 = none := by kernel_rfl
@[simp] theorem ty_zeroC171 : zeroC Tryd.prog 171 = some [.undef] := by kernel_rfl
@[simp] theorem ty_zeroO171 : zeroO Tryd.prog 171 = some [.undef] := by kernel_rfl
@[simp] theorem ty_cells172 : Tryd.prog.cellsOf 172 = 1 := by kernel_rfl
@[simp] theorem ty_bytes172 : Tryd.prog.bytesOf 172 = 8 := by kernel_rfl
@[simp] theorem ty_zeroD172 : zeroD Tryd.prog 172 = none := by kernel_rfl
@[simp] theorem ty_zeroC172 : zeroC Tryd.prog 172 = some [.undef] := by kernel_rfl
@[simp] theorem ty_zeroO172 : zeroO Tryd.prog 172 = some [.undef] := by kernel_rfl
@[simp] theorem ty_cells173 : Tryd.prog.cellsOf 173 = 2 := by kernel_rfl
@[simp] theorem ty_bytes173 : Tryd.prog.bytesOf 173 = 24 := by kernel_rfl
@[simp] theorem ty_zeroD173 : zeroD Tryd.prog 173 = none := by kernel_rfl
@[simp] theorem ty_zeroC173 : zeroC Tryd.prog 173 = some [.undef, .d (.str [])] := by kernel_rfl
@[simp] theorem ty_zeroO173 : zeroO Tryd.prog 173 = some [.undef, .d (.str [])] := by kernel_rfl
@[simp] theorem ty_field173_0 : fieldOf Tryd.prog 173 0 = some (0, 172) := by kernel_rfl
@[simp] theorem ty_field173_1 : fieldOf Tryd.prog 173 1 = some (1, 45) := by kernel_rfl
@[simp] theorem ty_cells174 : Tryd.prog.cellsOf 174 = 2 := by kernel_rfl
@[simp] theorem ty_bytes174 : Tryd.prog.bytesOf 174 = 24 := by kernel_rfl
@[simp] theorem ty_zeroD174 : zeroD Tryd.prog 174 = none := by kernel_rfl
@[simp] theorem ty_zeroC174 : zeroC Tryd.prog 174 = some [.undef, .d (.str [])] := by kernel_rfl
@[simp] theorem ty_zeroO174 : zeroO Tryd.prog 174 = some [.undef, .d (.str [])] := by kernel_rfl
@[simp] theorem ty_isStruct174 : isStruct Tryd.prog 174 = true := by kernel_rfl
@[simp] theorem ty_field174_0 : fieldOf Tryd.prog 174 0 = some (0, 172) := by kernel_rfl
@[simp] theorem ty_field174_1 : fieldOf Tryd.prog 174 1 = some (1, 45) := by kernel_rfl
@[simp] theorem ty_cells175 : Tryd.prog.cellsOf 175 = 1 := by kernel_rfl
@[simp] theorem ty_bytes175 : Tryd.prog.bytesOf 175 = 8 := by kernel_rfl
@[simp] theorem ty_zeroD175 : zeroD Tryd.prog 175 = none := by kernel_rfl
@[simp] theorem ty_zeroC175 : zeroC Tryd.prog 175 = some [.undef] := by kernel_rfl
@[simp] theorem ty_zeroO175 : zeroO Tryd.prog 175 = some [.undef] := by kernel_rfl
@[simp] theorem ty_cells176 : Tryd.prog.cellsOf 176 = 1 := by kernel_rfl
@[simp] theorem ty_bytes176 : Tryd.prog.bytesOf 176 = 8 := by kernel_rfl
@[simp] theorem ty_zeroD176 : zeroD Tryd.prog 176 = none := by kernel_rfl
@[simp] theorem ty_zeroC176 : zeroC Tryd.prog 176 = some [.undef] := by kernel_rfl
@[simp] theorem ty_zeroO176 : zeroO Tryd.prog 176 = some [.undef] := by kernel_rfl
@[simp] theorem ty_cells178 : Tryd.prog.cellsOf 178 = 1 := by kernel_rfl
@[simp] theorem ty_bytes178 : Tryd.prog.bytesOf 178 = 8 := by kernel_rfl
@[simp] theorem ty_zeroD178 : zeroD Tryd.prog 178 = none := by kernel_rfl
@[simp] theorem ty_zeroC178 : zeroC Tryd.prog 178 = some [.undef] := by kernel_rfl
@[simp] theorem ty_zeroO178 : zeroO Tryd.prog 178 = some [.undef] := by kernel_rfl
@[simp] theorem ty_cells179 : Tryd.prog.cellsOf 179 = 1 := by kernel_rfl
@[simp] theorem ty_bytes179 : Tryd.prog.bytesOf 179 = 8 := by kernel_rfl
@[simp] theorem ty_zeroD179 : zeroD Tryd.prog 179 = none := by kernel_rfl
@[simp] theorem ty_zeroC179 : zeroC Tryd.prog 179 = some [.undef] := by kernel_rfl
@[simp] theorem ty_zeroO179 : zeroO Tryd.prog 179 = some [.undef] := by kernel_rfl
@[simp] theorem ty_cells180 : Tryd.prog.cellsOf 180 = 1 := by kernel_rfl
@[simp] theorem ty_bytes180 : Tryd.prog.bytesOf 180 = 8 := by kernel_rfl
@[simp] theorem ty_zeroD180 : zeroD Tryd.prog 180 = none := by kernel_rfl
@[simp] theorem ty_zeroC180 : zeroC Tryd.prog 180 = some [.undef] := by kernel_rfl
@[simp] theorem ty_zeroO180 : zeroO Tryd.prog 180 = some [.undef] := by kernel_rfl
@[simp] theorem ty_cells182 : Tryd.prog.cellsOf 182 = 1 := by kernel_rfl
@[simp] theorem ty_bytes182 : Tryd.prog.bytesOf 182 = 8 := by kernel_rfl
@[simp] theorem ty_zeroD182 : zeroD Tryd.prog 182 = none := by kernel_rfl
@[simp] theorem ty_zeroC182 : zeroC Tryd.prog 182 = some [.undef] := by kernel_rfl
@[simp] theorem ty_zeroO182 : zeroO Tryd.prog 182 = some [.undef] := by kernel_rfl
@[simp] theorem ty_cells183 : Tryd.prog.cellsOf 183 = 1 := by kernel_rfl
@[simp] theorem ty_bytes183 : Tryd.prog.bytesOf 183 = 8 := by kernel_rfl
@[simp] theorem ty_zeroD183 : zeroD Tryd.prog 183 = none := by kernel_rfl
@[simp] theorem ty_zeroC183 : zeroC Tryd.prog 183 = some [.undef] := by kernel_rfl
@[simp] theorem ty_zeroO183 : zeroO Tryd.prog 183 = some [.undef] := by kernel_rfl
@[simp] theorem ty_cells184 : Tryd.prog.cellsOf 184 = 1 := by kernel_rfl
@[simp] theorem ty_bytes184 : Tryd.prog.bytesOf 184 = 8 := by kernel_rfl
@[simp] theorem ty_zeroD184 : zeroD Tryd.prog 184 = none := by kernel_rfl
@[simp] theorem ty_zeroC184 : zeroC Tryd.prog 184 = some [.undef] := by kernel_rfl
@[simp] theorem ty_zeroO184 : zeroO Tryd.prog 184 = some [.undef] := by kernel_rfl
@[simp] theorem ty_cells185 : Tryd.prog.cellsOf 185 = 1 := by kernel_rfl
@[simp] theorem ty_bytes185 : Tryd.prog.bytesOf 185 = 8 := by kernel_rfl
@[simp] theorem ty_zeroD185 : zeroD Tryd.prog 185 = none := by kernel_rfl
@[simp] theorem ty_zeroC185 : zeroC Tryd.prog 185 = some [.undef] := by kernel_rfl
@[simp] theorem ty_zeroO185 : zeroO Tryd.prog 185 = some [.undef] := by kernel_rfl
@[simp] theorem ty_cells186 : Tryd.prog.cellsOf 186 = 1 := by kernel_rfl
@[simp] theorem ty_bytes186 : Tryd.prog.bytesOf 186 = 8 := by kernel_rfl
@[simp] theorem ty_zeroD186 : zeroD Tryd.prog 186 = none := by kernel_rfl
@[simp] theorem ty_zeroC186 : zeroC Tryd.prog 186 = some [.undef] := by kernel_rfl
@[simp] theorem ty_zeroO186 : zeroO Tryd.prog 186 = some [.undef] := by kernel_rfl
@[simp] theorem ty_cells187 : Tryd.prog.cellsOf 187 = 4 := by kernel_rfl
@[simp] theorem ty_bytes187 : Tryd.prog.bytesOf 187 = 40 := by kernel_rfl
@[simp] theorem ty_zeroD187 : zeroD Tryd.prog 187 = none := by kernel_rfl
@[simp] theorem ty_zeroC187 : zeroC Tryd.prog 187 = some [.undef, .undef, .undef, .d (.str [])] := by kernel_rfl
@[simp] theorem ty_zeroO187 : zeroO Tryd.prog 187 = some [.undef, .undef, .undef, .d (.str [])] := by kernel_rfl
@[simp] theorem ty_field187_0 : fieldOf Tryd.prog 187 0 = some (0, 17) := by kernel_rfl
@[simp] theorem ty_field187_1 : fieldOf Tryd.prog 187 1 = some (1, 17) := by kernel_rfl
@[simp] theorem ty_field187_2 : fieldOf Tryd.prog 187 2 = some (2, 17) := by kernel_rfl
@[simp] theorem ty_field187_3 : fieldOf Tryd.prog 187 3 = some (3, 9) := by kernel_rfl
@[simp] theorem ty_cells188 : Tryd.prog.cellsOf 188 = 4 := by kernel_rfl
@[simp] theorem ty_bytes188 : Tryd.prog.bytesOf 188 = 40 := by kernel_rfl
@[simp] theorem ty_zeroD188 : zeroD Tryd.prog 188 = none := by kernel_rfl
@[simp] theorem ty_zeroC188 : zeroC Tryd.prog 188 = some [.undef, .undef, .undef, .d (.str [])] := by kernel_rfl
@[simp] theorem ty_zeroO188 : zeroO Tryd.prog 188 = some [.undef, .undef, .undef, .d (.str [])] := by kernel_rfl
@[simp] theorem ty_field188_0 : fieldOf Tryd.prog 188 0 = some (0, 17) := by kernel_rfl
@[simp] theorem ty_field188_1 : fieldOf Tryd.prog 188 1 = some (1, 17) := by kernel_rfl
@[simp] theorem ty_field188_2 : fieldOf Tryd.prog 188 2 = some (2, 17) := by kernel_rfl
@[simp] theorem ty_field188_3 : fieldOf Tryd.prog 188 3 = some (3, 9) := by kernel_rfl
@[simp] theorem ty_cells189 : Tryd.prog.cellsOf 189 = 0 := by kernel_rfl
@[simp] theorem ty_bytes189 : Tryd.prog.bytesOf 189 = 0 := by kernel_rfl
@[simp] theorem ty_cells190 : Tryd.prog.cellsOf 190 = 0 := by kernel_rfl
@[simp] theorem ty_bytes190 : Tryd.prog.bytesOf 190 = 0 := by kernel_rfl
@[simp] theorem ty_field190_0 : fieldOf Tryd.prog 190 0 = some (0, 189) := by kernel_rfl
@[simp] theorem ty_cells191 : Tryd.prog.cellsOf 191 = 0 := by kernel_rfl
@[simp] theorem ty_bytes191 : Tryd.prog.bytesOf 191 = 0 := by kernel_rfl
@[simp] theorem ty_field191_0 : fieldOf Tryd.prog 191 0 = some (0, 189) := by kernel_rfl
@[simp] theorem ty_cells192 : Tryd.prog.cellsOf 192 = 1 := by kernel_rfl
@[simp] theorem ty_bytes192 : Tryd.prog.bytesOf 192 = 8 := by kernel_rfl
@[simp] theorem ty_zeroD192 : zeroD Tryd.prog 192 = none := by kernel_rfl
@[simp] theorem ty_zeroC192 : zeroC Tryd.prog 192 = some [.undef] := by kernel_rfl
@[simp] theorem ty_zeroO192 : zeroO Tryd.prog 192 = some [.undef] := by kernel_rfl
@[simp] theorem ty_cells193 : Tryd.prog.cellsOf 193 = 1 := by kernel_rfl
@[simp] theorem ty_bytes193 : Tryd.prog.bytesOf 193 = 4 := by kernel_rfl
@[simp] theorem ty_zeroD193 : zeroD Tryd.prog 193 = some [.int .u32 0] := by kernel_rfl
@[simp] theorem ty_zeroV193 : zeroValD Tryd.prog 193 = some (.int .u32 0) := by kernel_rfl
@[simp] theorem ty_cells194 : Tryd.prog.cellsOf 194 = 1 := by kernel_rfl
@[simp] theorem ty_bytes194 : Tryd.prog.bytesOf 194 = 1 := by kernel_rfl
@[simp] theorem ty_zeroD194 : zeroD Tryd.prog 194 = some [.int .u8 0] := by kernel_rfl
@[simp] theorem ty_zeroV194 : zeroValD Tryd.prog 194 = some (.int .u8 0) := by kernel_rfl
@[simp] theorem ty_cells195 : Tryd.prog.cellsOf 195 = 1 := by kernel_rfl
@[simp] theorem ty_bytes195 : Tryd.prog.bytesOf 195 = 1 := by kernel_rfl
@[simp] theorem ty_zeroD195 : zeroD Tryd.prog 195 = some [.int .u8 0] := by kernel_rfl
@[simp] theorem ty_zeroV195 : zeroValD Tryd.prog 195 = some (.int .u8 0) := by kernel_rfl
@[simp] theorem ty_cells196 : Tryd.prog.cellsOf 196 = 1 := by kernel_rfl
@[simp] theorem ty_bytes196 : Tryd.prog.bytesOf 196 = 8 := by kernel_rfl
@[simp] theorem ty_zeroD196 : zeroD Tryd.prog 196 = none := by kernel_rfl
@[simp] theorem ty_zeroC196 : zeroC Tryd.prog 196 = some [.undef] := by kernel_rfl
@[simp] theorem ty_zeroO196 : zeroO Tryd.prog 196 = some [.undef] := by kernel_rfl
@[simp] theorem ty_cells197 : Tryd.prog.cellsOf 197 = 1 := by kernel_rfl
@[simp] theorem ty_bytes197 : Tryd.prog.bytesOf 197 = 8 := by kernel_rfl
@[simp] theorem ty_zeroD197 : zeroD Tryd.prog 197 = none := by kernel_rfl
@[simp] theorem ty_zeroC197 : zeroC Tryd.prog 197 = some [.undef] := by kernel_rfl
@[simp] theorem ty_zeroO197 : zeroO Tryd.prog 197 = some [.undef] := by kernel_rfl
@[simp] theorem ty_cells198 : Tryd.prog.cellsOf 198 = 1 := by kernel_rfl
@[simp] theorem ty_bytes198 : Tryd.prog.bytesOf 198 = 4 := by kernel_rfl
@[simp] theorem ty_zeroD198 : zeroD Tryd.prog 198 = some [.int .i32 0] := by kernel_rfl
@[simp] theorem ty_zeroV198 : zeroValD Tryd.prog 198 = some (.int .i32 0) := by kernel_rfl
@[simp] theorem ty_cells199 : Tryd.prog.cellsOf 199 = 1 := by kernel_rfl
@[simp] theorem ty_bytes199 : Tryd.prog.bytesOf 199 = 4 := by kernel_rfl
@[simp] theorem ty_zeroD199 : zeroD Tryd.prog 199 = some [.int .i32 0] := by kernel_rfl
@[simp] theorem ty_zeroV199 : zeroValD Tryd.prog 199 = some (.int .i32 0) := by kernel_rfl
@[simp] theorem ty_cells200 : Tryd.prog.cellsOf 200 = 11 := by kernel_rfl
@[simp] theorem ty_bytes200 : Tryd.prog.bytesOf 200 = 48 := by kernel_rfl
@[simp] theorem ty_zeroD200 : zeroD Tryd.prog 200 = none := by kernel_rfl
@[simp] theorem ty_zeroC200 : zeroC Tryd.prog 200 = some [.d (.int .u64 0), .d (.int .u64 0), .d (.int .u32 0), .d (.int .u8 0), .d (.int .u8 0), .d (.int .u8 0), .d (.int .u8 0), .undef, .undef, .d (.int .i32 0), .d (.int .i32 0)] := by kernel_rfl
@[simp] theorem ty_zeroO200 : zeroO Tryd.prog 200 = some [.d (.int .u64 0), .d (.int .u64 0), .d (.int .u32 0), .d (.int .u8 0), .d (.int .u8 0), .d (.int .u8 0), .d (.int .u8 0), .undef, .undef, .d (.int .i32 0), .d (.int .i32 0)] := by kernel_rfl
@[simp] theorem ty_field200_0 : fieldOf Tryd.prog 200 0 = some (0, 12) := by kernel_rfl
@[simp] theorem ty_field200_1 : fieldOf Tryd.prog 200 1 = some (1, 12) := by kernel_rfl
@[simp] theorem ty_field200_2 : fieldOf Tryd.prog 200 2 = some (2, 193) := by kernel_rfl
@[simp] theorem ty_field200_3 : fieldOf Tryd.prog 200 3 = some (3, 194) := by kernel_rfl
@[simp] theorem ty_field200_4 : fieldOf Tryd.prog 200 4 = some (4, 5) := by kernel_rfl
@[simp] theorem ty_field200_5 : fieldOf Tryd.prog 200 5 = some (5, 5) := by kernel_rfl
@[simp] theorem ty_field200_6 : fieldOf Tryd.prog 200 6 = some (6, 195) := by kernel_rfl
@[simp] theorem ty_field200_7 : fieldOf Tryd.prog 200 7 = some (7, 196) := by kernel_rfl
@[simp] theorem ty_field200_8 : fieldOf Tryd.prog 200 8 = some (8, 197) := by kernel_rfl
@[simp] theorem ty_field200_9 : fieldOf Tryd.prog 200 9 = some (9, 198) := by kernel_rfl
@[simp] theorem ty_field200_10 : fieldOf Tryd.prog 200 10 = some (10, 199) := by kernel_rfl
@[simp] theorem ty_cells201 : Tryd.prog.cellsOf 201 = 11 := by kernel_rfl
@[simp] theorem ty_bytes201 : Tryd.prog.bytesOf 201 = 48 := by kernel_rfl
@[simp] theorem ty_zeroD201 : zeroD Tryd.prog 201 = none := by kernel_rfl
@[simp] theorem ty_zeroC201 : zeroC Tryd.prog 201 = some [.d (.int .u64 0), .d (.int .u64 0), .d (.int .u32 0), .d (.int .u8 0), .d (.int .u8 0), .d (.int .u8 0), .d (.int .u8 0), .undef, .undef, .d (.int .i32 0), .d (.int .i32 0)] := by kernel_rfl
@[simp] theorem ty_zeroO201 : zeroO Tryd.prog 201 = some [.d (.int .u64 0), .d (.int .u64 0), .d (.int .u32 0), .d (.int .u8 0), .d (.int .u8 0), .d (.int .u8 0), .d (.int .u8 0), .undef, .undef, .d (.int .i32 0), .d (.int .i32 0)] := by kernel_rfl
@[simp] theorem ty_field201_0 : fieldOf Tryd.prog 201 0 = some (0, 12) := by kernel_rfl
@[simp] theorem ty_field201_1 : fieldOf Tryd.prog 201 1 = some (1, 12) := by kernel_rfl
@[simp] theorem ty_field201_2 : fieldOf Tryd.prog 201 2 = some (2, 193) := by kernel_rfl
@[simp] theorem ty_field201_3 : fieldOf Tryd.prog 201 3 = some (3, 194) := by kernel_rfl
@[simp] theorem ty_field201_4 : fieldOf Tryd.prog 201 4 = some (4, 5) := by kernel_rfl
@[simp] theorem ty_field201_5 : fieldOf Tryd.prog 201 5 = some (5, 5) := by kernel_rfl
@[simp] theorem ty_field201_6 : fieldOf Tryd.prog 201 6 = some (6, 195) := by kernel_rfl
@[simp] theorem ty_field201_7 : fieldOf Tryd.prog 201 7 = some (7, 196) := by kernel_rfl
@[simp] theorem ty_field201_8 : fieldOf Tryd.prog 201 8 = some (8, 197) := by kernel_rfl
@[simp] theorem ty_field201_9 : fieldOf Tryd.prog 201 9 = some (9, 198) := by kernel_rfl
@[simp] theorem ty_field201_10 : fieldOf Tryd.prog 201 10 = some (10, 199) := by kernel_rfl
@[simp] theorem ty_cells202 : Tryd.prog.cellsOf 202 = 2 := by kernel_rfl
@[simp] theorem ty_bytes202 : Tryd.prog.bytesOf 202 = 32 := by kernel_rfl
@[simp] theorem ty_zeroD202 : zeroD Tryd.prog 202 = some [.str [], .str []] := by kernel_rfl
@[simp] theorem ty_zeroV202 : zeroValD Tryd.prog 202 = some (.agg [.str [], .str []]) := by kernel_rfl
@[simp] theorem ty_isStruct202 : isStruct Tryd.prog 202 = true := by kernel_rfl
@[simp] theorem ty_field202_0 : fieldOf Tryd.prog 202 0 = some (0, 9) := by kernel_rfl
@[simp] theorem ty_field202_1 : fieldOf Tryd.prog 202 1 = some (1, 9) := by kernel_rfl
@[simp] theorem ty_cells203 : Tryd.prog.cellsOf 203 = 2 := by kernel_rfl
@[simp] theorem ty_bytes203 : Tryd.prog.bytesOf 203 = 32 := by kernel_rfl
@[simp] theorem ty_zeroD203 : zeroD Tryd.prog 203 = some [.str [], .str []] := by kernel_rfl
@[simp] theorem ty_zeroV203 : zeroValD Tryd.prog 203 = some (.agg [.str [], .str []]) := by kernel_rfl
@[simp] theorem ty_isStruct203 : isStruct Tryd.prog 203 = true := by kernel_rfl
@[simp] theorem ty_field203_0 : fieldOf Tryd.prog 203 0 = some (0, 9) := by kernel_rfl
@[simp] theorem ty_field203_1 : fieldOf Tryd.prog 203 1 = some (1, 9) := by kernel_rfl
@[simp] theorem ty_flat203 : flatDescs Tryd.prog 203 = some [.string, .string] := by kernel_rfl
@[simp] theorem ty_elemOk9 : elemOk Tryd.prog 9 = true := by kernel_rfl
@[simp] theorem ty_elemOk31 : elemOk Tryd.prog 31 = true := by kernel_rfl
@[simp] theorem ty_elemOk33 : elemOk Tryd.prog 33 = true := by kernel_rfl
@[simp] theorem ty_elemOk40 : elemOk Tryd.prog 40 = true := by kernel_rfl
@[simp] theorem ty_elemOk43 : elemOk Tryd.prog 43 = true := by kernel_rfl
@[simp] theorem ty_elemOk45 : elemOk Tryd.prog 45 = true := by kernel_rfl
@[simp] theorem ty_elemOk48 : elemOk Tryd.prog 48 = true := by kernel_rfl
@[simp] theorem ty_elemOk67 : elemOk Tryd.prog 67 = true := by kernel_rfl
@[simp] theorem ty_elemOk73 : elemOk Tryd.prog 73 = true := by kernel_rfl
@[simp] theorem ty_elemOk79 : elemOk Tryd.prog 79 = true := by kernel_rfl
@[simp] theorem ty_elemOk87 : elemOk Tryd.prog 87 = true := by kernel_rfl
@[simp] theorem ty_elemOk99 : elemOk Tryd.prog 99 = true := by kernel_rfl
@[simp] theorem ty_elemOk123 : elemOk Tryd.prog 123 = true := by kernel_rfl
@[simp] theorem ty_elemOk125 : elemOk Tryd.prog 125 = true := by kernel_rfl
@[simp] theorem ty_elemOk151 : elemOk Tryd.prog 151 = true := by kernel_rfl
@[simp] theorem ty_elemOk203 : elemOk Tryd.prog 203 = true := by kernel_rfl
end Go.Proofs.YthikbenglkfioaaDoor
