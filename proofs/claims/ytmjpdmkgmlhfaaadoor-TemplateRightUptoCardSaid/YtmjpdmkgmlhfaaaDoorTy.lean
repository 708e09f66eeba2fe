/- The facts on this translation's types that the machine on data asks, one closed fact each. By a program of ours. No condition. -/
import Derived.Test.YtmjpdmkgmlhfaaaDoorZF
import Derived.KernelRfl
import Derived.Test.YtmjpdmkgmlhfaaaDoorProg
set_option linter.unusedVariables false
set_option linter.unusedSimpArgs false
namespace Go.Proofs.YtmjpdmkgmlhfaaaDoor
open Go Go.VM
@[simp] theorem ty_cells1 : Tryd.prog.cellsOf 1 = 1 := by kernel_rfl
@[simp] theorem ty_bytes1 : Tryd.prog.bytesOf 1 = 8 := by kernel_rfl
@[simp] theorem ty_zeroD1 : zeroD Tryd.prog 1 = none := by kernel_rfl
@[simp] theorem ty_zeroC1 : zeroC Tryd.prog 1 = some [.undef] := by kernel_rfl
@[simp] theorem ty_zeroO1 : zeroO Tryd.prog 1 = some [.undef] := by kernel_rfl
@[simp] theorem ty_cells2 : Tryd.prog.cellsOf 2 = 1 := by kernel_rfl
@[simp] theorem ty_bytes2 : Tryd.prog.bytesOf 2 = 8 := by kernel_rfl
@[simp] theorem ty_zeroD2 : zeroD Tryd.prog 2 = some [.int .i64 0] := by kernel_rfl
@[simp] theorem ty_zeroV2 : zeroValD Tryd.prog 2 = some (.int .i64 0) := by kernel_rfl
@[simp] theorem ty_cells3 : Tryd.prog.cellsOf 3 = 1 := by kernel_rfl
@[simp] theorem ty_bytes3 : Tryd.prog.bytesOf 3 = 8 := by kernel_rfl
@[simp] theorem ty_zeroD3 : zeroD Tryd.prog 3 = some [.int .i64 0] := by kernel_rfl
@[simp] theorem ty_zeroV3 : zeroValD Tryd.prog 3 = some (.int .i64 0) := by kernel_rfl
@[simp] theorem ty_cells4 : Tryd.prog.cellsOf 4 = 1 := by kernel_rfl
@[simp] theorem ty_bytes4 : Tryd.prog.bytesOf 4 = 1 := by kernel_rfl
@[simp] theorem ty_zeroD4 : zeroD Tryd.prog 4 = some [.bool false] := by kernel_rfl
@[simp] theorem ty_zeroV4 : zeroValD Tryd.prog 4 = some (.bool false) := by kernel_rfl
@[simp] theorem ty_cells5 : Tryd.prog.cellsOf 5 = 1 := by kernel_rfl
@[simp] theorem ty_bytes5 : Tryd.prog.bytesOf 5 = 1 := by kernel_rfl
@[simp] theorem ty_zeroD5 : zeroD Tryd.prog 5 = some [.int .u8 0] := by kernel_rfl
@[simp] theorem ty_zeroV5 : zeroValD Tryd.prog 5 = some (.int .u8 0) := by kernel_rfl
@[simp] theorem ty_cells6 : Tryd.prog.cellsOf 6 = 1 := by kernel_rfl
@[simp] theorem ty_bytes6 : Tryd.prog.bytesOf 6 = 1 := by kernel_rfl
@[simp] theorem ty_zeroD6 : zeroD Tryd.prog 6 = some [.int .u8 0] := by kernel_rfl
@[simp] theorem ty_zeroV6 : zeroValD Tryd.prog 6 = some (.int .u8 0) := by kernel_rfl
@[simp] theorem ty_cells7 : Tryd.prog.cellsOf 7 = 4 := by kernel_rfl
@[simp] theorem ty_bytes7 : Tryd.prog.bytesOf 7 = 24 := by kernel_rfl
@[simp] theorem ty_zeroD7 : zeroD Tryd.prog 7 = some [.int .i64 0, .int .i64 0, .bool false, .int .u8 0] := by kernel_rfl
@[simp] theorem ty_zeroV7 : zeroValD Tryd.prog 7 = some (.agg [.int .i64 0, .int .i64 0, .bool false, .int .u8 0]) := by kernel_rfl
@[simp] theorem ty_isStruct7 : isStruct Tryd.prog 7 = true := by kernel_rfl
@[simp] theorem ty_field7_0 : fieldOf Tryd.prog 7 0 = some (0, 2) := by kernel_rfl
@[simp] theorem ty_field7_1 : fieldOf Tryd.prog 7 1 = some (1, 3) := by kernel_rfl
@[simp] theorem ty_field7_2 : fieldOf Tryd.prog 7 2 = some (2, 4) := by kernel_rfl
@[simp] theorem ty_field7_3 : fieldOf Tryd.prog 7 3 = some (3, 6) := by kernel_rfl
@[simp] theorem ty_cells8 : Tryd.prog.cellsOf 8 = 4 := by kernel_rfl
@[simp] theorem ty_bytes8 : Tryd.prog.bytesOf 8 = 24 := by kernel_rfl
@[simp] theorem ty_zeroD8 : zeroD Tryd.prog 8 = some [.int .i64 0, .int .i64 0, .bool false, .int .u8 0] := by kernel_rfl
@[simp] theorem ty_zeroV8 : zeroValD Tryd.prog 8 = some (.agg [.int .i64 0, .int .i64 0, .bool false, .int .u8 0]) := by kernel_rfl
@[simp] theorem ty_isStruct8 : isStruct Tryd.prog 8 = true := by kernel_rfl
@[simp] theorem ty_field8_0 : fieldOf Tryd.prog 8 0 = some (0, 2) := by kernel_rfl
@[simp] theorem ty_field8_1 : fieldOf Tryd.prog 8 1 = some (1, 3) := by kernel_rfl
@[simp] theorem ty_field8_2 : fieldOf Tryd.prog 8 2 = some (2, 4) := by kernel_rfl
@[simp] theorem ty_field8_3 : fieldOf Tryd.prog 8 3 = some (3, 6) := by kernel_rfl
@[simp] theorem ty_cells9 : Tryd.prog.cellsOf 9 = 1 := by kernel_rfl
@[simp] theorem ty_bytes9 : Tryd.prog.bytesOf 9 = 16 := by kernel_rfl
@[simp] theorem ty_zeroD9 : zeroD Tryd.prog 9 = some [.str []] := by kernel_rfl
@[simp] theorem ty_zeroV9 : zeroValD Tryd.prog 9 = some (.str []) := by kernel_rfl
@[simp] theorem ty_cells10 : Tryd.prog.cellsOf 10 = 1 := by kernel_rfl
@[simp] theorem ty_bytes10 : Tryd.prog.bytesOf 10 = 16 := by kernel_rfl
@[simp] theorem ty_zeroD10 : zeroD Tryd.prog 10 = some [.str []] := by kernel_rfl
@[simp] theorem ty_zeroV10 : zeroValD Tryd.prog 10 = some (.str []) := by kernel_rfl
@[simp] theorem ty_cells11 : Tryd.prog.cellsOf 11 = 1 := by kernel_rfl
@[simp] theorem ty_bytes11 : Tryd.prog.bytesOf 11 = 16 := by kernel_rfl
@[simp] theorem ty_zeroD11 : zeroD Tryd.prog 11 = some [.str []] := by kernel_rfl
@[simp] theorem ty_zeroV11 : zeroValD Tryd.prog 11 = some (.str []) := by kernel_rfl
@[simp] theorem ty_cells12 : Tryd.prog.cellsOf 12 = 1 := by kernel_rfl
@[simp] theorem ty_bytes12 : Tryd.prog.bytesOf 12 = 8 := by kernel_rfl
@[simp] theorem ty_zeroD12 : zeroD Tryd.prog 12 = some [.int .u64 0] := by kernel_rfl
@[simp] theorem ty_zeroV12 : zeroValD Tryd.prog 12 = some (.int .u64 0) := by kernel_rfl
@[simp] theorem ty_cells13 : Tryd.prog.cellsOf 13 = 2 := by kernel_rfl
@[simp] theorem ty_bytes13 : Tryd.prog.bytesOf 13 = 24 := by kernel_rfl
@[simp] theorem ty_zeroD13 : zeroD Tryd.prog 13 = some [.str [], .int .u64 0] := by kernel_rfl
@[simp] theorem ty_zeroV13 : zeroValD Tryd.prog 13 = some (.agg [.str [], .int .u64 0]) := by kernel_rfl
@[simp] theorem ty_isStruct13 : isStruct Tryd.prog 13 = true := by kernel_rfl
@[simp] theorem ty_field13_0 : fieldOf Tryd.prog 13 0 = some (0, 9) := by kernel_rfl
@[simp] theorem ty_field13_1 : fieldOf Tryd.prog 13 1 = some (1, 12) := by kernel_rfl
@[simp] theorem ty_cells14 : Tryd.prog.cellsOf 14 = 2 := by kernel_rfl
@[simp] theorem ty_bytes14 : Tryd.prog.bytesOf 14 = 24 := by kernel_rfl
@[simp] theorem ty_zeroD14 : zeroD Tryd.prog 14 = some [.str [], .int .u64 0] := by kernel_rfl
@[simp] theorem ty_zeroV14 : zeroValD Tryd.prog 14 = some (.agg [.str [], .int .u64 0]) := by kernel_rfl
@[simp] theorem ty_isStruct14 : isStruct Tryd.prog 14 = true := by kernel_rfl
@[simp] theorem ty_field14_0 : fieldOf Tryd.prog 14 0 = some (0, 9) := by kernel_rfl
@[simp] theorem ty_field14_1 : fieldOf Tryd.prog 14 1 = some (1, 12) := by kernel_rfl
@[simp] theorem ty_cells15 : Tryd.prog.cellsOf 15 = 1 := by kernel_rfl
@[simp] theorem ty_bytes15 : Tryd.prog.bytesOf 15 = 8 := by kernel_rfl
@[simp] theorem ty_zeroD15 : zeroD Tryd.prog 15 = none := by kernel_rfl
@[simp] theorem ty_zeroC15 : zeroC Tryd.prog 15 = some [.nilp 15] := by kernel_rfl
@[simp] theorem ty_zeroO15 : zeroO Tryd.prog 15 = some [.undef] := by kernel_rfl
@[simp] theorem ty_cells16 : Tryd.prog.cellsOf 16 = 1 := by kernel_rfl
@[simp] theorem ty_bytes16 : Tryd.prog.bytesOf 16 = 8 := by kernel_rfl
@[simp] theorem ty_zeroD16 : zeroD Tryd.prog 16 = none := by kernel_rfl
@[simp] theorem ty_zeroC16 : zeroC Tryd.prog 16 = some [.nilp 16] := by kernel_rfl
@[simp] theorem ty_zeroO16 : zeroO Tryd.prog 16 = some [.undef] := by kernel_rfl
@[simp] theorem ty_cells17 : Tryd.prog.cellsOf 17 = 1 := by kernel_rfl
@[simp] theorem ty_bytes17 : Tryd.prog.bytesOf 17 = 8 := by kernel_rfl
@[simp] theorem ty_zeroD17 : zeroD Tryd.prog 17 = none := by kernel_rfl
@[simp] theorem ty_zeroC17 : zeroC Tryd.prog 17 = some [.nilp 17] := by kernel_rfl
@[simp] theorem ty_zeroO17 : zeroO Tryd.prog 17 = some [.undef] := by kernel_rfl
@[simp] theorem ty_cells18 : Tryd.prog.cellsOf 18 = 1 := by kernel_rfl
@[simp] theorem ty_bytes18 : Tryd.prog.bytesOf 18 = 8 := by kernel_rfl
@[simp] theorem ty_zeroD18 : zeroD Tryd.prog 18 = none := by kernel_rfl
@[simp] theorem ty_zeroC18 : zeroC Tryd.prog 18 = some [.nilp 18] := by kernel_rfl
@[simp] theorem ty_zeroO18 : zeroO Tryd.prog 18 = some [.undef] := by kernel_rfl
@[simp] theorem ty_field18_0 : fieldOf Tryd.prog 18 0 = some (0, 17) := by kernel_rfl
@[simp] theorem ty_cells19 : Tryd.prog.cellsOf 19 = 1 := by kernel_rfl
@[simp] theorem ty_bytes19 : Tryd.prog.bytesOf 19 = 8 := by kernel_rfl
@[simp] theorem ty_zeroD19 : zeroD Tryd.prog 19 = none := by kernel_rfl
@[simp] theorem ty_zeroC19 : zeroC Tryd.prog 19 = some [.nilp 19] := by kernel_rfl
@[simp] theorem ty_zeroO19 : zeroO Tryd.prog 19 = some [.undef] := by kernel_rfl
@[simp] theorem ty_field19_0 : fieldOf Tryd.prog 19 0 = some (0, 17) := by kernel_rfl
@[simp] theorem ty_zeroD20 : zeroD Tryd.prog 20 = none := by kernel_rfl
@[simp] theorem ty_zeroC20 : zeroC Tryd.prog 20 = some [.undef] := by kernel_rfl
@[simp] theorem ty_zeroO20 : zeroO Tryd.prog 20 = some [.undef] := by kernel_rfl
@[simp] theorem ty_cells21 : Tryd.prog.cellsOf 21 = 1 := by kernel_rfl
@[simp] theorem ty_bytes21 : Tryd.prog.bytesOf 21 = 4 := by kernel_rfl
@[simp] theorem ty_zeroD21 : zeroD Tryd.prog 21 = some [.int .i32 0] := by kernel_rfl
@[simp] theorem ty_zeroV21 : zeroValD Tryd.prog 21 = some (.int .i32 0) := by kernel_rfl
@[simp] theorem ty_cells22 : Tryd.prog.cellsOf 22 = 1 := by kernel_rfl
@[simp] theorem ty_bytes22 : Tryd.prog.bytesOf 22 = 24 := by kernel_rfl
@[simp] theorem ty_zeroD22 : zeroD Tryd.prog 22 = some [.nils] := by kernel_rfl
@[simp] theorem ty_zeroV22 : zeroValD Tryd.prog 22 = some (.nils) := by kernel_rfl
@[simp] theorem ty_elem22 : elemOfD Tryd.prog 22 = some 88 := by kernel_rfl
@[simp] theorem ty_cells23 : Tryd.prog.cellsOf 23 = 1 := by kernel_rfl
@[simp] theorem ty_bytes23 : Tryd.prog.bytesOf 23 = 24 := by kernel_rfl
@[simp] theorem ty_zeroD23 : zeroD Tryd.prog 23 = some [.nils] := by kernel_rfl
@[simp] theorem ty_zeroV23 : zeroValD Tryd.prog 23 = some (.nils) := by kernel_rfl
@[simp] theorem ty_elem23 : elemOfD Tryd.prog 23 = some 194 := by kernel_rfl
@[simp] theorem ty_cells24 : Tryd.prog.cellsOf 24 = 1 := by kernel_rfl
@[simp] theorem ty_bytes24 : Tryd.prog.bytesOf 24 = 24 := by kernel_rfl
@[simp] theorem ty_zeroD24 : zeroD Tryd.prog 24 = some [.nils] := by kernel_rfl
@[simp] theorem ty_zeroV24 : zeroValD Tryd.prog 24 = some (.nils) := by kernel_rfl
@[simp] theorem ty_elem24 : elemOfD Tryd.prog 24 = some 196 := by kernel_rfl
@[simp] theorem ty_cells25 : Tryd.prog.cellsOf 25 = 1 := by kernel_rfl
@[simp] theorem ty_bytes25 : Tryd.prog.bytesOf 25 = 24 := by kernel_rfl
@[simp] theorem ty_zeroD25 : zeroD Tryd.prog 25 = some [.nils] := by kernel_rfl
@[simp] theorem ty_zeroV25 : zeroValD Tryd.prog 25 = some (.nils) := by kernel_rfl
@[simp] theorem ty_elem25 : elemOfD Tryd.prog 25 = some 199 := by kernel_rfl
@[simp] theorem ty_cells26 : Tryd.prog.cellsOf 26 = 1 := by kernel_rfl
@[simp] theorem ty_bytes26 : Tryd.prog.bytesOf 26 = 24 := by kernel_rfl
@[simp] theorem ty_zeroD26 : zeroD Tryd.prog 26 = some [.nils] := by kernel_rfl
@[simp] theorem ty_zeroV26 : zeroValD Tryd.prog 26 = some (.nils) := by kernel_rfl
@[simp] theorem ty_elem26 : elemOfD Tryd.prog 26 = some 201 := by kernel_rfl
@[simp] theorem ty_cells27 : Tryd.prog.cellsOf 27 = 1 := by kernel_rfl
@[simp] theorem ty_bytes27 : Tryd.prog.bytesOf 27 = 24 := by kernel_rfl
@[simp] theorem ty_zeroD27 : zeroD Tryd.prog 27 = some [.nils] := by kernel_rfl
@[simp] theorem ty_zeroV27 : zeroValD Tryd.prog 27 = some (.nils) := by kernel_rfl
@[simp] theorem ty_elem27 : elemOfD Tryd.prog 27 = some 66 := by kernel_rfl
@[simp] theorem ty_cells28 : Tryd.prog.cellsOf 28 = 6 := by kernel_rfl
@[simp] theorem ty_bytes28 : Tryd.prog.bytesOf 28 = 144 := by kernel_rfl
@[simp] theorem ty_zeroD28 : zeroD Tryd.prog 28 = some [.nils, .nils, .nils, .nils, .nils, .nils] := by kernel_rfl
@[simp] theorem ty_zeroV28 : zeroValD Tryd.prog 28 = some (.agg [.nils, .nils, .nils, .nils, .nils, .nils]) := by kernel_rfl
@[simp] theorem ty_isStruct28 : isStruct Tryd.prog 28 = true := by kernel_rfl
@[simp] theorem ty_field28_0 : fieldOf Tryd.prog 28 0 = some (0, 22) := by kernel_rfl
@[simp] theorem ty_field28_1 : fieldOf Tryd.prog 28 1 = some (1, 23) := by kernel_rfl
@[simp] theorem ty_field28_2 : fieldOf Tryd.prog 28 2 = some (2, 24) := by kernel_rfl
@[simp] theorem ty_field28_3 : fieldOf Tryd.prog 28 3 = some (3, 25) := by kernel_rfl
@[simp] theorem ty_field28_4 : fieldOf Tryd.prog 28 4 = some (4, 26) := by kernel_rfl
@[simp] theorem ty_field28_5 : fieldOf Tryd.prog 28 5 = some (5, 27) := by kernel_rfl
@[simp] theorem ty_cells29 : Tryd.prog.cellsOf 29 = 6 := by kernel_rfl
@[simp] theorem ty_bytes29 : Tryd.prog.bytesOf 29 = 144 := by kernel_rfl
@[simp] theorem ty_zeroD29 : zeroD Tryd.prog 29 = some [.nils, .nils, .nils, .nils, .nils, .nils] := by kernel_rfl
@[simp] theorem ty_zeroV29 : zeroValD Tryd.prog 29 = some (.agg [.nils, .nils, .nils, .nils, .nils, .nils]) := by kernel_rfl
@[simp] theorem ty_isStruct29 : isStruct Tryd.prog 29 = true := by kernel_rfl
@[simp] theorem ty_field29_0 : fieldOf Tryd.prog 29 0 = some (0, 22) := by kernel_rfl
@[simp] theorem ty_field29_1 : fieldOf Tryd.prog 29 1 = some (1, 23) := by kernel_rfl
@[simp] theorem ty_field29_2 : fieldOf Tryd.prog 29 2 = some (2, 24) := by kernel_rfl
@[simp] theorem ty_field29_3 : fieldOf Tryd.prog 29 3 = some (3, 25) := by kernel_rfl
@[simp] theorem ty_field29_4 : fieldOf Tryd.prog 29 4 = some (4, 26) := by kernel_rfl
@[simp] theorem ty_field29_5 : fieldOf Tryd.prog 29 5 = some (5, 27) := by kernel_rfl
@[simp] theorem ty_cells30 : Tryd.prog.cellsOf 30 = 1 := by kernel_rfl
@[simp] theorem ty_bytes30 : Tryd.prog.bytesOf 30 = 8 := by kernel_rfl
@[simp] theorem ty_zeroD30 : zeroD Tryd.prog 30 = some [.int .i64 0] := by kernel_rfl
@[simp] theorem ty_zeroV30 : zeroValD Tryd.prog 30 = some (.int .i64 0) := by kernel_rfl
@[simp] theorem ty_cells31 : Tryd.prog.cellsOf 31 = 1 := by kernel_rfl
@[simp] theorem ty_bytes31 : Tryd.prog.bytesOf 31 = 24 := by kernel_rfl
@[simp] theorem ty_zeroD31 : zeroD Tryd.prog 31 = some [.nils] := by kernel_rfl
@[simp] theorem ty_zeroV31 : zeroValD Tryd.prog 31 = some (.nils) := by kernel_rfl
@[simp] theorem ty_elem31 : elemOfD Tryd.prog 31 = some 38 := by kernel_rfl
@[simp] theorem ty_cells32 : Tryd.prog.cellsOf 32 = 1 := by kernel_rfl
@[simp] theorem ty_bytes32 : Tryd.prog.bytesOf 32 = 24 := by kernel_rfl
@[simp] theorem ty_zeroD32 : zeroD Tryd.prog 32 = some [.nils] := by kernel_rfl
@[simp] theorem ty_zeroV32 : zeroValD Tryd.prog 32 = some (.nils) := by kernel_rfl
@[simp] theorem ty_elem32 : elemOfD Tryd.prog 32 = some 9 := by kernel_rfl
@[simp] theorem ty_cells33 : Tryd.prog.cellsOf 33 = 1 := by kernel_rfl
@[simp] theorem ty_bytes33 : Tryd.prog.bytesOf 33 = 8 := by kernel_rfl
@[simp] theorem ty_zeroD33 : zeroD Tryd.prog 33 = some [.int .i64 0] := by kernel_rfl
@[simp] theorem ty_zeroV33 : zeroValD Tryd.prog 33 = some (.int .i64 0) := by kernel_rfl
@[simp] theorem ty_cells34 : Tryd.prog.cellsOf 34 = 1 := by kernel_rfl
@[simp] theorem ty_bytes34 : Tryd.prog.bytesOf 34 = 24 := by kernel_rfl
@[simp] theorem ty_zeroD34 : zeroD Tryd.prog 34 = some [.nils] := by kernel_rfl
@[simp] theorem ty_zeroV34 : zeroValD Tryd.prog 34 = some (.nils) := by kernel_rfl
@[simp] theorem ty_elem34 : elemOfD Tryd.prog 34 = some 36 := by kernel_rfl
@[simp] theorem ty_cells35 : Tryd.prog.cellsOf 35 = 4 := by kernel_rfl
@[simp] theorem ty_bytes35 : Tryd.prog.bytesOf 35 = 56 := by kernel_rfl
@[simp] theorem ty_zeroD35 : zeroD Tryd.prog 35 = some [.int .i64 0, .str [], .int .i64 0, .nils] := by kernel_rfl
@[simp] theorem ty_zeroV35 : zeroValD Tryd.prog 35 = some (.agg [.int .i64 0, .str [], .int .i64 0, .nils]) := by kernel_rfl
@[simp] theorem ty_isStruct35 : isStruct Tryd.prog 35 = true := by kernel_rfl
@[simp] theorem ty_field35_0 : fieldOf Tryd.prog 35 0 = some (0, 33) := by kernel_rfl
@[simp] theorem ty_field35_1 : fieldOf Tryd.prog 35 1 = some (1, 9) := by kernel_rfl
@[simp] theorem ty_field35_2 : fieldOf Tryd.prog 35 2 = some (2, 3) := by kernel_rfl
@[simp] theorem ty_field35_3 : fieldOf Tryd.prog 35 3 = some (3, 34) := by kernel_rfl
@[simp] theorem ty_cells36 : Tryd.prog.cellsOf 36 = 4 := by kernel_rfl
@[simp] theorem ty_bytes36 : Tryd.prog.bytesOf 36 = 56 := by kernel_rfl
@[simp] theorem ty_zeroD36 : zeroD Tryd.prog 36 = some [.int .i64 0, .str [], .int .i64 0, .nils] := by kernel_rfl
@[simp] theorem ty_zeroV36 : zeroValD Tryd.prog 36 = some (.agg [.int .i64 0, .str [], .int .i64 0, .nils]) := by kernel_rfl
@[simp] theorem ty_isStruct36 : isStruct Tryd.prog 36 = true := by kernel_rfl
@[simp] theorem ty_field36_0 : fieldOf Tryd.prog 36 0 = some (0, 33) := by kernel_rfl
@[simp] theorem ty_field36_1 : fieldOf Tryd.prog 36 1 = some (1, 9) := by kernel_rfl
@[simp] theorem ty_field36_2 : fieldOf Tryd.prog 36 2 = some (2, 3) := by kernel_rfl
@[simp] theorem ty_field36_3 : fieldOf Tryd.prog 36 3 = some (3, 34) := by kernel_rfl
@[simp] theorem ty_cells37 : Tryd.prog.cellsOf 37 = 9 := by kernel_rfl
@[simp] theorem ty_bytes37 : Tryd.prog.bytesOf 37 = 152 := by kernel_rfl
@[simp] theorem ty_zeroD37 : zeroD Tryd.prog 37 = some [.int .i64 0, .str [], .nils, .nils, .int .i64 0, .str [], .int .i64 0, .nils, .nils] := by kernel_rfl
@[simp] theorem ty_zeroV37 : zeroValD Tryd.prog 37 = some (.agg [.int .i64 0, .str [], .nils, .nils, .int .i64 0, .str [], .int .i64 0, .nils, .nils]) := by kernel_rfl
@[simp] theorem ty_isStruct37 : isStruct Tryd.prog 37 = true := by kernel_rfl
@[simp] theorem ty_field37_0 : fieldOf Tryd.prog 37 0 = some (0, 30) := by kernel_rfl
@[simp] theorem ty_field37_1 : fieldOf Tryd.prog 37 1 = some (1, 9) := by kernel_rfl
@[simp] theorem ty_field37_2 : fieldOf Tryd.prog 37 2 = some (2, 31) := by kernel_rfl
@[simp] theorem ty_field37_3 : fieldOf Tryd.prog 37 3 = some (3, 32) := by kernel_rfl
@[simp] theorem ty_field37_4 : fieldOf Tryd.prog 37 4 = some (4, 36) := by kernel_rfl
@[simp] theorem ty_field37_5 : fieldOf Tryd.prog 37 5 = some (8, 34) := by kernel_rfl
@[simp] theorem ty_cells38 : Tryd.prog.cellsOf 38 = 9 := by kernel_rfl
@[simp] theorem ty_bytes38 : Tryd.prog.bytesOf 38 = 152 := by kernel_rfl
@[simp] theorem ty_zeroD38 : zeroD Tryd.prog 38 = some [.int .i64 0, .str [], .nils, .nils, .int .i64 0, .str [], .int .i64 0, .nils, .nils] := by kernel_rfl
@[simp] theorem ty_zeroV38 : zeroValD Tryd.prog 38 = some (.agg [.int .i64 0, .str [], .nils, .nils, .int .i64 0, .str [], .int .i64 0, .nils, .nils]) := by kernel_rfl
@[simp] theorem ty_isStruct38 : isStruct Tryd.prog 38 = true := by kernel_rfl
@[simp] theorem ty_field38_0 : fieldOf Tryd.prog 38 0 = some (0, 30) := by kernel_rfl
@[simp] theorem ty_field38_1 : fieldOf Tryd.prog 38 1 = some (1, 9) := by kernel_rfl
@[simp] theorem ty_field38_2 : fieldOf Tryd.prog 38 2 = some (2, 31) := by kernel_rfl
@[simp] theorem ty_field38_3 : fieldOf Tryd.prog 38 3 = some (3, 32) := by kernel_rfl
@[simp] theorem ty_field38_4 : fieldOf Tryd.prog 38 4 = some (4, 36) := by kernel_rfl
@[simp] theorem ty_field38_5 : fieldOf Tryd.prog 38 5 = some (8, 34) := by kernel_rfl
@[simp] theorem ty_cells39 : Tryd.prog.cellsOf 39 = 1 := by kernel_rfl
@[simp] theorem ty_bytes39 : Tryd.prog.bytesOf 39 = 24 := by kernel_rfl
@[simp] theorem ty_zeroD39 : zeroD Tryd.prog 39 = some [.nils] := by kernel_rfl
@[simp] theorem ty_zeroV39 : zeroValD Tryd.prog 39 = some (.nils) := by kernel_rfl
@[simp] theorem ty_elem39 : elemOfD Tryd.prog 39 = some 76 := by kernel_rfl
@[simp] theorem ty_cells40 : Tryd.prog.cellsOf 40 = 2 := by kernel_rfl
@[simp] theorem ty_bytes40 : Tryd.prog.bytesOf 40 = 40 := by kernel_rfl
@[simp] theorem ty_zeroD40 : zeroD Tryd.prog 40 = some [.str [], .nils] := by kernel_rfl
@[simp] theorem ty_zeroV40 : zeroValD Tryd.prog 40 = some (.agg [.str [], .nils]) := by kernel_rfl
@[simp] theorem ty_isStruct40 : isStruct Tryd.prog 40 = true := by kernel_rfl
@[simp] theorem ty_field40_0 : fieldOf Tryd.prog 40 0 = some (0, 9) := by kernel_rfl
@[simp] theorem ty_field40_1 : fieldOf Tryd.prog 40 1 = some (1, 39) := by kernel_rfl
@[simp] theorem ty_cells41 : Tryd.prog.cellsOf 41 = 2 := by kernel_rfl
@[simp] theorem ty_bytes41 : Tryd.prog.bytesOf 41 = 40 := by kernel_rfl
@[simp] theorem ty_zeroD41 : zeroD Tryd.prog 41 = some [.str [], .nils] := by kernel_rfl
@[simp] theorem ty_zeroV41 : zeroValD Tryd.prog 41 = some (.agg [.str [], .nils]) := by kernel_rfl
@[simp] theorem ty_isStruct41 : isStruct Tryd.prog 41 = true := by kernel_rfl
@[simp] theorem ty_field41_0 : fieldOf Tryd.prog 41 0 = some (0, 9) := by kernel_rfl
@[simp] theorem ty_field41_1 : fieldOf Tryd.prog 41 1 = some (1, 39) := by kernel_rfl
@[simp] theorem ty_cells42 : Tryd.prog.cellsOf 42 = 1 := by kernel_rfl
@[simp] theorem ty_bytes42 : Tryd.prog.bytesOf 42 = 8 := by kernel_rfl
@[simp] theorem ty_zeroD42 : zeroD Tryd.prog 42 = none := by kernel_rfl
@[simp] theorem ty_zeroC42 : zeroC Tryd.prog 42 = some [.undef] := by kernel_rfl
@[simp] theorem ty_zeroO42 : zeroO Tryd.prog 42 = some [.undef] := by kernel_rfl
@[simp] theorem ty_cells43 : Tryd.prog.cellsOf 43 = 1 := by kernel_rfl
@[simp] theorem ty_bytes43 : Tryd.prog.bytesOf 43 = 8 := by kernel_rfl
@[simp] theorem ty_zeroD43 : zeroD Tryd.prog 43 = none := by kernel_rfl
@[simp] theorem ty_zeroC43 : zeroC Tryd.prog 43 = some [.undef] := by kernel_rfl
@[simp] theorem ty_zeroO43 : zeroO Tryd.prog 43 = some [.undef] := by kernel_rfl
@[simp] theorem ty_cells44 : Tryd.prog.cellsOf 44 = 1 := by kernel_rfl
@[simp] theorem ty_bytes44 : Tryd.prog.bytesOf 44 = 24 := by kernel_rfl
@[simp] theorem ty_zeroD44 : zeroD Tryd.prog 44 = some [.nils] := by kernel_rfl
@[simp] theorem ty_zeroV44 : zeroValD Tryd.prog 44 = some (.nils) := by kernel_rfl
@[simp] theorem ty_elem44 : elemOfD Tryd.prog 44 = some 73 := by kernel_rfl
@[simp] theorem ty_cells46 : Tryd.prog.cellsOf 46 = 1 := by kernel_rfl
@[simp] theorem ty_bytes46 : Tryd.prog.bytesOf 46 = 8 := by kernel_rfl
@[simp] theorem ty_zeroD46 : zeroD Tryd.prog 46 = none := by kernel_rfl
@[simp] theorem ty_zeroC46 : zeroC Tryd.prog 46 = some [.undef] := by kernel_rfl
@[simp] theorem ty_zeroO46 : zeroO Tryd.prog 46 = some [.undef] := by kernel_rfl
@[simp] theorem ty_cells47 : Tryd.prog.cellsOf 47 = 1 := by kernel_rfl
@[simp] theorem ty_bytes47 : Tryd.prog.bytesOf 47 = 8 := by kernel_rfl
@[simp] theorem ty_zeroD47 : zeroD Tryd.prog 47 = none := by kernel_rfl
@[simp] theorem ty_zeroC47 : zeroC Tryd.prog 47 = some [.undef] := by kernel_rfl
@[simp] theorem ty_zeroO47 : zeroO Tryd.prog 47 = some [.undef] := by kernel_rfl
@[simp] theorem ty_cells48 : Tryd.prog.cellsOf 48 = 1 := by kernel_rfl
@[simp] theorem ty_bytes48 : Tryd.prog.bytesOf 48 = 8 := by kernel_rfl
@[simp] theorem ty_zeroD48 : zeroD Tryd.prog 48 = none := by kernel_rfl
@[simp] theorem ty_zeroC48 : zeroC Tryd.prog 48 = some [.undef] := by kernel_rfl
@[simp] theorem ty_zeroO48 : zeroO Tryd.prog 48 = some [.undef] := by kernel_rfl
@[simp] theorem ty_cells49 : Tryd.prog.cellsOf 49 = 1 := by kernel_rfl
@[simp] theorem ty_bytes49 : Tryd.prog.bytesOf 49 = 8 := by kernel_rfl
@[simp] theorem ty_zeroD49 : zeroD Tryd.prog 49 = none := by kernel_rfl
@[simp] theorem ty_zeroC49 : zeroC Tryd.prog 49 = some [.undef] := by kernel_rfl
@[simp] theorem ty_zeroO49 : zeroO Tryd.prog 49 = some [.undef] := by kernel_rfl
@[simp] theorem ty_cells50 : Tryd.prog.cellsOf 50 = 1 := by kernel_rfl
@[simp] theorem ty_bytes50 : Tryd.prog.bytesOf 50 = 8 := by kernel_rfl
@[simp] theorem ty_zeroD50 : zeroD Tryd.prog 50 = none := by kernel_rfl
@[simp] theorem ty_zeroC50 : zeroC Tryd.prog 50 = some [.undef] := by kernel_rfl
@[simp] theorem ty_zeroO50 : zeroO Tryd.prog 50 = some [.undef] := by kernel_rfl
@[simp] theorem ty_cells51 : Tryd.prog.cellsOf 51 = 1 := by kernel_rfl
@[simp] theorem ty_bytes51 : Tryd.prog.bytesOf 51 = 8 := by kernel_rfl
@[simp] theorem ty_zeroD51 : zeroD Tryd.prog 51 = none := by kernel_rfl
@[simp] theorem ty_zeroC51 : zeroC Tryd.prog 51 = some [.undef] := by kernel_rfl
@[simp] theorem ty_zeroO51 : zeroO Tryd.prog 51 = some [.undef] := by kernel_rfl
@[simp] theorem ty_cells52 : Tryd.prog.cellsOf 52 = 1 := by kernel_rfl
@[simp] theorem ty_bytes52 : Tryd.prog.bytesOf 52 = 8 := by kernel_rfl
@[simp] theorem ty_zeroD52 : zeroD Tryd.prog 52 = none := by kernel_rfl
@[simp] theorem ty_zeroC52 : zeroC Tryd.prog 52 = some [.undef] := by kernel_rfl
@[simp] theorem ty_zeroO52 : zeroO Tryd.prog 52 = some [.undef] := by kernel_rfl
@[simp] theorem ty_cells53 : Tryd.prog.cellsOf 53 = 1 := by kernel_rfl
@[simp] theorem ty_bytes53 : Tryd.prog.bytesOf 53 = 8 := by kernel_rfl
@[simp] theorem ty_zeroD53 : zeroD Tryd.prog 53 = some [.int .i64 0] := by kernel_rfl
@[simp] theorem ty_zeroV53 : zeroValD Tryd.prog 53 = some (.int .i64 0) := by kernel_rfl
@[simp] theorem ty_cells54 : Tryd.prog.cellsOf 54 = 1 := by kernel_rfl
@[simp] theorem ty_bytes54 : Tryd.prog.bytesOf 54 = 24 := by kernel_rfl
@[simp] theorem ty_zeroD54 : zeroD Tryd.prog 54 = some [.nils] := by kernel_rfl
@[simp] theorem ty_zeroV54 : zeroValD Tryd.prog 54 = some (.nils) := by kernel_rfl
@[simp] theorem ty_elem54 : elemOfD Tryd.prog 54 = some 58 := by kernel_rfl
@[simp] theorem ty_cells55 : Tryd.prog.cellsOf 55 = 1 := by kernel_rfl
@[simp] theorem ty_bytes55 : Tryd.prog.bytesOf 55 = 24 := by kernel_rfl
@[simp] theorem ty_zeroD55 : zeroD Tryd.prog 55 = some [.nils] := by kernel_rfl
@[simp] theorem ty_zeroV55 : zeroValD Tryd.prog 55 = some (.nils) := by kernel_rfl
@[simp] theorem ty_elem55 : elemOfD Tryd.prog 55 = some 203 := by kernel_rfl
@[simp] theorem ty_cells56 : Tryd.prog.cellsOf 56 = 1 := by kernel_rfl
@[simp] theorem ty_bytes56 : Tryd.prog.bytesOf 56 = 24 := by kernel_rfl
@[simp] theorem ty_zeroD56 : zeroD Tryd.prog 56 = some [.nils] := by kernel_rfl
@[simp] theorem ty_zeroV56 : zeroValD Tryd.prog 56 = some (.nils) := by kernel_rfl
@[simp] theorem ty_elem56 : elemOfD Tryd.prog 56 = some 205 := by kernel_rfl
@[simp] theorem ty_cells57 : Tryd.prog.cellsOf 57 = 7 := by kernel_rfl
@[simp] theorem ty_bytes57 : Tryd.prog.bytesOf 57 = 128 := by kernel_rfl
@[simp] theorem ty_zeroD57 : zeroD Tryd.prog 57 = some [.int .i64 0, .str [], .int .i64 0, .nils, .nils, .nils, .nils] := by kernel_rfl
@[simp] theorem ty_zeroV57 : zeroValD Tryd.prog 57 = some (.agg [.int .i64 0, .str [], .int .i64 0, .nils, .nils, .nils, .nils]) := by kernel_rfl
@[simp] theorem ty_isStruct57 : isStruct Tryd.prog 57 = true := by kernel_rfl
@[simp] theorem ty_field57_0 : fieldOf Tryd.prog 57 0 = some (0, 53) := by kernel_rfl
@[simp] theorem ty_field57_1 : fieldOf Tryd.prog 57 1 = some (1, 9) := by kernel_rfl
@[simp] theorem ty_field57_2 : fieldOf Tryd.prog 57 2 = some (2, 3) := by kernel_rfl
@[simp] theorem ty_field57_3 : fieldOf Tryd.prog 57 3 = some (3, 54) := by kernel_rfl
@[simp] theorem ty_field57_4 : fieldOf Tryd.prog 57 4 = some (4, 55) := by kernel_rfl
@[simp] theorem ty_field57_5 : fieldOf Tryd.prog 57 5 = some (5, 56) := by kernel_rfl
@[simp] theorem ty_field57_6 : fieldOf Tryd.prog 57 6 = some (6, 31) := by kernel_rfl
@[simp] theorem ty_cells58 : Tryd.prog.cellsOf 58 = 7 := by kernel_rfl
@[simp] theorem ty_bytes58 : Tryd.prog.bytesOf 58 = 128 := by kernel_rfl
@[simp] theorem ty_zeroD58 : zeroD Tryd.prog 58 = some [.int .i64 0, .str [], .int .i64 0, .nils, .nils, .nils, .nils] := by kernel_rfl
@[simp] theorem ty_zeroV58 : zeroValD Tryd.prog 58 = some (.agg [.int .i64 0, .str [], .int .i64 0, .nils, .nils, .nils, .nils]) := by kernel_rfl
@[simp] theorem ty_isStruct58 : isStruct Tryd.prog 58 = true := by kernel_rfl
@[simp] theorem ty_field58_0 : fieldOf Tryd.prog 58 0 = some (0, 53) := by kernel_rfl
@[simp] theorem ty_field58_1 : fieldOf Tryd.prog 58 1 = some (1, 9) := by kernel_rfl
@[simp] theorem ty_field58_2 : fieldOf Tryd.prog 58 2 = some (2, 3) := by kernel_rfl
@[simp] theorem ty_field58_3 : fieldOf Tryd.prog 58 3 = some (3, 54) := by kernel_rfl
@[simp] theorem ty_field58_4 : fieldOf Tryd.prog 58 4 = some (4, 55) := by kernel_rfl
@[simp] theorem ty_field58_5 : fieldOf Tryd.prog 58 5 = some (5, 56) := by kernel_rfl
@[simp] theorem ty_field58_6 : fieldOf Tryd.prog 58 6 = some (6, 31) := by kernel_rfl
@[simp] theorem ty_cells59 : Tryd.prog.cellsOf 59 = 1 := by kernel_rfl
@[simp] theorem ty_bytes59 : Tryd.prog.bytesOf 59 = 8 := by kernel_rfl
@[simp] theorem ty_zeroD59 : zeroD Tryd.prog 59 = some [.int .i64 0] := by kernel_rfl
@[simp] theorem ty_zeroV59 : zeroValD Tryd.prog 59 = some (.int .i64 0) := by kernel_rfl
@[simp] theorem ty_cells60 : Tryd.prog.cellsOf 60 = 1 := by kernel_rfl
@[simp] theorem ty_bytes60 : Tryd.prog.bytesOf 60 = 24 := by kernel_rfl
@[simp] theorem ty_zeroD60 : zeroD Tryd.prog 60 = some [.nils] := by kernel_rfl
@[simp] theorem ty_zeroV60 : zeroValD Tryd.prog 60 = some (.nils) := by kernel_rfl
@[simp] theorem ty_elem60 : elemOfD Tryd.prog 60 = some 207 := by kernel_rfl
@[simp] theorem ty_cells61 : Tryd.prog.cellsOf 61 = 1 := by kernel_rfl
@[simp] theorem ty_bytes61 : Tryd.prog.bytesOf 61 = 24 := by kernel_rfl
@[simp] theorem ty_zeroD61 : zeroD Tryd.prog 61 = some [.nils] := by kernel_rfl
@[simp] theorem ty_zeroV61 : zeroValD Tryd.prog 61 = some (.nils) := by kernel_rfl
@[simp] theorem ty_elem61 : elemOfD Tryd.prog 61 = some 208 := by kernel_rfl
@[simp] theorem ty_cells62 : Tryd.prog.cellsOf 62 = 1 := by kernel_rfl
@[simp] theorem ty_bytes62 : Tryd.prog.bytesOf 62 = 24 := by kernel_rfl
@[simp] theorem ty_zeroD62 : zeroD Tryd.prog 62 = some [.nils] := by kernel_rfl
@[simp] theorem ty_zeroV62 : zeroValD Tryd.prog 62 = some (.nils) := by kernel_rfl
@[simp] theorem ty_elem62 : elemOfD Tryd.prog 62 = some 210 := by kernel_rfl
@[simp] theorem ty_cells63 : Tryd.prog.cellsOf 63 = 14 := by kernel_rfl
@[simp] theorem ty_bytes63 : Tryd.prog.bytesOf 63 = 272 := by kernel_rfl
@[simp] theorem ty_zeroD63 : zeroD Tryd.prog 63 = some [.nils, .nils, .nils, .nils, .int .i64 0, .str [], .nils, .nils, .int .i64 0, .str [], .int .i64 0, .nils, .nils, .nils] := by kernel_rfl
@[simp] theorem ty_zeroV63 : zeroValD Tryd.prog 63 = some (.agg [.nils, .nils, .nils, .nils, .int .i64 0, .str [], .nils, .nils, .int .i64 0, .str [], .int .i64 0, .nils, .nils, .nils]) := by kernel_rfl
@[simp] theorem ty_isStruct63 : isStruct Tryd.prog 63 = true := by kernel_rfl
@[simp] theorem ty_field63_0 : fieldOf Tryd.prog 63 0 = some (0, 32) := by kernel_rfl
@[simp] theorem ty_field63_1 : fieldOf Tryd.prog 63 1 = some (1, 60) := by kernel_rfl
@[simp] theorem ty_field63_2 : fieldOf Tryd.prog 63 2 = some (2, 61) := by kernel_rfl
@[simp] theorem ty_field63_3 : fieldOf Tryd.prog 63 3 = some (3, 62) := by kernel_rfl
@[simp] theorem ty_field63_4 : fieldOf Tryd.prog 63 4 = some (4, 38) := by kernel_rfl
@[simp] theorem ty_field63_5 : fieldOf Tryd.prog 63 5 = some (13, 34) := by kernel_rfl
@[simp] theorem ty_cells64 : Tryd.prog.cellsOf 64 = 14 := by kernel_rfl
@[simp] theorem ty_bytes64 : Tryd.prog.bytesOf 64 = 272 := by kernel_rfl
@[simp] theorem ty_zeroD64 : zeroD Tryd.prog 64 = some [.nils, .nils, .nils, .nils, .int .i64 0, .str [], .nils, .nils, .int .i64 0, .str [], .int .i64 0, .nils, .nils, .nils] := by kernel_rfl
@[simp] theorem ty_zeroV64 : zeroValD Tryd.prog 64 = some (.agg [.nils, .nils, .nils, .nils, .int .i64 0, .str [], .nils, .nils, .int .i64 0, .str [], .int .i64 0, .nils, .nils, .nils]) := by kernel_rfl
@[simp] theorem ty_isStruct64 : isStruct Tryd.prog 64 = true := by kernel_rfl
@[simp] theorem ty_field64_0 : fieldOf Tryd.prog 64 0 = some (0, 32) := by kernel_rfl
@[simp] theorem ty_field64_1 : fieldOf Tryd.prog 64 1 = some (1, 60) := by kernel_rfl
@[simp] theorem ty_field64_2 : fieldOf Tryd.prog 64 2 = some (2, 61) := by kernel_rfl
@[simp] theorem ty_field64_3 : fieldOf Tryd.prog 64 3 = some (3, 62) := by kernel_rfl
@[simp] theorem ty_field64_4 : fieldOf Tryd.prog 64 4 = some (4, 38) := by kernel_rfl
@[simp] theorem ty_field64_5 : fieldOf Tryd.prog 64 5 = some (13, 34) := by kernel_rfl
@[simp] theorem ty_cells65 : Tryd.prog.cellsOf 65 = 25 := by kernel_rfl
@[simp] theorem ty_bytes65 : Tryd.prog.bytesOf 65 = 456 := by kernel_rfl
@[simp] theorem ty_zeroD65 : zeroD Tryd.prog 65 = some [.str [], .nils, .int .i64 0, .str [], .int .i64 0, .nils, .nils, .nils, .nils, .int .i64 0, .bool false, .nils, .nils, .nils, .nils, .int .i64 0, .str [], .nils, .nils, .int .i64 0, .str [], .int .i64 0, .nils, .nils, .nils] := by kernel_rfl
@[simp] theorem ty_zeroV65 : zeroValD Tryd.prog 65 = some (.agg [.str [], .nils, .int .i64 0, .str [], .int .i64 0, .nils, .nils, .nils, .nils, .int .i64 0, .bool false, .nils, .nils, .nils, .nils, .int .i64 0, .str [], .nils, .nils, .int .i64 0, .str [], .int .i64 0, .nils, .nils, .nils]) := by kernel_rfl
@[simp] theorem ty_isStruct65 : isStruct Tryd.prog 65 = true := by kernel_rfl
@[simp] theorem ty_field65_0 : fieldOf Tryd.prog 65 0 = some (0, 9) := by kernel_rfl
@[simp] theorem ty_field65_1 : fieldOf Tryd.prog 65 1 = some (1, 32) := by kernel_rfl
@[simp] theorem ty_field65_2 : fieldOf Tryd.prog 65 2 = some (2, 58) := by kernel_rfl
@[simp] theorem ty_field65_3 : fieldOf Tryd.prog 65 3 = some (9, 59) := by kernel_rfl
@[simp] theorem ty_field65_4 : fieldOf Tryd.prog 65 4 = some (10, 4) := by kernel_rfl
@[simp] theorem ty_field65_5 : fieldOf Tryd.prog 65 5 = some (11, 64) := by kernel_rfl
@[simp] theorem ty_cells66 : Tryd.prog.cellsOf 66 = 25 := by kernel_rfl
@[simp] theorem ty_bytes66 : Tryd.prog.bytesOf 66 = 456 := by kernel_rfl
@[simp] theorem ty_zeroD66 : zeroD Tryd.prog 66 = some [.str [], .nils, .int .i64 0, .str [], .int .i64 0, .nils, .nils, .nils, .nils, .int .i64 0, .bool false, .nils, .nils, .nils, .nils, .int .i64 0, .str [], .nils, .nils, .int .i64 0, .str [], .int .i64 0, .nils, .nils, .nils] := by kernel_rfl
@[simp] theorem ty_zeroV66 : zeroValD Tryd.prog 66 = some (.agg [.str [], .nils, .int .i64 0, .str [], .int .i64 0, .nils, .nils, .nils, .nils, .int .i64 0, .bool false, .nils, .nils, .nils, .nils, .int .i64 0, .str [], .nils, .nils, .int .i64 0, .str [], .int .i64 0, .nils, .nils, .nils]) := by kernel_rfl
@[simp] theorem ty_isStruct66 : isStruct Tryd.prog 66 = true := by kernel_rfl
@[simp] theorem ty_field66_0 : fieldOf Tryd.prog 66 0 = some (0, 9) := by kernel_rfl
@[simp] theorem ty_field66_1 : fieldOf Tryd.prog 66 1 = some (1, 32) := by kernel_rfl
@[simp] theorem ty_field66_2 : fieldOf Tryd.prog 66 2 = some (2, 58) := by kernel_rfl
@[simp] theorem ty_field66_3 : fieldOf Tryd.prog 66 3 = some (9, 59) := by kernel_rfl
@[simp] theorem ty_field66_4 : fieldOf Tryd.prog 66 4 = some (10, 4) := by kernel_rfl
@[simp] theorem ty_field66_5 : fieldOf Tryd.prog 66 5 = some (11, 64) := by kernel_rfl
@[simp] theorem ty_cells68 : Tryd.prog.cellsOf 68 = 1 := by kernel_rfl
@[simp] theorem ty_bytes68 : Tryd.prog.bytesOf 68 = 8 := by kernel_rfl
@[simp] theorem ty_zeroD68 : zeroD Tryd.prog 68 = none := by kernel_rfl
@[simp] theorem ty_zeroC68 : zeroC Tryd.prog 68 = some [.undef] := by kernel_rfl
@[simp] theorem ty_zeroO68 : zeroO Tryd.prog 68 = some [.undef] := by kernel_rfl
@[simp] theorem ty_cells69 : Tryd.prog.cellsOf 69 = 1 := by kernel_rfl
@[simp] theorem ty_bytes69 : Tryd.prog.bytesOf 69 = 8 := by kernel_rfl
@[simp] theorem ty_zeroD69 : zeroD Tryd.prog 69 = none := by kernel_rfl
@[simp] theorem ty_zeroC69 : zeroC Tryd.prog 69 = some [.undef] := by kernel_rfl
@[simp] theorem ty_zeroO69 : zeroO Tryd.prog 69 = some [.undef] := by kernel_rfl
@[simp] theorem ty_cells70 : Tryd.prog.cellsOf 70 = 1 := by kernel_rfl
@[simp] theorem ty_bytes70 : Tryd.prog.bytesOf 70 = 8 := by kernel_rfl
@[simp] theorem ty_zeroD70 : zeroD Tryd.prog 70 = none := by kernel_rfl
@[simp] theorem ty_zeroC70 : zeroC Tryd.prog 70 = some [.undef] := by kernel_rfl
@[simp] theorem ty_zeroO70 : zeroO Tryd.prog 70 = some [.undef] := by kernel_rfl
@[simp] theorem ty_cells71 : Tryd.prog.cellsOf 71 = 1 := by kernel_rfl
@[simp] theorem ty_bytes71 : Tryd.prog.bytesOf 71 = 8 := by kernel_rfl
@[simp] theorem ty_zeroD71 : zeroD Tryd.prog 71 = none := by kernel_rfl
@[simp] theorem ty_zeroC71 : zeroC Tryd.prog 71 = some [.undef] := by kernel_rfl
@[simp] theorem ty_zeroO71 : zeroO Tryd.prog 71 = some [.undef] := by kernel_rfl
@[simp] theorem ty_cells72 : Tryd.prog.cellsOf 72 = 2 := by kernel_rfl
@[simp] theorem ty_bytes72 : Tryd.prog.bytesOf 72 = 40 := by kernel_rfl
@[simp] theorem ty_zeroD72 : zeroD Tryd.prog 72 = some [.str [], .nils] := by kernel_rfl
@[simp] theorem ty_zeroV72 : zeroValD Tryd.prog 72 = some (.agg [.str [], .nils]) := by kernel_rfl
@[simp] theorem ty_isStruct72 : isStruct Tryd.prog 72 = true := by kernel_rfl
@[simp] theorem ty_field72_0 : fieldOf Tryd.prog 72 0 = some (0, 9) := by kernel_rfl
@[simp] theorem ty_field72_1 : fieldOf Tryd.prog 72 1 = some (1, 39) := by kernel_rfl
@[simp] theorem ty_cells73 : Tryd.prog.cellsOf 73 = 2 := by kernel_rfl
@[simp] theorem ty_bytes73 : Tryd.prog.bytesOf 73 = 40 := by kernel_rfl
@[simp] theorem ty_zeroD73 : zeroD Tryd.prog 73 = some [.str [], .nils] := by kernel_rfl
@[simp] theorem ty_zeroV73 : zeroValD Tryd.prog 73 = some (.agg [.str [], .nils]) := by kernel_rfl
@[simp] theorem ty_isStruct73 : isStruct Tryd.prog 73 = true := by kernel_rfl
@[simp] theorem ty_field73_0 : fieldOf Tryd.prog 73 0 = some (0, 9) := by kernel_rfl
@[simp] theorem ty_field73_1 : fieldOf Tryd.prog 73 1 = some (1, 39) := by kernel_rfl
@[simp] theorem ty_cells74 : Tryd.prog.cellsOf 74 = 1 := by kernel_rfl
@[simp] theorem ty_bytes74 : Tryd.prog.bytesOf 74 = 16 := by kernel_rfl
@[simp] theorem ty_zeroD74 : zeroD Tryd.prog 74 = some [.str []] := by kernel_rfl
@[simp] theorem ty_zeroV74 : zeroValD Tryd.prog 74 = some (.str []) := by kernel_rfl
@[simp] theorem ty_cells75 : Tryd.prog.cellsOf 75 = 2 := by kernel_rfl
@[simp] theorem ty_bytes75 : Tryd.prog.bytesOf 75 = 32 := by kernel_rfl
@[simp] theorem ty_zeroD75 : zeroD Tryd.prog 75 = some [.str [], .str []] := by kernel_rfl
@[simp] theorem ty_zeroV75 : zeroValD Tryd.prog 75 = some (.agg [.str [], .str []]) := by kernel_rfl
@[simp] theorem ty_isStruct75 : isStruct Tryd.prog 75 = true := by kernel_rfl
@[simp] theorem ty_field75_0 : fieldOf Tryd.prog 75 0 = some (0, 9) := by kernel_rfl
@[simp] theorem ty_field75_1 : fieldOf Tryd.prog 75 1 = some (1, 74) := by kernel_rfl
@[simp] theorem ty_cells76 : Tryd.prog.cellsOf 76 = 2 := by kernel_rfl
@[simp] theorem ty_bytes76 : Tryd.prog.bytesOf 76 = 32 := by kernel_rfl
@[simp] theorem ty_zeroD76 : zeroD Tryd.prog 76 = some [.str [], .str []] := by kernel_rfl
@[simp] theorem ty_zeroV76 : zeroValD Tryd.prog 76 = some (.agg [.str [], .str []]) := by kernel_rfl
@[simp] theorem ty_isStruct76 : isStruct Tryd.prog 76 = true := by kernel_rfl
@[simp] theorem ty_field76_0 : fieldOf Tryd.prog 76 0 = some (0, 9) := by kernel_rfl
@[simp] theorem ty_field76_1 : fieldOf Tryd.prog 76 1 = some (1, 74) := by kernel_rfl
@[simp] theorem ty_flat76 : flatDescs Tryd.prog 76 = some [.string, .string] := by kernel_rfl
@[simp] theorem ty_cells77 : Tryd.prog.cellsOf 77 = 1 := by kernel_rfl
@[simp] theorem ty_bytes77 : Tryd.prog.bytesOf 77 = 8 := by kernel_rfl
@[simp] theorem ty_zeroD77 : zeroD Tryd.prog 77 = some [.int .i64 0] := by kernel_rfl
@[simp] theorem ty_zeroV77 : zeroValD Tryd.prog 77 = some (.int .i64 0) := by kernel_rfl
@[simp] theorem ty_cells78 : Tryd.prog.cellsOf 78 = 1 := by kernel_rfl
@[simp] theorem ty_bytes78 : Tryd.prog.bytesOf 78 = 8 := by kernel_rfl
@[simp] theorem ty_zeroD78 : zeroD Tryd.prog 78 = none := by kernel_rfl
@[simp] theorem ty_zeroC78 : zeroC Tryd.prog 78 = some [.undef] := by kernel_rfl
@[simp] theorem ty_zeroO78 : zeroO Tryd.prog 78 = some [.undef] := by kernel_rfl
@[simp] theorem ty_cells79 : Tryd.prog.cellsOf 79 = 1 := by kernel_rfl
@[simp] theorem ty_bytes79 : Tryd.prog.bytesOf 79 = 8 := by kernel_rfl
@[simp] theorem ty_zeroD79 : zeroD Tryd.prog 79 = none := by kernel_rfl
@[simp] theorem ty_zeroC79 : zeroC Tryd.prog 79 = some [.undef] := by kernel_rfl
@[simp] theorem ty_zeroO79 : zeroO Tryd.prog 79 = some [.undef] := by kernel_rfl
@[simp] theorem ty_cells80 : Tryd.prog.cellsOf 80 = 1 := by kernel_rfl
@[simp] theorem ty_bytes80 : Tryd.prog.bytesOf 80 = 8 := by kernel_rfl
@[simp] theorem ty_zeroD80 : zeroD Tryd.prog 80 = none := by kernel_rfl
@[simp] theorem ty_zeroC80 : zeroC Tryd.prog 80 = some [.undef] := by kernel_rfl
@[simp] theorem ty_zeroO80 : zeroO Tryd.prog 80 = some [.undef] := by kernel_rfl
@[simp] theorem ty_cells81 : Tryd.prog.cellsOf 81 = 1 := by kernel_rfl
@[simp] theorem ty_bytes81 : Tryd.prog.bytesOf 81 = 8 := by kernel_rfl
@[simp] theorem ty_zeroD81 : zeroD Tryd.prog 81 = none := by kernel_rfl
@[simp] theorem ty_zeroC81 : zeroC Tryd.prog 81 = some [.undef] := by kernel_rfl
@[simp] theorem ty_zeroO81 : zeroO Tryd.prog 81 = some [.undef] := by kernel_rfl
@[simp] theorem ty_cells82 : Tryd.prog.cellsOf 82 = 1 := by kernel_rfl
@[simp] theorem ty_bytes82 : Tryd.prog.bytesOf 82 = 24 := by kernel_rfl
@[simp] theorem ty_zeroD82 : zeroD Tryd.prog 82 = some [.nils] := by kernel_rfl
@[simp] theorem ty_zeroV82 : zeroValD Tryd.prog 82 = some (.nils) := by kernel_rfl
@[simp] theorem ty_elem82 : elemOfD Tryd.prog 82 = some 138 := by kernel_rfl
@[simp] theorem ty_cells83 : Tryd.prog.cellsOf 83 = 3 := by kernel_rfl
@[simp] theorem ty_bytes83 : Tryd.prog.bytesOf 83 = 72 := by kernel_rfl
@[simp] theorem ty_zeroD83 : zeroD Tryd.prog 83 = some [.nils, .nils, .nils] := by kernel_rfl
@[simp] theorem ty_zeroV83 : zeroValD Tryd.prog 83 = some (.agg [.nils, .nils, .nils]) := by kernel_rfl
@[simp] theorem ty_isStruct83 : isStruct Tryd.prog 83 = true := by kernel_rfl
@[simp] theorem ty_field83_0 : fieldOf Tryd.prog 83 0 = some (0, 39) := by kernel_rfl
@[simp] theorem ty_field83_1 : fieldOf Tryd.prog 83 1 = some (1, 82) := by kernel_rfl
@[simp] theorem ty_field83_2 : fieldOf Tryd.prog 83 2 = some (2, 44) := by kernel_rfl
@[simp] theorem ty_cells84 : Tryd.prog.cellsOf 84 = 3 := by kernel_rfl
@[simp] theorem ty_bytes84 : Tryd.prog.bytesOf 84 = 72 := by kernel_rfl
@[simp] theorem ty_zeroD84 : zeroD Tryd.prog 84 = some [.nils, .nils, .nils] := by kernel_rfl
@[simp] theorem ty_zeroV84 : zeroValD Tryd.prog 84 = some (.agg [.nils, .nils, .nils]) := by kernel_rfl
@[simp] theorem ty_isStruct84 : isStruct Tryd.prog 84 = true := by kernel_rfl
@[simp] theorem ty_field84_0 : fieldOf Tryd.prog 84 0 = some (0, 39) := by kernel_rfl
@[simp] theorem ty_field84_1 : fieldOf Tryd.prog 84 1 = some (1, 82) := by kernel_rfl
@[simp] theorem ty_field84_2 : fieldOf Tryd.prog 84 2 = some (2, 44) := by kernel_rfl
@[simp] theorem ty_cells85 : Tryd.prog.cellsOf 85 = 1 := by kernel_rfl
@[simp] theorem ty_bytes85 : Tryd.prog.bytesOf 85 = 8 := by kernel_rfl
@[simp] theorem ty_zeroD85 : zeroD Tryd.prog 85 = none := by kernel_rfl
@[simp] theorem ty_zeroC85 : zeroC Tryd.prog 85 = some [.undef] := by kernel_rfl
@[simp] theorem ty_zeroO85 : zeroO Tryd.prog 85 = some [.undef] := by kernel_rfl
@[simp] theorem ty_cells86 : Tryd.prog.cellsOf 86 = 1 := by kernel_rfl
@[simp] theorem ty_bytes86 : Tryd.prog.bytesOf 86 = 24 := by kernel_rfl
@[simp] theorem ty_zeroD86 : zeroD Tryd.prog 86 = some [.nils] := by kernel_rfl
@[simp] theorem ty_zeroV86 : zeroValD Tryd.prog 86 = some (.nils) := by kernel_rfl
@[simp] theorem ty_elem86 : elemOfD Tryd.prog 86 = some 212 := by kernel_rfl
@[simp] theorem ty_cells87 : Tryd.prog.cellsOf 87 = 4 := by kernel_rfl
@[simp] theorem ty_bytes87 : Tryd.prog.bytesOf 87 = 88 := by kernel_rfl
@[simp] theorem ty_zeroD87 : zeroD Tryd.prog 87 = some [.str [], .nils, .nils, .nils] := by kernel_rfl
@[simp] theorem ty_zeroV87 : zeroValD Tryd.prog 87 = some (.agg [.str [], .nils, .nils, .nils]) := by kernel_rfl
@[simp] theorem ty_isStruct87 : isStruct Tryd.prog 87 = true := by kernel_rfl
@[simp] theorem ty_field87_0 : fieldOf Tryd.prog 87 0 = some (0, 9) := by kernel_rfl
@[simp] theorem ty_field87_1 : fieldOf Tryd.prog 87 1 = some (1, 32) := by kernel_rfl
@[simp] theorem ty_field87_2 : fieldOf Tryd.prog 87 2 = some (2, 39) := by kernel_rfl
@[simp] theorem ty_field87_3 : fieldOf Tryd.prog 87 3 = some (3, 86) := by kernel_rfl
@[simp] theorem ty_cells88 : Tryd.prog.cellsOf 88 = 4 := by kernel_rfl
@[simp] theorem ty_bytes88 : Tryd.prog.bytesOf 88 = 88 := by kernel_rfl
@[simp] theorem ty_zeroD88 : zeroD Tryd.prog 88 = some [.str [], .nils, .nils, .nils] := by kernel_rfl
@[simp] theorem ty_zeroV88 : zeroValD Tryd.prog 88 = some (.agg [.str [], .nils, .nils, .nils]) := by kernel_rfl
@[simp] theorem ty_isStruct88 : isStruct Tryd.prog 88 = true := by kernel_rfl
@[simp] theorem ty_field88_0 : fieldOf Tryd.prog 88 0 = some (0, 9) := by kernel_rfl
@[simp] theorem ty_field88_1 : fieldOf Tryd.prog 88 1 = some (1, 32) := by kernel_rfl
@[simp] theorem ty_field88_2 : fieldOf Tryd.prog 88 2 = some (2, 39) := by kernel_rfl
@[simp] theorem ty_field88_3 : fieldOf Tryd.prog 88 3 = some (3, 86) := by kernel_rfl
@[simp] theorem ty_cells89 : Tryd.prog.cellsOf 89 = 1 := by kernel_rfl
@[simp] theorem ty_bytes89 : Tryd.prog.bytesOf 89 = 8 := by kernel_rfl
@[simp] theorem ty_zeroD89 : zeroD Tryd.prog 89 = none := by kernel_rfl
@[simp] theorem ty_zeroC89 : zeroC Tryd.prog 89 = some [.undef] := by kernel_rfl
@[simp] theorem ty_zeroO89 : zeroO Tryd.prog 89 = some [.undef] := by kernel_rfl
@[simp] theorem ty_cells90 : Tryd.prog.cellsOf 90 = 1 := by kernel_rfl
@[simp] theorem ty_bytes90 : Tryd.prog.bytesOf 90 = 24 := by kernel_rfl
@[simp] theorem ty_zeroD90 : zeroD Tryd.prog 90 = some [.nils] := by kernel_rfl
@[simp] theorem ty_zeroV90 : zeroValD Tryd.prog 90 = some (.nils) := by kernel_rfl
@[simp] theorem ty_elem90 : elemOfD Tryd.prog 90 = some 92 := by kernel_rfl
@[simp] theorem ty_cells91 : Tryd.prog.cellsOf 91 = 5 := by kernel_rfl
@[simp] theorem ty_bytes91 : Tryd.prog.bytesOf 91 = 72 := by kernel_rfl
@[simp] theorem ty_zeroD91 : zeroD Tryd.prog 91 = some [.str [], .int .i64 0, .str [], .int .i64 0, .nils] := by kernel_rfl
@[simp] theorem ty_zeroV91 : zeroValD Tryd.prog 91 = some (.agg [.str [], .int .i64 0, .str [], .int .i64 0, .nils]) := by kernel_rfl
@[simp] theorem ty_isStruct91 : isStruct Tryd.prog 91 = true := by kernel_rfl
@[simp] theorem ty_field91_0 : fieldOf Tryd.prog 91 0 = some (0, 9) := by kernel_rfl
@[simp] theorem ty_field91_1 : fieldOf Tryd.prog 91 1 = some (1, 36) := by kernel_rfl
@[simp] theorem ty_cells92 : Tryd.prog.cellsOf 92 = 5 := by kernel_rfl
@[simp] theorem ty_bytes92 : Tryd.prog.bytesOf 92 = 72 := by kernel_rfl
@[simp] theorem ty_zeroD92 : zeroD Tryd.prog 92 = some [.str [], .int .i64 0, .str [], .int .i64 0, .nils] := by kernel_rfl
@[simp] theorem ty_zeroV92 : zeroValD Tryd.prog 92 = some (.agg [.str [], .int .i64 0, .str [], .int .i64 0, .nils]) := by kernel_rfl
@[simp] theorem ty_isStruct92 : isStruct Tryd.prog 92 = true := by kernel_rfl
@[simp] theorem ty_field92_0 : fieldOf Tryd.prog 92 0 = some (0, 9) := by kernel_rfl
@[simp] theorem ty_field92_1 : fieldOf Tryd.prog 92 1 = some (1, 36) := by kernel_rfl
@[simp] theorem ty_cells93 : Tryd.prog.cellsOf 93 = 1 := by kernel_rfl
@[simp] theorem ty_bytes93 : Tryd.prog.bytesOf 93 = 8 := by kernel_rfl
@[simp] theorem ty_zeroD93 : zeroD Tryd.prog 93 = none := by kernel_rfl
@[simp] theorem ty_zeroC93 : zeroC Tryd.prog 93 = some [.undef] := by kernel_rfl
@[simp] theorem ty_zeroO93 : zeroO Tryd.prog 93 = some [.undef] := by kernel_rfl
@[simp] theorem ty_cells94 : Tryd.prog.cellsOf 94 = 1 := by kernel_rfl
@[simp] theorem ty_bytes94 : Tryd.prog.bytesOf 94 = 8 := by kernel_rfl
@[simp] theorem ty_zeroD94 : zeroD Tryd.prog 94 = none := by kernel_rfl
@[simp] theorem ty_zeroC94 : zeroC Tryd.prog 94 = some [.undef] := by kernel_rfl
@[simp] theorem ty_zeroO94 : zeroO Tryd.prog 94 = some [.undef] := by kernel_rfl
@[simp] theorem ty_cells95 : Tryd.prog.cellsOf 95 = 1 := by kernel_rfl
@[simp] theorem ty_bytes95 : Tryd.prog.bytesOf 95 = 8 := by kernel_rfl
@[simp] theorem ty_zeroD95 : zeroD Tryd.prog 95 = none := by kernel_rfl
@[simp] theorem ty_zeroC95 : zeroC Tryd.prog 95 = some [.undef] := by kernel_rfl
@[simp] theorem ty_zeroO95 : zeroO Tryd.prog 95 = some [.undef] := by kernel_rfl
@[simp] theorem ty_cells96 : Tryd.prog.cellsOf 96 = 1 := by kernel_rfl
@[simp] theorem ty_bytes96 : Tryd.prog.bytesOf 96 = 8 := by kernel_rfl
@[simp] theorem ty_zeroD96 : zeroD Tryd.prog 96 = none := by kernel_rfl
@[simp] theorem ty_zeroC96 : zeroC Tryd.prog 96 = some [.undef] := by kernel_rfl
@[simp] theorem ty_zeroO96 : zeroO Tryd.prog 96 = some [.undef] := by kernel_rfl
@[simp] theorem ty_cells97 : Tryd.prog.cellsOf 97 = 1 := by kernel_rfl
@[simp] theorem ty_bytes97 : Tryd.prog.bytesOf 97 = 8 := by kernel_rfl
@[simp] theorem ty_zeroD97 : zeroD Tryd.prog 97 = none := by kernel_rfl
@[simp] theorem ty_zeroC97 : zeroC Tryd.prog 97 = some [.undef] := by kernel_rfl
@[simp] theorem ty_zeroO97 : zeroO Tryd.prog 97 = some [.undef] := by kernel_rfl
@[simp] theorem ty_cells98 : Tryd.prog.cellsOf 98 = 1 := by kernel_rfl
@[simp] theorem ty_bytes98 : Tryd.prog.bytesOf 98 = 8 := by kernel_rfl
@[simp] theorem ty_zeroD98 : zeroD Tryd.prog 98 = none := by kernel_rfl
@[simp] theorem ty_zeroC98 : zeroC Tryd.prog 98 = some [.undef] := by kernel_rfl
@[simp] theorem ty_zeroO98 : zeroO Tryd.prog 98 = some [.undef] := by kernel_rfl
@[simp] theorem ty_cells99 : Tryd.prog.cellsOf 99 = 1 := by kernel_rfl
@[simp] theorem ty_bytes99 : Tryd.prog.bytesOf 99 = 8 := by kernel_rfl
@[simp] theorem ty_zeroD99 : zeroD Tryd.prog 99 = none := by kernel_rfl
@[simp] theorem ty_zeroC99 : zeroC Tryd.prog 99 = some [.undef] := by kernel_rfl
@[simp] theorem ty_zeroO99 : zeroO Tryd.prog 99 = some [.undef] := by kernel_rfl
@[simp] theorem ty_cells100 : Tryd.prog.cellsOf 100 = 1 := by kernel_rfl
@[simp] theorem ty_bytes100 : Tryd.prog.bytesOf 100 = 8 := by kernel_rfl
@[simp] theorem ty_zeroD100 : zeroD Tryd.prog 100 = none := by kernel_rfl
@[simp] theorem ty_zeroC100 : zeroC Tryd.prog 100 = some [.undef] := by kernel_rfl
@[simp] theorem ty_zeroO100 : zeroO Tryd.prog 100 = some [.undef] := by kernel_rfl
@[simp] theorem ty_cells101 : Tryd.prog.cellsOf 101 = 1 := by kernel_rfl
@[simp] theorem ty_bytes101 : Tryd.prog.bytesOf 101 = 8 := by kernel_rfl
@[simp] theorem ty_zeroD101 : zeroD Tryd.prog 101 = none := by kernel_rfl
@[simp] theorem ty_zeroC101 : zeroC Tryd.prog 101 = some [.undef] := by kernel_rfl
@[simp] theorem ty_zeroO101 : zeroO Tryd.prog 101 = some [.undef] := by kernel_rfl
@[simp] theorem ty_cells102 : Tryd.prog.cellsOf 102 = 1 := by kernel_rfl
@[simp] theorem ty_bytes102 : Tryd.prog.bytesOf 102 = 8 := by kernel_rfl
@[simp] theorem ty_zeroD102 : zeroD Tryd.prog 102 = none := by kernel_rfl
@[simp] theorem ty_zeroC102 : zeroC Tryd.prog 102 = some [.undef] := by kernel_rfl
@[simp] theorem ty_zeroO102 : zeroO Tryd.prog 102 = some [.undef] := by kernel_rfl
@[simp] theorem ty_cells104 : Tryd.prog.cellsOf 104 = 1 := by kernel_rfl
@[simp] theorem ty_bytes104 : Tryd.prog.bytesOf 104 = 8 := by kernel_rfl
@[simp] theorem ty_zeroD104 : zeroD Tryd.prog 104 = none := by kernel_rfl
@[simp] theorem ty_zeroC104 : zeroC Tryd.prog 104 = some [.undef] := by kernel_rfl
@[simp] theorem ty_zeroO104 : zeroO Tryd.prog 104 = some [.undef] := by kernel_rfl
@[simp] theorem ty_cells105 : Tryd.prog.cellsOf 105 = 1 := by kernel_rfl
@[simp] theorem ty_bytes105 : Tryd.prog.bytesOf 105 = 8 := by kernel_rfl
@[simp] theorem ty_zeroD105 : zeroD Tryd.prog 105 = none := by kernel_rfl
@[simp] theorem ty_zeroC105 : zeroC Tryd.prog 105 = some [.undef] := by kernel_rfl
@[simp] theorem ty_zeroO105 : zeroO Tryd.prog 105 = some [.undef] := by kernel_rfl
@[simp] theorem ty_cells107 : Tryd.prog.cellsOf 107 = 1 := by kernel_rfl
@[simp] theorem ty_bytes107 : Tryd.prog.bytesOf 107 = 8 := by kernel_rfl
@[simp] theorem ty_zeroD107 : zeroD Tryd.prog 107 = none := by kernel_rfl
@[simp] theorem ty_zeroC107 : zeroC Tryd.prog 107 = some [.undef] := by kernel_rfl
@[simp] theorem ty_zeroO107 : zeroO Tryd.prog 107 = some [.undef] := by kernel_rfl
@[simp] theorem ty_cells108 : Tryd.prog.cellsOf 108 = 1 := by kernel_rfl
@[simp] theorem ty_bytes108 : Tryd.prog.bytesOf 108 = 8 := by kernel_rfl
@[simp] theorem ty_zeroD108 : zeroD Tryd.prog 108 = none := by kernel_rfl
@[simp] theorem ty_zeroC108 : zeroC Tryd.prog 108 = some [.nilp 108] := by kernel_rfl
@[simp] theorem ty_zeroO108 : zeroO Tryd.prog 108 = some [.undef] := by kernel_rfl
@[simp] theorem ty_cells109 : Tryd.prog.cellsOf 109 = 8 := by kernel_rfl
@[simp] theorem ty_bytes109 : Tryd.prog.bytesOf 109 = 184 := by kernel_rfl
@[simp] theorem ty_zeroD109 : zeroD Tryd.prog 109 = some [.nils, .nils, .nils, .nils, .nils, .nils, .str [], .nils] := by kernel_rfl
@[simp] theorem ty_zeroV109 : zeroValD Tryd.prog 109 = some (.agg [.nils, .nils, .nils, .nils, .nils, .nils, .str [], .nils]) := by kernel_rfl
@[simp] theorem ty_isStruct109 : isStruct Tryd.prog 109 = true := by kernel_rfl
@[simp] theorem ty_field109_0 : fieldOf Tryd.prog 109 0 = some (0, 29) := by kernel_rfl
@[simp] theorem ty_field109_1 : fieldOf Tryd.prog 109 1 = some (6, 9) := by kernel_rfl
@[simp] theorem ty_field109_2 : fieldOf Tryd.prog 109 2 = some (7, 44) := by kernel_rfl
@[simp] theorem ty_cells110 : Tryd.prog.cellsOf 110 = 8 := by kernel_rfl
@[simp] theorem ty_bytes110 : Tryd.prog.bytesOf 110 = 184 := by kernel_rfl
@[simp] theorem ty_zeroD110 : zeroD Tryd.prog 110 = some [.nils, .nils, .nils, .nils, .nils, .nils, .str [], .nils] := by kernel_rfl
@[simp] theorem ty_zeroV110 : zeroValD Tryd.prog 110 = some (.agg [.nils, .nils, .nils, .nils, .nils, .nils, .str [], .nils]) := by kernel_rfl
@[simp] theorem ty_isStruct110 : isStruct Tryd.prog 110 = true := by kernel_rfl
@[simp] theorem ty_field110_0 : fieldOf Tryd.prog 110 0 = some (0, 29) := by kernel_rfl
@[simp] theorem ty_field110_1 : fieldOf Tryd.prog 110 1 = some (6, 9) := by kernel_rfl
@[simp] theorem ty_field110_2 : fieldOf Tryd.prog 110 2 = some (7, 44) := by kernel_rfl
@[simp] theorem ty_cells111 : Tryd.prog.cellsOf 111 = 1 := by kernel_rfl
@[simp] theorem ty_bytes111 : Tryd.prog.bytesOf 111 = 8 := by kernel_rfl
@[simp] theorem ty_zeroD111 : zeroD Tryd.prog 111 = none := by kernel_rfl
@[simp] theorem ty_zeroC111 : zeroC Tryd.prog 111 = some [.undef] := by kernel_rfl
@[simp] theorem ty_zeroO111 : zeroO Tryd.prog 111 = some [.undef] := by kernel_rfl
@[simp] theorem ty_cells112 : Tryd.prog.cellsOf 112 = 1 := by kernel_rfl
@[simp] theorem ty_bytes112 : Tryd.prog.bytesOf 112 = 8 := by kernel_rfl
@[simp] theorem ty_zeroD112 : zeroD Tryd.prog 112 = none := by kernel_rfl
@[simp] theorem ty_zeroC112 : zeroC Tryd.prog 112 = some [.undef] := by kernel_rfl
@[simp] theorem ty_zeroO112 : zeroO Tryd.prog 112 = some [.undef] := by kernel_rfl
@[simp] theorem ty_cells113 : Tryd.prog.cellsOf 113 = 1 := by kernel_rfl
@[simp] theorem ty_bytes113 : Tryd.prog.bytesOf 113 = 8 := by kernel_rfl
@[simp] theorem ty_zeroD113 : zeroD Tryd.prog 113 = none := by kernel_rfl
@[simp] theorem ty_zeroC113 : zeroC Tryd.prog 113 = some [.undef] := by kernel_rfl
@[simp] theorem ty_zeroO113 : zeroO Tryd.prog 113 = some [.undef] := by kernel_rfl
@[simp] theorem ty_cells114 : Tryd.prog.cellsOf 114 = 1 := by kernel_rfl
@[simp] theorem ty_bytes114 : Tryd.prog.bytesOf 114 = 8 := by kernel_rfl
@[simp] theorem ty_zeroD114 : zeroD Tryd.prog 114 = none := by kernel_rfl
@[simp] theorem ty_zeroC114 : zeroC Tryd.prog 114 = some [.undef] := by kernel_rfl
@[simp] theorem ty_zeroO114 : zeroO Tryd.prog 114 = some [.undef] := by kernel_rfl
@[simp] theorem ty_cells115 : Tryd.prog.cellsOf 115 = 1 := by kernel_rfl
@[simp] theorem ty_bytes115 : Tryd.prog.bytesOf 115 = 8 := by kernel_rfl
@[simp] theorem ty_zeroD115 : zeroD Tryd.prog 115 = none := by kernel_rfl
@[simp] theorem ty_zeroC115 : zeroC Tryd.prog 115 = some [.undef] := by kernel_rfl
@[simp] theorem ty_zeroO115 : zeroO Tryd.prog 115 = some [.undef] := by kernel_rfl
@[simp] theorem ty_cells116 : Tryd.prog.cellsOf 116 = 1 := by kernel_rfl
@[simp] theorem ty_bytes116 : Tryd.prog.bytesOf 116 = 8 := by kernel_rfl
@[simp] theorem ty_zeroD116 : zeroD Tryd.prog 116 = none := by kernel_rfl
@[simp] theorem ty_zeroC116 : zeroC Tryd.prog 116 = some [.undef] := by kernel_rfl
@[simp] theorem ty_zeroO116 : zeroO Tryd.prog 116 = some [.undef] := by kernel_rfl
@[simp] theorem ty_cells117 : Tryd.prog.cellsOf 117 = 1 := by kernel_rfl
@[simp] theorem ty_bytes117 : Tryd.prog.bytesOf 117 = 8 := by kernel_rfl
@[simp] theorem ty_zeroD117 : zeroD Tryd.prog 117 = none := by kernel_rfl
@[simp] theorem ty_zeroC117 : zeroC Tryd.prog 117 = some [.undef] := by kernel_rfl
@[simp] theorem ty_zeroO117 : zeroO Tryd.prog 117 = some [.undef] := by kernel_rfl
@[simp] theorem ty_cells118 : Tryd.prog.cellsOf 118 = 1 := by kernel_rfl
@[simp] theorem ty_bytes118 : Tryd.prog.bytesOf 118 = 8 := by kernel_rfl
@[simp] theorem ty_zeroD118 : zeroD Tryd.prog 118 = none := by kernel_rfl
@[simp] theorem ty_zeroC118 : zeroC Tryd.prog 118 = some [.undef] := by kernel_rfl
@[simp] theorem ty_zeroO118 : zeroO Tryd.prog 118 = some [.undef] := by kernel_rfl
@[simp] theorem ty_cells119 : Tryd.prog.cellsOf 119 = 1 := by kernel_rfl
@[simp] theorem ty_bytes119 : Tryd.prog.bytesOf 119 = 8 := by kernel_rfl
@[simp] theorem ty_zeroD119 : zeroD Tryd.prog 119 = none := by kernel_rfl
@[simp] theorem ty_zeroC119 : zeroC Tryd.prog 119 = some [.undef] := by kernel_rfl
@[simp] theorem ty_zeroO119 : zeroO Tryd.prog 119 = some [.undef] := by kernel_rfl
@[simp] theorem ty_cells120 : Tryd.prog.cellsOf 120 = 1 := by kernel_rfl
@[simp] theorem ty_bytes120 : Tryd.prog.bytesOf 120 = 8 := by kernel_rfl
@[simp] theorem ty_zeroD120 : zeroD Tryd.prog 120 = none := by kernel_rfl
@[simp] theorem ty_zeroC120 : zeroC Tryd.prog 120 = some [.undef] := by kernel_rfl
@[simp] theorem ty_zeroO120 : zeroO Tryd.prog 120 = some [.undef] := by kernel_rfl
@[simp] theorem ty_cells121 : Tryd.prog.cellsOf 121 = 1 := by kernel_rfl
@[simp] theorem ty_bytes121 : Tryd.prog.bytesOf 121 = 8 := by kernel_rfl
@[simp] theorem ty_zeroD121 : zeroD Tryd.prog 121 = none := by kernel_rfl
@[simp] theorem ty_zeroC121 : zeroC Tryd.prog 121 = some [.undef] := by kernel_rfl
@[simp] theorem ty_zeroO121 : zeroO Tryd.prog 121 = some [.undef] := by kernel_rfl
@[simp] theorem ty_cells122 : Tryd.prog.cellsOf 122 = 1 := by kernel_rfl
@[simp] theorem ty_bytes122 : Tryd.prog.bytesOf 122 = 8 := by kernel_rfl
@[simp] theorem ty_zeroD122 : zeroD Tryd.prog 122 = none := by kernel_rfl
@[simp] theorem ty_zeroC122 : zeroC Tryd.prog 122 = some [.undef] := by kernel_rfl
@[simp] theorem ty_zeroO122 : zeroO Tryd.prog 122 = some [.undef] := by kernel_rfl
@[simp] theorem ty_cells123 : Tryd.prog.cellsOf 123 = 1 := by kernel_rfl
@[simp] theorem ty_bytes123 : Tryd.prog.bytesOf 123 = 8 := by kernel_rfl
@[simp] theorem ty_zeroD123 : zeroD Tryd.prog 123 = none := by kernel_rfl
@[simp] theorem ty_zeroC123 : zeroC Tryd.prog 123 = some [.undef] := by kernel_rfl
@[simp] theorem ty_zeroO123 : zeroO Tryd.prog 123 = some [.undef] := by kernel_rfl
@[simp] theorem ty_cells124 : Tryd.prog.cellsOf 124 = 1 := by kernel_rfl
@[simp] theorem ty_bytes124 : Tryd.prog.bytesOf 124 = 8 := by kernel_rfl
@[simp] theorem ty_zeroD124 : zeroD Tryd.prog 124 = none := by kernel_rfl
@[simp] theorem ty_zeroC124 : zeroC Tryd.prog 124 = some [.undef] := by kernel_rfl
@[simp] theorem ty_zeroO124 : zeroO Tryd.prog 124 = some [.undef] := by kernel_rfl
@[simp] theorem ty_cells125 : Tryd.prog.cellsOf 125 = 1 := by kernel_rfl
@[simp] theorem ty_bytes125 : Tryd.prog.bytesOf 125 = 8 := by kernel_rfl
@[simp] theorem ty_zeroD125 : zeroD Tryd.prog 125 = none := by kernel_rfl
@[simp] theorem ty_zeroC125 : zeroC Tryd.prog 125 = some [.undef] := by kernel_rfl
@[simp] theorem ty_zeroO125 : zeroO Tryd.prog 125 = some [.undef] := by kernel_rfl
@[simp] theorem ty_cells126 : Tryd.prog.cellsOf 126 = 1 := by kernel_rfl
@[simp] theorem ty_bytes126 : Tryd.prog.bytesOf 126 = 8 := by kernel_rfl
@[simp] theorem ty_zeroD126 : zeroD Tryd.prog 126 = none := by kernel_rfl
@[simp] theorem ty_zeroC126 : zeroC Tryd.prog 126 = some [.undef] := by kernel_rfl
@[simp] theorem ty_zeroO126 : zeroO Tryd.prog 126 = some [.undef] := by kernel_rfl
@[simp] theorem ty_cells127 : Tryd.prog.cellsOf 127 = 1 := by kernel_rfl
@[simp] theorem ty_bytes127 : Tryd.prog.bytesOf 127 = 8 := by kernel_rfl
@[simp] theorem ty_zeroD127 : zeroD Tryd.prog 127 = none := by kernel_rfl
@[simp] theorem ty_zeroC127 : zeroC Tryd.prog 127 = some [.undef] := by kernel_rfl
@[simp] theorem ty_zeroO127 : zeroO Tryd.prog 127 = some [.undef] := by kernel_rfl
@[simp] theorem ty_cells128 : Tryd.prog.cellsOf 128 = 1 := by kernel_rfl
@[simp] theorem ty_bytes128 : Tryd.prog.bytesOf 128 = 8 := by kernel_rfl
@[simp] theorem ty_zeroD128 : zeroD Tryd.prog 128 = none := by kernel_rfl
@[simp] theorem ty_zeroC128 : zeroC Tryd.prog 128 = some [.undef] := by kernel_rfl
@[simp] theorem ty_zeroO128 : zeroO Tryd.prog 128 = some [.undef] := by kernel_rfl
@[simp] theorem ty_cells129 : Tryd.prog.cellsOf 129 = 1 := by kernel_rfl
@[simp] theorem ty_bytes129 : Tryd.prog.bytesOf 129 = 8 := by kernel_rfl
@[simp] theorem ty_zeroD129 : zeroD Tryd.prog 129 = none := by kernel_rfl
@[simp] theorem ty_zeroC129 : zeroC Tryd.prog 129 = some [.undef] := by kernel_rfl
@[simp] theorem ty_zeroO129 : zeroO Tryd.prog 129 = some [.undef] := by kernel_rfl
@[simp] theorem ty_cells130 : Tryd.prog.cellsOf 130 = 1 := by kernel_rfl
@[simp] theorem ty_bytes130 : Tryd.prog.bytesOf 130 = 8 := by kernel_rfl
@[simp] theorem ty_zeroD130 : zeroD Tryd.prog 130 = none := by kernel_rfl
@[simp] theorem ty_zeroC130 : zeroC Tryd.prog 130 = some [.undef] := by kernel_rfl
@[simp] theorem ty_zeroO130 : zeroO Tryd.prog 130 = some [.undef] := by kernel_rfl
@[simp] theorem ty_map130 : mapOf Tryd.prog 130 = some (9, 4) := by kernel_rfl
@[simp] theorem ty_cells131 : Tryd.prog.cellsOf 131 = 1 := by kernel_rfl
@[simp] theorem ty_bytes131 : Tryd.prog.bytesOf 131 = 8 := by kernel_rfl
@[simp] theorem ty_zeroD131 : zeroD Tryd.prog 131 = none := by kernel_rfl
@[simp] theorem ty_zeroC131 : zeroC Tryd.prog 131 = some [.undef] := by kernel_rfl
@[simp] theorem ty_zeroO131 : zeroO Tryd.prog 131 = some [.undef] := by kernel_rfl
@[simp] theorem ty_cells132 : Tryd.prog.cellsOf 132 = 1 := by kernel_rfl
@[simp] theorem ty_bytes132 : Tryd.prog.bytesOf 132 = 8 := by kernel_rfl
@[simp] theorem ty_zeroD132 : zeroD Tryd.prog 132 = none := by kernel_rfl
@[simp] theorem ty_zeroC132 : zeroC Tryd.prog 132 = some [.undef] := by kernel_rfl
@[simp] theorem ty_zeroO132 : zeroO Tryd.prog 132 = some [.undef] := by kernel_rfl
@[simp] theorem ty_cells133 : Tryd.prog.cellsOf 133 = 1 := by kernel_rfl
@[simp] theorem ty_bytes133 : Tryd.prog.bytesOf 133 = 8 := by kernel_rfl
@[simp] theorem ty_zeroD133 : zeroD Tryd.prog 133 = none := by kernel_rfl
@[simp] theorem ty_zeroC133 : zeroC Tryd.prog 133 = some [.undef] := by kernel_rfl
@[simp] theorem ty_zeroO133 : zeroO Tryd.prog 133 = some [.undef] := by kernel_rfl
@[simp] theorem ty_cells134 : Tryd.prog.cellsOf 134 = 1 := by kernel_rfl
@[simp] theorem ty_bytes134 : Tryd.prog.bytesOf 134 = 8 := by kernel_rfl
@[simp] theorem ty_zeroD134 : zeroD Tryd.prog 134 = none := by kernel_rfl
@[simp] theorem ty_zeroC134 : zeroC Tryd.prog 134 = some [.undef] := by kernel_rfl
@[simp] theorem ty_zeroO134 : zeroO Tryd.prog 134 = some [.undef] := by kernel_rfl
@[simp] theorem ty_cells135 : Tryd.prog.cellsOf 135 = 1 := by kernel_rfl
@[simp] theorem ty_bytes135 : Tryd.prog.bytesOf 135 = 8 := by kernel_rfl
@[simp] theorem ty_zeroD135 : zeroD Tryd.prog 135 = none := by kernel_rfl
@[simp] theorem ty_zeroC135 : zeroC Tryd.prog 135 = some [.undef] := by kernel_rfl
@[simp] theorem ty_zeroO135 : zeroO Tryd.prog 135 = some [.undef] := by kernel_rfl
@[simp] theorem ty_cells136 : Tryd.prog.cellsOf 136 = 1 := by kernel_rfl
@[simp] theorem ty_bytes136 : Tryd.prog.bytesOf 136 = 24 := by kernel_rfl
@[simp] theorem ty_zeroD136 : zeroD Tryd.prog 136 = some [.nils] := by kernel_rfl
@[simp] theorem ty_zeroV136 : zeroValD Tryd.prog 136 = some (.nils) := by kernel_rfl
@[simp] theorem ty_elem136 : elemOfD Tryd.prog 136 = some 74 := by kernel_rfl
@[simp] theorem ty_cells137 : Tryd.prog.cellsOf 137 = 3 := by kernel_rfl
@[simp] theorem ty_bytes137 : Tryd.prog.bytesOf 137 = 56 := by kernel_rfl
@[simp] theorem ty_zeroD137 : zeroD Tryd.prog 137 = some [.str [], .nils, .str []] := by kernel_rfl
@[simp] theorem ty_zeroV137 : zeroValD Tryd.prog 137 = some (.agg [.str [], .nils, .str []]) := by kernel_rfl
@[simp] theorem ty_isStruct137 : isStruct Tryd.prog 137 = true := by kernel_rfl
@[simp] theorem ty_field137_0 : fieldOf Tryd.prog 137 0 = some (0, 9) := by kernel_rfl
@[simp] theorem ty_field137_1 : fieldOf Tryd.prog 137 1 = some (1, 136) := by kernel_rfl
@[simp] theorem ty_field137_2 : fieldOf Tryd.prog 137 2 = some (2, 74) := by kernel_rfl
@[simp] theorem ty_cells138 : Tryd.prog.cellsOf 138 = 3 := by kernel_rfl
@[simp] theorem ty_bytes138 : Tryd.prog.bytesOf 138 = 56 := by kernel_rfl
@[simp] theorem ty_zeroD138 : zeroD Tryd.prog 138 = some [.str [], .nils, .str []] := by kernel_rfl
@[simp] theorem ty_zeroV138 : zeroValD Tryd.prog 138 = some (.agg [.str [], .nils, .str []]) := by kernel_rfl
@[simp] theorem ty_isStruct138 : isStruct Tryd.prog 138 = true := by kernel_rfl
@[simp] theorem ty_field138_0 : fieldOf Tryd.prog 138 0 = some (0, 9) := by kernel_rfl
@[simp] theorem ty_field138_1 : fieldOf Tryd.prog 138 1 = some (1, 136) := by kernel_rfl
@[simp] theorem ty_field138_2 : fieldOf Tryd.prog 138 2 = some (2, 74) := by kernel_rfl
@[simp] theorem ty_cells139 : Tryd.prog.cellsOf 139 = 1 := by kernel_rfl
@[simp] theorem ty_bytes139 : Tryd.prog.bytesOf 139 = 8 := by kernel_rfl
@[simp] theorem ty_zeroD139 : zeroD Tryd.prog 139 = none := by kernel_rfl
@[simp] theorem ty_zeroC139 : zeroC Tryd.prog 139 = some [.undef] := by kernel_rfl
@[simp] theorem ty_zeroO139 : zeroO Tryd.prog 139 = some [.undef] := by kernel_rfl
@[simp] theorem ty_cells141 : Tryd.prog.cellsOf 141 = 1 := by kernel_rfl
@[simp] theorem ty_bytes141 : Tryd.prog.bytesOf 141 = 8 := by kernel_rfl
@[simp] theorem ty_zeroD141 : zeroD Tryd.prog 141 = none := by kernel_rfl
@[simp] theorem ty_zeroC141 : zeroC Tryd.prog 141 = some [.undef] := by kernel_rfl
@[simp] theorem ty_zeroO141 : zeroO Tryd.prog 141 = some [.undef] := by kernel_rfl
@[simp] theorem ty_cells142 : Tryd.prog.cellsOf 142 = 1 := by kernel_rfl
@[simp] theorem ty_bytes142 : Tryd.prog.bytesOf 142 = 8 := by kernel_rfl
@[simp] theorem ty_zeroD142 : zeroD Tryd.prog 142 = none := by kernel_rfl
@[simp] theorem ty_zeroC142 : zeroC Tryd.prog 142 = some [.undef] := by kernel_rfl
@[simp] theorem ty_zeroO142 : zeroO Tryd.prog 142 = some [.undef] := by kernel_rfl
@[simp] theorem ty_cells143 : Tryd.prog.cellsOf 143 = 1 := by kernel_rfl
@[simp] theorem ty_bytes143 : Tryd.prog.bytesOf 143 = 8 := by kernel_rfl
@[simp] theorem ty_zeroD143 : zeroD Tryd.prog 143 = none := by kernel_rfl
@[simp] theorem ty_zeroC143 : zeroC Tryd.prog 143 = some [.undef] := by kernel_rfl
@[simp] theorem ty_zeroO143 : zeroO Tryd.prog 143 = some [.undef] := by kernel_rfl
@[simp] theorem ty_cells144 : Tryd.prog.cellsOf 144 = 1 := by kernel_rfl
@[simp] theorem ty_bytes144 : Tryd.prog.bytesOf 144 = 8 := by kernel_rfl
@[simp] theorem ty_zeroD144 : zeroD Tryd.prog 144 = none := by kernel_rfl
@[simp] theorem ty_zeroC144 : zeroC Tryd.prog 144 = some [.undef] := by kernel_rfl
@[simp] theorem ty_zeroO144 : zeroO Tryd.prog 144 = some [.undef] := by kernel_rfl
@[simp] theorem ty_cells145 : Tryd.prog.cellsOf 145 = 1 := by kernel_rfl
@[simp] theorem ty_bytes145 : Tryd.prog.bytesOf 145 = 8 := by kernel_rfl
@[simp] theorem ty_zeroD145 : zeroD Tryd.prog 145 = none := by kernel_rfl
@[simp] theorem ty_zeroC145 : zeroC Tryd.prog 145 = some [.undef] := by kernel_rfl
@[simp] theorem ty_zeroO145 : zeroO Tryd.prog 145 = some [.undef] := by kernel_rfl
@[simp] theorem ty_cells146 : Tryd.prog.cellsOf 146 = 1 := by kernel_rfl
@[simp] theorem ty_bytes146 : Tryd.prog.bytesOf 146 = 8 := by kernel_rfl
@[simp] theorem ty_zeroD146 : zeroD Tryd.prog 146 = none := by kernel_rfl
@[simp] theorem ty_zeroC146 : zeroC Tryd.prog 146 = some [.undef] := by kernel_rfl
@[simp] theorem ty_zeroO146 : zeroO Tryd.prog 146 = some [.undef] := by kernel_rfl
@[simp] theorem ty_cells147 : Tryd.prog.cellsOf 147 = 1 := by kernel_rfl
@[simp] theorem ty_bytes147 : Tryd.prog.bytesOf 147 = 8 := by kernel_rfl
@[simp] theorem ty_zeroD147 : zeroD Tryd.prog 147 = none := by kernel_rfl
@[simp] theorem ty_zeroC147 : zeroC Tryd.prog 147 = some [.undef] := by kernel_rfl
@[simp] theorem ty_zeroO147 : zeroO Tryd.prog 147 = some [.undef] := by kernel_rfl
@[simp] theorem ty_cells148 : Tryd.prog.cellsOf 148 = 1 := by kernel_rfl
@[simp] theorem ty_bytes148 : Tryd.prog.bytesOf 148 = 8 := by kernel_rfl
@[simp] theorem ty_zeroD148 : zeroD Tryd.prog 148 = none := by kernel_rfl
@[simp] theorem ty_zeroC148 : zeroC Tryd.prog 148 = some [.undef] := by kernel_rfl
@[simp] theorem ty_zeroO148 : zeroO Tryd.prog 148 = some [.undef] := by kernel_rfl
@[simp] theorem ty_cells149 : Tryd.prog.cellsOf 149 = 1 := by kernel_rfl
@[simp] theorem ty_bytes149 : Tryd.prog.bytesOf 149 = 8 := by kernel_rfl
@[simp] theorem ty_zeroD149 : zeroD Tryd.prog 149 = none := by kernel_rfl
@[simp] theorem ty_zeroC149 : zeroC Tryd.prog 149 = some [.undef] := by kernel_rfl
@[simp] theorem ty_zeroO149 : zeroO Tryd.prog 149 = some [.undef] := by kernel_rfl
@[simp] theorem ty_cells150 : Tryd.prog.cellsOf 150 = 1 := by kernel_rfl
@[simp] theorem ty_bytes150 : Tryd.prog.bytesOf 150 = 8 := by kernel_rfl
@[simp] theorem ty_zeroD150 : zeroD Tryd.prog 150 = none := by kernel_rfl
@[simp] theorem ty_zeroC150 : zeroC Tryd.prog 150 = some [.undef] := by kernel_rfl
@[simp] theorem ty_zeroO150 : zeroO Tryd.prog 150 = some [.undef] := by kernel_rfl
@[simp] theorem ty_cells151 : Tryd.prog.cellsOf 151 = 1 := by kernel_rfl
@[simp] theorem ty_bytes151 : Tryd.prog.bytesOf 151 = 8 := by kernel_rfl
@[simp] theorem ty_zeroD151 : zeroD Tryd.prog 151 = none := by kernel_rfl
@[simp] theorem ty_zeroC151 : zeroC Tryd.prog 151 = some [.undef] := by kernel_rfl
@[simp] theorem ty_zeroO151 : zeroO Tryd.prog 151 = some [.undef] := by kernel_rfl
@[simp] theorem ty_cells152 : Tryd.prog.cellsOf 152 = 1 := by kernel_rfl
@[simp] theorem ty_bytes152 : Tryd.prog.bytesOf 152 = 8 := by kernel_rfl
@[simp] theorem ty_zeroD152 : zeroD Tryd.prog 152 = none := by kernel_rfl
@[simp] theorem ty_zeroC152 : zeroC Tryd.prog 152 = some [.undef] := by kernel_rfl
@[simp] theorem ty_zeroO152 : zeroO Tryd.prog 152 = some [.undef] := by kernel_rfl
@[simp] theorem ty_cells153 : Tryd.prog.cellsOf 153 = 1 := by kernel_rfl
@[simp] theorem ty_bytes153 : Tryd.prog.bytesOf 153 = 8 := by kernel_rfl
@[simp] theorem ty_zeroD153 : zeroD Tryd.prog 153 = none := by kernel_rfl
@[simp] theorem ty_zeroC153 : zeroC Tryd.prog 153 = some [.undef] := by kernel_rfl
@[simp] theorem ty_zeroO153 : zeroO Tryd.prog 153 = some [.undef] := by kernel_rfl
@[simp] theorem ty_cells154 : Tryd.prog.cellsOf 154 = 1 := by kernel_rfl
@[simp] theorem ty_bytes154 : Tryd.prog.bytesOf 154 = 8 := by kernel_rfl
@[simp] theorem ty_zeroD154 : zeroD Tryd.prog 154 = none := by kernel_rfl
@[simp] theorem ty_zeroC154 : zeroC Tryd.prog 154 = some [.undef] := by kernel_rfl
@[simp] theorem ty_zeroO154 : zeroO Tryd.prog 154 = some [.undef] := by kernel_rfl
@[simp] theorem ty_cells155 : Tryd.prog.cellsOf 155 = 42 := by kernel_rfl
@[simp] theorem ty_bytes155 : Tryd.prog.bytesOf 155 = 672 := by kernel_rfl
@[simp] theorem ty_zeroD155 : zeroD Tryd.prog 155 = some [.str [], .str [], .str [], .str [], .str [], .str [], .str [], .str [], .str [], .str [], .str [], .str [], .str [], .str [], .str [], .str [], .str [], .str [], .str [], .str [], .str [], .str [], .str [], .str [], .str [], .str [], .str [], .str [], .str [], .str [], .str [], .str [], .str [], .str [], .str [], .str [], .str [], .str [], .str [], .str [], .str [], .str []] := by kernel_rfl
@[simp] theorem ty_cells156 : Tryd.prog.cellsOf 156 = 1 := by kernel_rfl
@[simp] theorem ty_bytes156 : Tryd.prog.bytesOf 156 = 8 := by kernel_rfl
@[simp] theorem ty_zeroD156 : zeroD Tryd.prog 156 = none := by kernel_rfl
@[simp] theorem ty_zeroC156 : zeroC Tryd.prog 156 = some [.undef] := by kernel_rfl
@[simp] theorem ty_zeroO156 : zeroO Tryd.prog 156 = some [.undef] := by kernel_rfl
@[simp] theorem ty_cells157 : Tryd.prog.cellsOf 157 = 24 := by kernel_rfl
@[simp] theorem ty_bytes157 : Tryd.prog.bytesOf 157 = 24 := by kernel_rfl
@[simp] theorem ty_zeroD157 : zeroD Tryd.prog 157 = some [.int .u8 0, .int .u8 0, .int .u8 0, .int .u8 0, .int .u8 0, .int .u8 0, .int .u8 0, .int .u8 0, .int .u8 0, .int .u8 0, .int .u8 0, .int .u8 0, .int .u8 0, .int .u8 0, .int .u8 0, .int .u8 0, .int .u8 0, .int .u8 0, .int .u8 0, .int .u8 0, .int .u8 0, .int .u8 0, .int .u8 0, .int .u8 0] := by kernel_rfl
@[simp] theorem ty_cells158 : Tryd.prog.cellsOf 158 = 1 := by kernel_rfl
@[simp] theorem ty_bytes158 : Tryd.prog.bytesOf 158 = 8 := by kernel_rfl
@[simp] theorem ty_zeroD158 : zeroD Tryd.prog 158 = some [.int .u64 0] := by kernel_rfl
@[simp] theorem ty_zeroV158 : zeroValD Tryd.prog 158 = some (.int .u64 0) := by kernel_rfl
@[simp] theorem ty_cells159 : Tryd.prog.cellsOf 159 = 1 := by kernel_rfl
@[simp] theorem ty_bytes159 : Tryd.prog.bytesOf 159 = 8 := by kernel_rfl
@[simp] theorem ty_zeroD159 : zeroD Tryd.prog 159 = none := by kernel_rfl
@[simp] theorem ty_zeroC159 : zeroC Tryd.prog 159 = some [.undef] := by kernel_rfl
@[simp] theorem ty_zeroO159 : zeroO Tryd.prog 159 = some [.undef] := by kernel_rfl
@[simp] theorem ty_cells160 : Tryd.prog.cellsOf 160 = 1 := by kernel_rfl
@[simp] theorem ty_bytes160 : Tryd.prog.bytesOf 160 = 8 := by kernel_rfl
@[simp] theorem ty_zeroD160 : zeroD Tryd.prog 160 = none := by kernel_rfl
@[simp] theorem ty_zeroC160 : zeroC Tryd.prog 160 = some [.undef] := by kernel_rfl
@[simp] theorem ty_zeroO160 : zeroO Tryd.prog 160 = some [.undef] := by kernel_rfl
@[simp] theorem ty_cells161 : Tryd.prog.cellsOf 161 = 1 := by kernel_rfl
@[simp] theorem ty_bytes161 : Tryd.prog.bytesOf 161 = 24 := by kernel_rfl
@[simp] theorem ty_zeroD161 : zeroD Tryd.prog 161 = some [.nils] := by kernel_rfl
@[simp] theorem ty_zeroV161 : zeroValD Tryd.prog 161 = some (.nils) := by kernel_rfl
@[simp] theorem ty_elem161 : elemOfD Tryd.prog 161 = some 5 := by kernel_rfl
@[simp] theorem ty_cells163 : Tryd.prog.cellsOf 163 = 1 := by kernel_rfl
@[simp] theorem ty_bytes163 : Tryd.prog.bytesOf 163 = 8 := by kernel_rfl
@[simp] theorem ty_zeroD163 : zeroD Tryd.prog 163 = none := by kernel_rfl
@[simp] theorem ty_zeroC163 : zeroC Tryd.prog 163 = some [.undef] := by kernel_rfl
@[simp] theorem ty_zeroO163 : zeroO Tryd.prog 163 = some [.undef] := by kernel_rfl
@[simp] theorem ty_cells164 : Tryd.prog.cellsOf 164 = 1 := by kernel_rfl
@[simp] theorem ty_bytes164 : Tryd.prog.bytesOf 164 = 8 := by kernel_rfl
@[simp] theorem ty_zeroD164 : zeroD Tryd.prog 164 = none := by kernel_rfl
@[simp] theorem ty_zeroC164 : zeroC Tryd.prog 164 = some [.undef] := by kernel_rfl
@[simp] theorem ty_zeroO164 : zeroO Tryd.prog 164 = some [.undef] := by kernel_rfl
@[simp] theorem ty_cells165 : Tryd.prog.cellsOf 165 = 1 := by kernel_rfl
@[simp] theorem ty_bytes165 : Tryd.prog.bytesOf 165 = 8 := by kernel_rfl
@[simp] theorem ty_zeroD165 : zeroD Tryd.prog 165 = none := by kernel_rfl
@[simp] theorem ty_zeroC165 : zeroC Tryd.prog 165 = some [.undef] := by kernel_rfl
@[simp] theorem ty_zeroO165 : zeroO Tryd.prog 165 = some [.undef] := by kernel_rfl
@[simp] theorem ty_cells166 : Tryd.prog.cellsOf 166 = 20 := by kernel_rfl
@[simp] theorem ty_bytes166 : Tryd.prog.bytesOf 166 = 160 := by kernel_rfl
@[simp] theorem ty_zeroD166 : zeroD Tryd.prog 166 = some [.int .u64 0, .int .u64 0, .int .u64 0, .int .u64 0, .int .u64 0, .int .u64 0, .int .u64 0, .int .u64 0, .int .u64 0, .int .u64 0, .int .u64 0, .int .u64 0, .int .u64 0, .int .u64 0, .int .u64 0, .int .u64 0, .int .u64 0, .int .u64 0, .int .u64 0, .int .u64 0] := by kernel_rfl
@[simp] theorem ty_cells167 : Tryd.prog.cellsOf 167 = 1 := by kernel_rfl
@[simp] theorem ty_bytes167 : Tryd.prog.bytesOf 167 = 4 := by kernel_rfl
@[simp] theorem ty_zeroD167 : zeroD Tryd.prog 167 = some [.int .u32 0] := by kernel_rfl
@[simp] theorem ty_zeroV167 : zeroValD Tryd.prog 167 = some (.int .u32 0) := by kernel_rfl
@[simp] theorem ty_cells168 : Tryd.prog.cellsOf 168 = 65 := by kernel_rfl
@[simp] theorem ty_bytes168 : Tryd.prog.bytesOf 168 = 65 := by kernel_rfl
@[simp] theorem ty_cells169 : Tryd.prog.cellsOf 169 = 1 := by kernel_rfl
@[simp] theorem ty_bytes169 : Tryd.prog.bytesOf 169 = 8 := by kernel_rfl
@[simp] theorem ty_zeroD169 : zeroD Tryd.prog 169 = none := by kernel_rfl
@[simp] theorem ty_zeroC169 : zeroC Tryd.prog 169 = some [.undef] := by kernel_rfl
@[simp] theorem ty_zeroO169 : zeroO Tryd.prog 169 = some [.undef] := by kernel_rfl
@[simp] theorem ty_cells170 : Tryd.prog.cellsOf 170 = 1 := by kernel_rfl
@[simp] theorem ty_bytes170 : Tryd.prog.bytesOf 170 = 8 := by kernel_rfl
@[simp] theorem ty_zeroD170 : zeroD Tryd.prog 170 = some [.int .u64 0] := by kernel_rfl
@[simp] theorem ty_zeroV170 : zeroValD Tryd.prog 170 = some (.int .u64 0) := by kernel_rfl
@[simp] theorem ty_cells171 : Tryd.prog.cellsOf 171 = 1 := by kernel_rfl
@[simp] theorem ty_bytes171 : Tryd.prog.bytesOf 171 = 8 := by kernel_rfl
@[simp] theorem ty_zeroD171 : zeroD Tryd.prog 171 = none := by kernel_rfl
@[simp] theorem ty_zeroC171 : zeroC Tryd.prog 171 = some [.undef] := by kernel_rfl
@[simp] theorem ty_zeroO171 : zeroO Tryd.prog 171 = some [.undef] := by kernel_rfl
@[simp] theorem ty_cells172 : Tryd.prog.cellsOf 172 = 1 := by kernel_rfl
@[simp] theorem ty_bytes172 : Tryd.prog.bytesOf 172 = 8 := by kernel_rfl
@[simp] theorem ty_zeroD172 : zeroD Tryd.prog 172 = none := by kernel_rfl
@[simp] theorem ty_zeroC172 : zeroC Tryd.prog 172 = some [.undef] := by kernel_rfl
@[simp] theorem ty_zeroO172 : zeroO Tryd.prog 172 = some [.undef] := by kernel_rfl
@[simp] theorem ty_cells173 : Tryd.prog.cellsOf 173 = 1 := by kernel_rfl
@[simp] theorem ty_bytes173 : Tryd.prog.bytesOf 173 = 8 := by kernel_rfl
@[simp] theorem ty_zeroD173 : zeroD Tryd.prog 173 = none := by kernel_rfl
@[simp] theorem ty_zeroC173 : zeroC Tryd.prog 173 = some [.undef] := by kernel_rfl
@[simp] theorem ty_zeroO173 : zeroO Tryd.prog 173 = some [.undef] := by kernel_rfl
@[simp] theorem ty_cells174 : Tryd.prog.cellsOf 174 = 1 := by kernel_rfl
@[simp] theorem ty_bytes174 : Tryd.prog.bytesOf 174 = 8 := by kernel_rfl
@[simp] theorem ty_zeroD174 : zeroD Tryd.prog 174 = none := by kernel_rfl
@[simp] theorem ty_zeroC174 : zeroC Tryd.prog 174 = some [.undef] := by kernel_rfl
@[simp] theorem ty_zeroO174 : zeroO Tryd.prog 174 = some [.undef] := by kernel_rfl
@[simp] theorem ty_cells175 : Tryd.prog.cellsOf 175 = 32 := by kernel_rfl
@[simp] theorem ty_bytes175 : Tryd.prog.bytesOf 175 = 32 := by kernel_rfl
@[simp] theorem ty_zeroD175 : zeroD Tryd.prog 175 = some [.int .u8 0, .int .u8 0, .int .u8 0, .int .u8 0, .int .u8 0, .int .u8 0, .int .u8 0, .int .u8 0, .int .u8 0, .int .u8 0, .int .u8 0, .int .u8 0, .int .u8 0, .int .u8 0, .int .u8 0, .int .u8 0, .int .u8 0, .int .u8 0, .int .u8 0, .int .u8 0, .int .u8 0, .int .u8 0, .int .u8 0, .int .u8 0, .int .u8 0, .int .u8 0, .int .u8 0, .int .u8 0, .int .u8 0, .int .u8 0, .int .u8 0, .int .u8 0] := by kernel_rfl
@[simp] theorem ty_cells176 : Tryd.prog.cellsOf 176 = 64 := by kernel_rfl
@[simp] theorem ty_bytes176 : Tryd.prog.bytesOf 176 = 64 := by kernel_rfl
@[simp] theorem ty_zeroD176 : zeroD Tryd.prog 176 = some [.int .u8 0, .int .u8 0, .int .u8 0, .int .u8 0, .int .u8 0, .int .u8 0, .int .u8 0, .int .u8 0, .int .u8 0, .int .u8 0, .int .u8 0, .int .u8 0, .int .u8 0, .int .u8 0, .int .u8 0, .int .u8 0, .int .u8 0, .int .u8 0, .int .u8 0, .int .u8 0, .int .u8 0, .int .u8 0, .int .u8 0, .int .u8 0, .int .u8 0, .int .u8 0, .int .u8 0, .int .u8 0, .int .u8 0, .int .u8 0, .int .u8 0, .int .u8 0, .int .u8 0, .int .u8 0, .int .u8 0, .int .u8 0, .int .u8 0, .int .u8 0, .int .u8 0, .int .u8 0, .int .u8 0, .int .u8 0, .int .u8 0, .int .u8 0, .int .u8 0, .int .u8 0, .int .u8 0, .int .u8 0, .int .u8 0, .int .u8 0, .int .u8 0, .int .u8 0, .int .u8 0, .int .u8 0, .int .u8 0, .int .u8 0, .int .u8 0, .int .u8 0, .int .u8 0, .int .u8 0, .int .u8 0, .int .u8 0, .int .u8 0, .int .u8 0] := by kernel_rfl
@[simp] theorem ty_cells177 : Tryd.prog.cellsOf 177 = 1 := by kernel_rfl
@[simp] theorem ty_bytes177 : Tryd.prog.bytesOf 177 = 8 := by kernel_rfl
@[simp] theorem ty_zeroD177 : zeroD Tryd.prog 177 = none := by kernel_rfl
@[simp] theorem ty_zeroC177 : zeroC Tryd.prog 177 = some [.undef] := by kernel_rfl
@[simp] theorem ty_zeroO177 : zeroO Tryd.prog 177 = some [.undef] := by kernel_rfl
@[simp] theorem ty_cells178 : Tryd.prog.cellsOf 178 = 4 := by kernel_rfl
@[simp] theorem ty_bytes178 : Tryd.prog.bytesOf 178 = 40 := by kernel_rfl
@[simp] theorem ty_zeroD178 : zeroD Tryd.prog 178 = none := by kernel_rfl
@[simp] theorem ty_zeroC178 : zeroC Tryd.prog 178 = some [.nilp 178, .nilp 178, .nilp 178, .d (.str [])] := by kernel_rfl
@[simp] theorem ty_zeroO178 : zeroO Tryd.prog 178 = some [.undef, .undef, .undef, .d (.str [])] := by kernel_rfl
@[simp] theorem ty_field178_0 : fieldOf Tryd.prog 178 0 = some (0, 17) := by kernel_rfl
@[simp] theorem ty_field178_1 : fieldOf Tryd.prog 178 1 = some (1, 17) := by kernel_rfl
@[simp] theorem ty_field178_2 : fieldOf Tryd.prog 178 2 = some (2, 17) := by kernel_rfl
@[simp] theorem ty_field178_3 : fieldOf Tryd.prog 178 3 = some (3, 9) := by kernel_rfl
@[simp] theorem ty_cells179 : Tryd.prog.cellsOf 179 = 4 := by kernel_rfl
@[simp] theorem ty_bytes179 : Tryd.prog.bytesOf 179 = 40 := by kernel_rfl
@[simp] theorem ty_zeroD179 : zeroD Tryd.prog 179 = none := by kernel_rfl
@[simp] theorem ty_zeroC179 : zeroC Tryd.prog 179 = some [.nilp 179, .nilp 179, .nilp 179, .d (.str [])] := by kernel_rfl
@[simp] theorem ty_zeroO179 : zeroO Tryd.prog 179 = some [.undef, .undef, .undef, .d (.str [])] := by kernel_rfl
@[simp] theorem ty_field179_0 : fieldOf Tryd.prog 179 0 = some (0, 17) := by kernel_rfl
@[simp] theorem ty_field179_1 : fieldOf Tryd.prog 179 1 = some (1, 17) := by kernel_rfl
@[simp] theorem ty_field179_2 : fieldOf Tryd.prog 179 2 = some (2, 17) := by kernel_rfl
@[simp] theorem ty_field179_3 : fieldOf Tryd.prog 179 3 = some (3, 9) := by kernel_rfl
@[simp] theorem ty_cells180 : Tryd.prog.cellsOf 180 = 0 := by kernel_rfl
@[simp] theorem ty_bytes180 : Tryd.prog.bytesOf 180 = 0 := by kernel_rfl
@[simp] theorem ty_cells181 : Tryd.prog.cellsOf 181 = 0 := by kernel_rfl
@[simp] theorem ty_bytes181 : Tryd.prog.bytesOf 181 = 0 := by kernel_rfl
@[simp] theorem ty_field181_0 : fieldOf Tryd.prog 181 0 = some (0, 180) := by kernel_rfl
@[simp] theorem ty_cells182 : Tryd.prog.cellsOf 182 = 0 := by kernel_rfl
@[simp] theorem ty_bytes182 : Tryd.prog.bytesOf 182 = 0 := by kernel_rfl
@[simp] theorem ty_field182_0 : fieldOf Tryd.prog 182 0 = some (0, 180) := by kernel_rfl
@[simp] theorem ty_cells183 : Tryd.prog.cellsOf 183 = 1 := by kernel_rfl
@[simp] theorem ty_bytes183 : Tryd.prog.bytesOf 183 = 8 := by kernel_rfl
@[simp] theorem ty_zeroD183 : zeroD Tryd.prog 183 = none := by kernel_rfl
@[simp] theorem ty_zeroC183 : zeroC Tryd.prog 183 = some [.undef] := by kernel_rfl
@[simp] theorem ty_zeroO183 : zeroO Tryd.prog 183 = some [.undef] := by kernel_rfl
@[simp] theorem ty_cells184 : Tryd.prog.cellsOf 184 = 1 := by kernel_rfl
@[simp] theorem ty_bytes184 : Tryd.prog.bytesOf 184 = 1 := by kernel_rfl
@[simp] theorem ty_zeroD184 : zeroD Tryd.prog 184 = some [.int .u8 0] := by kernel_rfl
@[simp] theorem ty_zeroV184 : zeroValD Tryd.prog 184 = some (.int .u8 0) := by kernel_rfl
@[simp] theorem ty_cells185 : Tryd.prog.cellsOf 185 = 1 := by kernel_rfl
@[simp] theorem ty_bytes185 : Tryd.prog.bytesOf 185 = 1 := by kernel_rfl
@[simp] theorem ty_zeroD185 : zeroD Tryd.prog 185 = some [.int .u8 0] := by kernel_rfl
@[simp] theorem ty_zeroV185 : zeroValD Tryd.prog 185 = some (.int .u8 0) := by kernel_rfl
@[simp] theorem ty_cells186 : Tryd.prog.cellsOf 186 = 1 := by kernel_rfl
@[simp] theorem ty_bytes186 : Tryd.prog.bytesOf 186 = 8 := by kernel_rfl
@[simp] theorem ty_zeroD186 : zeroD Tryd.prog 186 = none := by kernel_rfl
@[simp] theorem ty_zeroC186 : zeroC Tryd.prog 186 = some [.undef] := by kernel_rfl
@[simp] theorem ty_zeroO186 : zeroO Tryd.prog 186 = some [.undef] := by kernel_rfl
@[simp] theorem ty_cells187 : Tryd.prog.cellsOf 187 = 1 := by kernel_rfl
@[simp] theorem ty_bytes187 : Tryd.prog.bytesOf 187 = 8 := by kernel_rfl
@[simp] theorem ty_zeroD187 : zeroD Tryd.prog 187 = none := by kernel_rfl
@[simp] theorem ty_zeroC187 : zeroC Tryd.prog 187 = some [.nilp 187] := by kernel_rfl
@[simp] theorem ty_zeroO187 : zeroO Tryd.prog 187 = some [.undef] := by kernel_rfl
@[simp] theorem ty_cells188 : Tryd.prog.cellsOf 188 = 1 := by kernel_rfl
@[simp] theorem ty_bytes188 : Tryd.prog.bytesOf 188 = 4 := by kernel_rfl
@[simp] theorem ty_zeroD188 : zeroD Tryd.prog 188 = some [.int .i32 0] := by kernel_rfl
@[simp] theorem ty_zeroV188 : zeroValD Tryd.prog 188 = some (.int .i32 0) := by kernel_rfl
@[simp] theorem ty_cells189 : Tryd.prog.cellsOf 189 = 1 := by kernel_rfl
@[simp] theorem ty_bytes189 : Tryd.prog.bytesOf 189 = 4 := by kernel_rfl
@[simp] theorem ty_zeroD189 : zeroD Tryd.prog 189 = some [.int .i32 0] := by kernel_rfl
@[simp] theorem ty_zeroV189 : zeroValD Tryd.prog 189 = some (.int .i32 0) := by kernel_rfl
@[simp] theorem ty_cells190 : Tryd.prog.cellsOf 190 = 11 := by kernel_rfl
@[simp] theorem ty_bytes190 : Tryd.prog.bytesOf 190 = 48 := by kernel_rfl
@[simp] theorem ty_zeroD190 : zeroD Tryd.prog 190 = none := by kernel_rfl
@[simp] theorem ty_zeroC190 : zeroC Tryd.prog 190 = some [.d (.int .u64 0), .d (.int .u64 0), .d (.int .u32 0), .d (.int .u8 0), .d (.int .u8 0), .d (.int .u8 0), .d (.int .u8 0), .undef, .nilp 190, .d (.int .i32 0), .d (.int .i32 0)] := by kernel_rfl
@[simp] theorem ty_zeroO190 : zeroO Tryd.prog 190 = some [.d (.int .u64 0), .d (.int .u64 0), .d (.int .u32 0), .d (.int .u8 0), .d (.int .u8 0), .d (.int .u8 0), .d (.int .u8 0), .undef, .undef, .d (.int .i32 0), .d (.int .i32 0)] := by kernel_rfl
@[simp] theorem ty_field190_0 : fieldOf Tryd.prog 190 0 = some (0, 12) := by kernel_rfl
@[simp] theorem ty_field190_1 : fieldOf Tryd.prog 190 1 = some (1, 12) := by kernel_rfl
@[simp] theorem ty_field190_2 : fieldOf Tryd.prog 190 2 = some (2, 167) := by kernel_rfl
@[simp] theorem ty_field190_3 : fieldOf Tryd.prog 190 3 = some (3, 184) := by kernel_rfl
@[simp] theorem ty_field190_4 : fieldOf Tryd.prog 190 4 = some (4, 5) := by kernel_rfl
@[simp] theorem ty_field190_5 : fieldOf Tryd.prog 190 5 = some (5, 5) := by kernel_rfl
@[simp] theorem ty_field190_6 : fieldOf Tryd.prog 190 6 = some (6, 185) := by kernel_rfl
@[simp] theorem ty_field190_7 : fieldOf Tryd.prog 190 7 = some (7, 186) := by kernel_rfl
@[simp] theorem ty_field190_8 : fieldOf Tryd.prog 190 8 = some (8, 187) := by kernel_rfl
@[simp] theorem ty_field190_9 : fieldOf Tryd.prog 190 9 = some (9, 188) := by kernel_rfl
@[simp] theorem ty_field190_10 : fieldOf Tryd.prog 190 10 = some (10, 189) := by kernel_rfl
@[simp] theorem ty_cells191 : Tryd.prog.cellsOf 191 = 11 := by kernel_rfl
@[simp] theorem ty_bytes191 : Tryd.prog.bytesOf 191 = 48 := by kernel_rfl
@[simp] theorem ty_zeroD191 : zeroD Tryd.prog 191 = none := by kernel_rfl
@[simp] theorem ty_zeroC191 : zeroC Tryd.prog 191 = some [.d (.int .u64 0), .d (.int .u64 0), .d (.int .u32 0), .d (.int .u8 0), .d (.int .u8 0), .d (.int .u8 0), .d (.int .u8 0), .undef, .nilp 191, .d (.int .i32 0), .d (.int .i32 0)] := by kernel_rfl
@[simp] theorem ty_zeroO191 : zeroO Tryd.prog 191 = some [.d (.int .u64 0), .d (.int .u64 0), .d (.int .u32 0), .d (.int .u8 0), .d (.int .u8 0), .d (.int .u8 0), .d (.int .u8 0), .undef, .undef, .d (.int .i32 0), .d (.int .i32 0)] := by kernel_rfl
@[simp] theorem ty_field191_0 : fieldOf Tryd.prog 191 0 = some (0, 12) := by kernel_rfl
@[simp] theorem ty_field191_1 : fieldOf Tryd.prog 191 1 = some (1, 12) := by kernel_rfl
@[simp] theorem ty_field191_2 : fieldOf Tryd.prog 191 2 = some (2, 167) := by kernel_rfl
@[simp] theorem ty_field191_3 : fieldOf Tryd.prog 191 3 = some (3, 184) := by kernel_rfl
@[simp] theorem ty_field191_4 : fieldOf Tryd.prog 191 4 = some (4, 5) := by kernel_rfl
@[simp] theorem ty_field191_5 : fieldOf Tryd.prog 191 5 = some (5, 5) := by kernel_rfl
@[simp] theorem ty_field191_6 : fieldOf Tryd.prog 191 6 = some (6, 185) := by kernel_rfl
@[simp] theorem ty_field191_7 : fieldOf Tryd.prog 191 7 = some (7, 186) := by kernel_rfl
@[simp] theorem ty_field191_8 : fieldOf Tryd.prog 191 8 = some (8, 187) := by kernel_rfl
@[simp] theorem ty_field191_9 : fieldOf Tryd.prog 191 9 = some (9, 188) := by kernel_rfl
@[simp] theorem ty_field191_10 : fieldOf Tryd.prog 191 10 = some (10, 189) := by kernel_rfl
@[simp] theorem ty_cells192 : Tryd.prog.cellsOf 192 = 1 := by kernel_rfl
@[simp] theorem ty_bytes192 : Tryd.prog.bytesOf 192 = 24 := by kernel_rfl
@[simp] theorem ty_zeroD192 : zeroD Tryd.prog 192 = some [.nils] := by kernel_rfl
@[simp] theorem ty_zeroV192 : zeroValD Tryd.prog 192 = some (.nils) := by kernel_rfl
@[simp] theorem ty_elem192 : elemOfD Tryd.prog 192 = some 214 := by kernel_rfl
@[simp] theorem ty_cells193 : Tryd.prog.cellsOf 193 = 3 := by kernel_rfl
@[simp] theorem ty_bytes193 : Tryd.prog.bytesOf 193 = 56 := by kernel_rfl
@[simp] theorem ty_zeroD193 : zeroD Tryd.prog 193 = some [.str [], .str [], .nils] := by kernel_rfl
@[simp] theorem ty_zeroV193 : zeroValD Tryd.prog 193 = some (.agg [.str [], .str [], .nils]) := by kernel_rfl
@[simp] theorem ty_isStruct193 : isStruct Tryd.prog 193 = true := by kernel_rfl
@[simp] theorem ty_field193_0 : fieldOf Tryd.prog 193 0 = some (0, 9) := by kernel_rfl
@[simp] theorem ty_field193_1 : fieldOf Tryd.prog 193 1 = some (1, 9) := by kernel_rfl
@[simp] theorem ty_field193_2 : fieldOf Tryd.prog 193 2 = some (2, 192) := by kernel_rfl
@[simp] theorem ty_cells194 : Tryd.prog.cellsOf 194 = 3 := by kernel_rfl
@[simp] theorem ty_bytes194 : Tryd.prog.bytesOf 194 = 56 := by kernel_rfl
@[simp] theorem ty_zeroD194 : zeroD Tryd.prog 194 = some [.str [], .str [], .nils] := by kernel_rfl
@[simp] theorem ty_zeroV194 : zeroValD Tryd.prog 194 = some (.agg [.str [], .str [], .nils]) := by kernel_rfl
@[simp] theorem ty_isStruct194 : isStruct Tryd.prog 194 = true := by kernel_rfl
@[simp] theorem ty_field194_0 : fieldOf Tryd.prog 194 0 = some (0, 9) := by kernel_rfl
@[simp] theorem ty_field194_1 : fieldOf Tryd.prog 194 1 = some (1, 9) := by kernel_rfl
@[simp] theorem ty_field194_2 : fieldOf Tryd.prog 194 2 = some (2, 192) := by kernel_rfl
@[simp] theorem ty_cells195 : Tryd.prog.cellsOf 195 = 12 := by kernel_rfl
@[simp] theorem ty_bytes195 : Tryd.prog.bytesOf 195 = 216 := by kernel_rfl
@[simp] theorem ty_zeroD195 : zeroD Tryd.prog 195 = some [.str [], .int .i64 0, .str [], .nils, .nils, .int .i64 0, .str [], .int .i64 0, .nils, .nils, .nils, .nils] := by kernel_rfl
@[simp] theorem ty_zeroV195 : zeroValD Tryd.prog 195 = some (.agg [.str [], .int .i64 0, .str [], .nils, .nils, .int .i64 0, .str [], .int .i64 0, .nils, .nils, .nils, .nils]) := by kernel_rfl
@[simp] theorem ty_isStruct195 : isStruct Tryd.prog 195 = true := by kernel_rfl
@[simp] theorem ty_field195_0 : fieldOf Tryd.prog 195 0 = some (0, 9) := by kernel_rfl
@[simp] theorem ty_field195_1 : fieldOf Tryd.prog 195 1 = some (1, 38) := by kernel_rfl
@[simp] theorem ty_field195_2 : fieldOf Tryd.prog 195 2 = some (10, 60) := by kernel_rfl
@[simp] theorem ty_field195_3 : fieldOf Tryd.prog 195 3 = some (11, 27) := by kernel_rfl
@[simp] theorem ty_cells196 : Tryd.prog.cellsOf 196 = 12 := by kernel_rfl
@[simp] theorem ty_bytes196 : Tryd.prog.bytesOf 196 = 216 := by kernel_rfl
@[simp] theorem ty_zeroD196 : zeroD Tryd.prog 196 = some [.str [], .int .i64 0, .str [], .nils, .nils, .int .i64 0, .str [], .int .i64 0, .nils, .nils, .nils, .nils] := by kernel_rfl
@[simp] theorem ty_zeroV196 : zeroValD Tryd.prog 196 = some (.agg [.str [], .int .i64 0, .str [], .nils, .nils, .int .i64 0, .str [], .int .i64 0, .nils, .nils, .nils, .nils]) := by kernel_rfl
@[simp] theorem ty_isStruct196 : isStruct Tryd.prog 196 = true := by kernel_rfl
@[simp] theorem ty_field196_0 : fieldOf Tryd.prog 196 0 = some (0, 9) := by kernel_rfl
@[simp] theorem ty_field196_1 : fieldOf Tryd.prog 196 1 = some (1, 38) := by kernel_rfl
@[simp] theorem ty_field196_2 : fieldOf Tryd.prog 196 2 = some (10, 60) := by kernel_rfl
@[simp] theorem ty_field196_3 : fieldOf Tryd.prog 196 3 = some (11, 27) := by kernel_rfl
@[simp] theorem ty_cells197 : Tryd.prog.cellsOf 197 = 1 := by kernel_rfl
@[simp] theorem ty_bytes197 : Tryd.prog.bytesOf 197 = 24 := by kernel_rfl
@[simp] theorem ty_zeroD197 : zeroD Tryd.prog 197 = some [.nils] := by kernel_rfl
@[simp] theorem ty_zeroV197 : zeroValD Tryd.prog 197 = some (.nils) := by kernel_rfl
@[simp] theorem ty_elem197 : elemOfD Tryd.prog 197 = some 216 := by kernel_rfl
@[simp] theorem ty_cells198 : Tryd.prog.cellsOf 198 = 8 := by kernel_rfl
@[simp] theorem ty_bytes198 : Tryd.prog.bytesOf 198 = 128 := by kernel_rfl
@[simp] theorem ty_zeroD198 : zeroD Tryd.prog 198 = some [.str [], .str [], .str [], .nils, .int .i64 0, .str [], .int .i64 0, .nils] := by kernel_rfl
@[simp] theorem ty_zeroV198 : zeroValD Tryd.prog 198 = some (.agg [.str [], .str [], .str [], .nils, .int .i64 0, .str [], .int .i64 0, .nils]) := by kernel_rfl
@[simp] theorem ty_isStruct198 : isStruct Tryd.prog 198 = true := by kernel_rfl
@[simp] theorem ty_field198_0 : fieldOf Tryd.prog 198 0 = some (0, 9) := by kernel_rfl
@[simp] theorem ty_field198_1 : fieldOf Tryd.prog 198 1 = some (1, 9) := by kernel_rfl
@[simp] theorem ty_field198_2 : fieldOf Tryd.prog 198 2 = some (2, 74) := by kernel_rfl
@[simp] theorem ty_field198_3 : fieldOf Tryd.prog 198 3 = some (3, 197) := by kernel_rfl
@[simp] theorem ty_field198_4 : fieldOf Tryd.prog 198 4 = some (4, 36) := by kernel_rfl
@[simp] theorem ty_cells199 : Tryd.prog.cellsOf 199 = 8 := by kernel_rfl
@[simp] theorem ty_bytes199 : Tryd.prog.bytesOf 199 = 128 := by kernel_rfl
@[simp] theorem ty_zeroD199 : zeroD Tryd.prog 199 = some [.str [], .str [], .str [], .nils, .int .i64 0, .str [], .int .i64 0, .nils] := by kernel_rfl
@[simp] theorem ty_zeroV199 : zeroValD Tryd.prog 199 = some (.agg [.str [], .str [], .str [], .nils, .int .i64 0, .str [], .int .i64 0, .nils]) := by kernel_rfl
@[simp] theorem ty_isStruct199 : isStruct Tryd.prog 199 = true := by kernel_rfl
@[simp] theorem ty_field199_0 : fieldOf Tryd.prog 199 0 = some (0, 9) := by kernel_rfl
@[simp] theorem ty_field199_1 : fieldOf Tryd.prog 199 1 = some (1, 9) := by kernel_rfl
@[simp] theorem ty_field199_2 : fieldOf Tryd.prog 199 2 = some (2, 74) := by kernel_rfl
@[simp] theorem ty_field199_3 : fieldOf Tryd.prog 199 3 = some (3, 197) := by kernel_rfl
@[simp] theorem ty_field199_4 : fieldOf Tryd.prog 199 4 = some (4, 36) := by kernel_rfl
@[simp] theorem ty_cells200 : Tryd.prog.cellsOf 200 = 6 := by kernel_rfl
@[simp] theorem ty_bytes200 : Tryd.prog.bytesOf 200 = 96 := by kernel_rfl
@[simp] theorem ty_zeroD200 : zeroD Tryd.prog 200 = some [.str [], .nils, .int .i64 0, .str [], .int .i64 0, .nils] := by kernel_rfl
@[simp] theorem ty_zeroV200 : zeroValD Tryd.prog 200 = some (.agg [.str [], .nils, .int .i64 0, .str [], .int .i64 0, .nils]) := by kernel_rfl
@[simp] theorem ty_isStruct200 : isStruct Tryd.prog 200 = true := by kernel_rfl
@[simp] theorem ty_field200_0 : fieldOf Tryd.prog 200 0 = some (0, 9) := by kernel_rfl
@[simp] theorem ty_field200_1 : fieldOf Tryd.prog 200 1 = some (1, 39) := by kernel_rfl
@[simp] theorem ty_field200_2 : fieldOf Tryd.prog 200 2 = some (2, 36) := by kernel_rfl
@[simp] theorem ty_cells201 : Tryd.prog.cellsOf 201 = 6 := by kernel_rfl
@[simp] theorem ty_bytes201 : Tryd.prog.bytesOf 201 = 96 := by kernel_rfl
@[simp] theorem ty_zeroD201 : zeroD Tryd.prog 201 = some [.str [], .nils, .int .i64 0, .str [], .int .i64 0, .nils] := by kernel_rfl
@[simp] theorem ty_zeroV201 : zeroValD Tryd.prog 201 = some (.agg [.str [], .nils, .int .i64 0, .str [], .int .i64 0, .nils]) := by kernel_rfl
@[simp] theorem ty_isStruct201 : isStruct Tryd.prog 201 = true := by kernel_rfl
@[simp] theorem ty_field201_0 : fieldOf Tryd.prog 201 0 = some (0, 9) := by kernel_rfl
@[simp] theorem ty_field201_1 : fieldOf Tryd.prog 201 1 = some (1, 39) := by kernel_rfl
@[simp] theorem ty_field201_2 : fieldOf Tryd.prog 201 2 = some (2, 36) := by kernel_rfl
@[simp] theorem ty_cells202 : Tryd.prog.cellsOf 202 = 10 := by kernel_rfl
@[simp] theorem ty_bytes202 : Tryd.prog.bytesOf 202 = 168 := by kernel_rfl
@[simp] theorem ty_zeroD202 : zeroD Tryd.prog 202 = some [.str [], .int .i64 0, .str [], .nils, .nils, .int .i64 0, .str [], .int .i64 0, .nils, .nils] := by kernel_rfl
@[simp] theorem ty_zeroV202 : zeroValD Tryd.prog 202 = some (.agg [.str [], .int .i64 0, .str [], .nils, .nils, .int .i64 0, .str [], .int .i64 0, .nils, .nils]) := by kernel_rfl
@[simp] theorem ty_isStruct202 : isStruct Tryd.prog 202 = true := by kernel_rfl
@[simp] theorem ty_field202_0 : fieldOf Tryd.prog 202 0 = some (0, 9) := by kernel_rfl
@[simp] theorem ty_field202_1 : fieldOf Tryd.prog 202 1 = some (1, 38) := by kernel_rfl
@[simp] theorem ty_cells203 : Tryd.prog.cellsOf 203 = 10 := by kernel_rfl
@[simp] theorem ty_bytes203 : Tryd.prog.bytesOf 203 = 168 := by kernel_rfl
@[simp] theorem ty_zeroD203 : zeroD Tryd.prog 203 = some [.str [], .int .i64 0, .str [], .nils, .nils, .int .i64 0, .str [], .int .i64 0, .nils, .nils] := by kernel_rfl
@[simp] theorem ty_zeroV203 : zeroValD Tryd.prog 203 = some (.agg [.str [], .int .i64 0, .str [], .nils, .nils, .int .i64 0, .str [], .int .i64 0, .nils, .nils]) := by kernel_rfl
@[simp] theorem ty_isStruct203 : isStruct Tryd.prog 203 = true := by kernel_rfl
@[simp] theorem ty_field203_0 : fieldOf Tryd.prog 203 0 = some (0, 9) := by kernel_rfl
@[simp] theorem ty_field203_1 : fieldOf Tryd.prog 203 1 = some (1, 38) := by kernel_rfl
@[simp] theorem ty_cells204 : Tryd.prog.cellsOf 204 = 9 := by kernel_rfl
@[simp] theorem ty_bytes204 : Tryd.prog.bytesOf 204 = 168 := by kernel_rfl
@[simp] theorem ty_zeroD204 : zeroD Tryd.prog 204 = some [.str [], .nils, .int .i64 0, .str [], .int .i64 0, .nils, .nils, .nils, .nils] := by kernel_rfl
@[simp] theorem ty_zeroV204 : zeroValD Tryd.prog 204 = some (.agg [.str [], .nils, .int .i64 0, .str [], .int .i64 0, .nils, .nils, .nils, .nils]) := by kernel_rfl
@[simp] theorem ty_isStruct204 : isStruct Tryd.prog 204 = true := by kernel_rfl
@[simp] theorem ty_field204_0 : fieldOf Tryd.prog 204 0 = some (0, 9) := by kernel_rfl
@[simp] theorem ty_field204_1 : fieldOf Tryd.prog 204 1 = some (1, 32) := by kernel_rfl
@[simp] theorem ty_field204_2 : fieldOf Tryd.prog 204 2 = some (2, 58) := by kernel_rfl
@[simp] theorem ty_cells205 : Tryd.prog.cellsOf 205 = 9 := by kernel_rfl
@[simp] theorem ty_bytes205 : Tryd.prog.bytesOf 205 = 168 := by kernel_rfl
@[simp] theorem ty_zeroD205 : zeroD Tryd.prog 205 = some [.str [], .nils, .int .i64 0, .str [], .int .i64 0, .nils, .nils, .nils, .nils] := by kernel_rfl
@[simp] theorem ty_zeroV205 : zeroValD Tryd.prog 205 = some (.agg [.str [], .nils, .int .i64 0, .str [], .int .i64 0, .nils, .nils, .nils, .nils]) := by kernel_rfl
@[simp] theorem ty_isStruct205 : isStruct Tryd.prog 205 = true := by kernel_rfl
@[simp] theorem ty_field205_0 : fieldOf Tryd.prog 205 0 = some (0, 9) := by kernel_rfl
@[simp] theorem ty_field205_1 : fieldOf Tryd.prog 205 1 = some (1, 32) := by kernel_rfl
@[simp] theorem ty_field205_2 : fieldOf Tryd.prog 205 2 = some (2, 58) := by kernel_rfl
@[simp] theorem ty_cells206 : Tryd.prog.cellsOf 206 = 2 := by kernel_rfl
@[simp] theorem ty_bytes206 : Tryd.prog.bytesOf 206 = 32 := by kernel_rfl
@[simp] theorem ty_zeroD206 : zeroD Tryd.prog 206 = some [.str [], .str []] := by kernel_rfl
@[simp] theorem ty_zeroV206 : zeroValD Tryd.prog 206 = some (.agg [.str [], .str []]) := by kernel_rfl
@[simp] theorem ty_isStruct206 : isStruct Tryd.prog 206 = true := by kernel_rfl
@[simp] theorem ty_field206_0 : fieldOf Tryd.prog 206 0 = some (0, 9) := by kernel_rfl
@[simp] theorem ty_field206_1 : fieldOf Tryd.prog 206 1 = some (1, 9) := by kernel_rfl
@[simp] theorem ty_cells207 : Tryd.prog.cellsOf 207 = 2 := by kernel_rfl
@[simp] theorem ty_bytes207 : Tryd.prog.bytesOf 207 = 32 := by kernel_rfl
@[simp] theorem ty_zeroD207 : zeroD Tryd.prog 207 = some [.str [], .str []] := by kernel_rfl
@[simp] theorem ty_zeroV207 : zeroValD Tryd.prog 207 = some (.agg [.str [], .str []]) := by kernel_rfl
@[simp] theorem ty_isStruct207 : isStruct Tryd.prog 207 = true := by kernel_rfl
@[simp] theorem ty_field207_0 : fieldOf Tryd.prog 207 0 = some (0, 9) := by kernel_rfl
@[simp] theorem ty_field207_1 : fieldOf Tryd.prog 207 1 = some (1, 9) := by kernel_rfl
@[simp] theorem ty_flat207 : flatDescs Tryd.prog 207 = some [.string, .string] := by kernel_rfl
@[simp] theorem ty_cells208 : Tryd.prog.cellsOf 208 = 2 := by kernel_rfl
@[simp] theorem ty_bytes208 : Tryd.prog.bytesOf 208 = 32 := by kernel_rfl
@[simp] theorem ty_zeroD208 : zeroD Tryd.prog 208 = some [.str [], .str []] := by kernel_rfl
@[simp] theorem ty_zeroV208 : zeroValD Tryd.prog 208 = some (.agg [.str [], .str []]) := by kernel_rfl
@[simp] theorem ty_isStruct208 : isStruct Tryd.prog 208 = true := by kernel_rfl
@[simp] theorem ty_field208_0 : fieldOf Tryd.prog 208 0 = some (0, 9) := by kernel_rfl
@[simp] theorem ty_field208_1 : fieldOf Tryd.prog 208 1 = some (1, 74) := by kernel_rfl
@[simp] theorem ty_flat208 : flatDescs Tryd.prog 208 = some [.string, .string] := by kernel_rfl
@[simp] theorem ty_cells209 : Tryd.prog.cellsOf 209 = 10 := by kernel_rfl
@[simp] theorem ty_bytes209 : Tryd.prog.bytesOf 209 = 152 := by kernel_rfl
@[simp] theorem ty_zeroD209 : zeroD Tryd.prog 209 = some [.str [], .nils, .int .i64 0, .str [], .int .i64 0, .nils, .int .i64 0, .str [], .int .i64 0, .nils] := by kernel_rfl
@[simp] theorem ty_zeroV209 : zeroValD Tryd.prog 209 = some (.agg [.str [], .nils, .int .i64 0, .str [], .int .i64 0, .nils, .int .i64 0, .str [], .int .i64 0, .nils]) := by kernel_rfl
@[simp] theorem ty_isStruct209 : isStruct Tryd.prog 209 = true := by kernel_rfl
@[simp] theorem ty_field209_0 : fieldOf Tryd.prog 209 0 = some (0, 9) := by kernel_rfl
@[simp] theorem ty_field209_1 : fieldOf Tryd.prog 209 1 = some (1, 39) := by kernel_rfl
@[simp] theorem ty_field209_2 : fieldOf Tryd.prog 209 2 = some (2, 36) := by kernel_rfl
@[simp] theorem ty_field209_3 : fieldOf Tryd.prog 209 3 = some (6, 36) := by kernel_rfl
@[simp] theorem ty_cells210 : Tryd.prog.cellsOf 210 = 10 := by kernel_rfl
@[simp] theorem ty_bytes210 : Tryd.prog.bytesOf 210 = 152 := by kernel_rfl
@[simp] theorem ty_zeroD210 : zeroD Tryd.prog 210 = some [.str [], .nils, .int .i64 0, .str [], .int .i64 0, .nils, .int .i64 0, .str [], .int .i64 0, .nils] := by kernel_rfl
@[simp] theorem ty_zeroV210 : zeroValD Tryd.prog 210 = some (.agg [.str [], .nils, .int .i64 0, .str [], .int .i64 0, .nils, .int .i64 0, .str [], .int .i64 0, .nils]) := by kernel_rfl
@[simp] theorem ty_isStruct210 : isStruct Tryd.prog 210 = true := by kernel_rfl
@[simp] theorem ty_field210_0 : fieldOf Tryd.prog 210 0 = some (0, 9) := by kernel_rfl
@[simp] theorem ty_field210_1 : fieldOf Tryd.prog 210 1 = some (1, 39) := by kernel_rfl
@[simp] theorem ty_field210_2 : fieldOf Tryd.prog 210 2 = some (2, 36) := by kernel_rfl
@[simp] theorem ty_field210_3 : fieldOf Tryd.prog 210 3 = some (6, 36) := by kernel_rfl
@[simp] theorem ty_cells211 : Tryd.prog.cellsOf 211 = 3 := by kernel_rfl
@[simp] theorem ty_bytes211 : Tryd.prog.bytesOf 211 = 64 := by kernel_rfl
@[simp] theorem ty_zeroD211 : zeroD Tryd.prog 211 = some [.str [], .nils, .nils] := by kernel_rfl
@[simp] theorem ty_zeroV211 : zeroValD Tryd.prog 211 = some (.agg [.str [], .nils, .nils]) := by kernel_rfl
@[simp] theorem ty_isStruct211 : isStruct Tryd.prog 211 = true := by kernel_rfl
@[simp] theorem ty_field211_0 : fieldOf Tryd.prog 211 0 = some (0, 9) := by kernel_rfl
@[simp] theorem ty_field211_1 : fieldOf Tryd.prog 211 1 = some (1, 32) := by kernel_rfl
@[simp] theorem ty_field211_2 : fieldOf Tryd.prog 211 2 = some (2, 31) := by kernel_rfl
@[simp] theorem ty_cells212 : Tryd.prog.cellsOf 212 = 3 := by kernel_rfl
@[simp] theorem ty_bytes212 : Tryd.prog.bytesOf 212 = 64 := by kernel_rfl
@[simp] theorem ty_zeroD212 : zeroD Tryd.prog 212 = some [.str [], .nils, .nils] := by kernel_rfl
@[simp] theorem ty_zeroV212 : zeroValD Tryd.prog 212 = some (.agg [.str [], .nils, .nils]) := by kernel_rfl
@[simp] theorem ty_isStruct212 : isStruct Tryd.prog 212 = true := by kernel_rfl
@[simp] theorem ty_field212_0 : fieldOf Tryd.prog 212 0 = some (0, 9) := by kernel_rfl
@[simp] theorem ty_field212_1 : fieldOf Tryd.prog 212 1 = some (1, 32) := by kernel_rfl
@[simp] theorem ty_field212_2 : fieldOf Tryd.prog 212 2 = some (2, 31) := by kernel_rfl
@[simp] theorem ty_cells214 : Tryd.prog.cellsOf 214 = 10 := by kernel_rfl
@[simp] theorem ty_bytes214 : Tryd.prog.bytesOf 214 = 168 := by kernel_rfl
@[simp] theorem ty_zeroD214 : zeroD Tryd.prog 214 = some [.str [], .int .i64 0, .str [], .nils, .nils, .int .i64 0, .str [], .int .i64 0, .nils, .nils] := by kernel_rfl
@[simp] theorem ty_zeroV214 : zeroValD Tryd.prog 214 = some (.agg [.str [], .int .i64 0, .str [], .nils, .nils, .int .i64 0, .str [], .int .i64 0, .nils, .nils]) := by kernel_rfl
@[simp] theorem ty_isStruct214 : isStruct Tryd.prog 214 = true := by kernel_rfl
@[simp] theorem ty_field214_0 : fieldOf Tryd.prog 214 0 = some (0, 9) := by kernel_rfl
@[simp] theorem ty_field214_1 : fieldOf Tryd.prog 214 1 = some (1, 38) := by kernel_rfl
@[simp] theorem ty_cells215 : Tryd.prog.cellsOf 215 = 6 := by kernel_rfl
@[simp] theorem ty_bytes215 : Tryd.prog.bytesOf 215 = 96 := by kernel_rfl
@[simp] theorem ty_zeroD215 : zeroD Tryd.prog 215 = some [.str [], .nils, .int .i64 0, .str [], .int .i64 0, .nils] := by kernel_rfl
@[simp] theorem ty_zeroV215 : zeroValD Tryd.prog 215 = some (.agg [.str [], .nils, .int .i64 0, .str [], .int .i64 0, .nils]) := by kernel_rfl
@[simp] theorem ty_isStruct215 : isStruct Tryd.prog 215 = true := by kernel_rfl
@[simp] theorem ty_field215_0 : fieldOf Tryd.prog 215 0 = some (0, 9) := by kernel_rfl
@[simp] theorem ty_field215_1 : fieldOf Tryd.prog 215 1 = some (1, 32) := by kernel_rfl
@[simp] theorem ty_field215_2 : fieldOf Tryd.prog 215 2 = some (2, 36) := by kernel_rfl
@[simp] theorem ty_cells216 : Tryd.prog.cellsOf 216 = 6 := by kernel_rfl
@[simp] theorem ty_bytes216 : Tryd.prog.bytesOf 216 = 96 := by kernel_rfl
@[simp] theorem ty_zeroD216 : zeroD Tryd.prog 216 = some [.str [], .nils, .int .i64 0, .str [], .int .i64 0, .nils] := by kernel_rfl
@[simp] theorem ty_zeroV216 : zeroValD Tryd.prog 216 = some (.agg [.str [], .nils, .int .i64 0, .str [], .int .i64 0, .nils]) := by kernel_rfl
@[simp] theorem ty_isStruct216 : isStruct Tryd.prog 216 = true := by kernel_rfl
@[simp] theorem ty_field216_0 : fieldOf Tryd.prog 216 0 = some (0, 9) := by kernel_rfl
@[simp] theorem ty_field216_1 : fieldOf Tryd.prog 216 1 = some (1, 32) := by kernel_rfl
@[simp] theorem ty_field216_2 : fieldOf Tryd.prog 216 2 = some (2, 36) := by kernel_rfl
@[simp] theorem ty_elemOk5 : elemOk Tryd.prog 5 = true := by kernel_rfl
@[simp] theorem ty_elemOk9 : elemOk Tryd.prog 9 = true := by kernel_rfl
@[simp] theorem ty_elemOk36 : elemOk Tryd.prog 36 = true := by kernel_rfl
@[simp] theorem ty_elemOk38 : elemOk Tryd.prog 38 = true := by kernel_rfl
@[simp] theorem ty_elemOk58 : elemOk Tryd.prog 58 = true := by kernel_rfl
@[simp] theorem ty_elemOk66 : elemOk Tryd.prog 66 = true := by kernel_rfl
@[simp] theorem ty_elemOk73 : elemOk Tryd.prog 73 = true := by kernel_rfl
@[simp] theorem ty_elemOk74 : elemOk Tryd.prog 74 = true := by kernel_rfl
@[simp] theorem ty_elemOk76 : elemOk Tryd.prog 76 = true := by kernel_rfl
@[simp] theorem ty_elemOk88 : elemOk Tryd.prog 88 = true := by kernel_rfl
@[simp] theorem ty_elemOk92 : elemOk Tryd.prog 92 = true := by kernel_rfl
@[simp] theorem ty_elemOk138 : elemOk Tryd.prog 138 = true := by kernel_rfl
@[simp] theorem ty_elemOk194 : elemOk Tryd.prog 194 = true := by kernel_rfl
@[simp] theorem ty_elemOk196 : elemOk Tryd.prog 196 = true := by kernel_rfl
@[simp] theorem ty_elemOk199 : elemOk Tryd.prog 199 = true := by kernel_rfl
@[simp] theorem ty_elemOk201 : elemOk Tryd.prog 201 = true := by kernel_rfl
@[simp] theorem ty_elemOk203 : elemOk Tryd.prog 203 = true := by kernel_rfl
@[simp] theorem ty_elemOk205 : elemOk Tryd.prog 205 = true := by kernel_rfl
@[simp] theorem ty_elemOk207 : elemOk Tryd.prog 207 = true := by kernel_rfl
@[simp] theorem ty_elemOk208 : elemOk Tryd.prog 208 = true := by kernel_rfl
@[simp] theorem ty_elemOk210 : elemOk Tryd.prog 210 = true := by kernel_rfl
@[simp] theorem ty_elemOk212 : elemOk Tryd.prog 212 = true := by kernel_rfl
@[simp] theorem ty_elemOk214 : elemOk Tryd.prog 214 = true := by kernel_rfl
@[simp] theorem ty_elemOk216 : elemOk Tryd.prog 216 = true := by kernel_rfl
end Go.Proofs.YtmjpdmkgmlhfaaaDoor
