/- The facts on this translation's types that the machine on data asks, one closed fact each. By a program of ours. No condition. -/
import Derived.Test.YtlglfkdjlbcpjaaGreatDoorZF
import Derived.KernelRfl
import Derived.Test.YtlglfkdjlbcpjaaGreatDoorProg
set_option linter.unusedVariables false
set_option linter.unusedSimpArgs false
namespace Go.Proofs.YtlglfkdjlbcpjaaGreatDoor
open Go Go.VM
@[simp] theorem ty_cells1 : Tryz.prog.cellsOf 1 = 1 := by kernel_rfl
@[simp] theorem ty_bytes1 : Tryz.prog.bytesOf 1 = 8 := by kernel_rfl
@[simp] theorem ty_zeroD1 : zeroD Tryz.prog 1 = none := by kernel_rfl
@[simp] theorem ty_zeroC1 : zeroC Tryz.prog 1 = some [.undef] := by kernel_rfl
@[simp] theorem ty_zeroO1 : zeroO Tryz.prog 1 = some [.undef] := by kernel_rfl
@[simp] theorem ty_cells2 : Tryz.prog.cellsOf 2 = 1 := by kernel_rfl
@[simp] theorem ty_bytes2 : Tryz.prog.bytesOf 2 = 8 := by kernel_rfl
@[simp] theorem ty_zeroD2 : zeroD Tryz.prog 2 = some [.int .i64 0] := by kernel_rfl
@[simp] theorem ty_zeroV2 : zeroValD Tryz.prog 2 = some (.int .i64 0) := by kernel_rfl
@[simp] theorem ty_cells3 : Tryz.prog.cellsOf 3 = 1 := by kernel_rfl
@[simp] theorem ty_bytes3 : Tryz.prog.bytesOf 3 = 8 := by kernel_rfl
@[simp] theorem ty_zeroD3 : zeroD Tryz.prog 3 = some [.int .i64 0] := by kernel_rfl
@[simp] theorem ty_zeroV3 : zeroValD Tryz.prog 3 = some (.int .i64 0) := by kernel_rfl
@[simp] theorem ty_cells4 : Tryz.prog.cellsOf 4 = 1 := by kernel_rfl
@[simp] theorem ty_bytes4 : Tryz.prog.bytesOf 4 = 1 := by kernel_rfl
@[simp] theorem ty_zeroD4 : zeroD Tryz.prog 4 = some [.bool false] := by kernel_rfl
@[simp] theorem ty_zeroV4 : zeroValD Tryz.prog 4 = some (.bool false) := by kernel_rfl
@[simp] theorem ty_cells5 : Tryz.prog.cellsOf 5 = 1 := by kernel_rfl
@[simp] theorem ty_bytes5 : Tryz.prog.bytesOf 5 = 1 := by kernel_rfl
@[simp] theorem ty_zeroD5 : zeroD Tryz.prog 5 = some [.int .u8 0] := by kernel_rfl
@[simp] theorem ty_zeroV5 : zeroValD Tryz.prog 5 = some (.int .u8 0) := by kernel_rfl
@[simp] theorem ty_cells6 : Tryz.prog.cellsOf 6 = 1 := by kernel_rfl
@[simp] theorem ty_bytes6 : Tryz.prog.bytesOf 6 = 1 := by kernel_rfl
@[simp] theorem ty_zeroD6 : zeroD Tryz.prog 6 = some [.int .u8 0] := by kernel_rfl
@[simp] theorem ty_zeroV6 : zeroValD Tryz.prog 6 = some (.int .u8 0) := by kernel_rfl
@[simp] theorem ty_cells7 : Tryz.prog.cellsOf 7 = 4 := by kernel_rfl
@[simp] theorem ty_bytes7 : Tryz.prog.bytesOf 7 = 24 := by kernel_rfl
@[simp] theorem ty_zeroD7 : zeroD Tryz.prog 7 = some [.int .i64 0, .int .i64 0, .bool false, .int .u8 0] := by kernel_rfl
@[simp] theorem ty_zeroV7 : zeroValD Tryz.prog 7 = some (.agg [.int .i64 0, .int .i64 0, .bool false, .int .u8 0]) := by kernel_rfl
@[simp] theorem ty_isStruct7 : isStruct Tryz.prog 7 = true := by kernel_rfl
@[simp] theorem ty_field7_0 : fieldOf Tryz.prog 7 0 = some (0, 2) := by kernel_rfl
@[simp] theorem ty_field7_1 : fieldOf Tryz.prog 7 1 = some (1, 3) := by kernel_rfl
@[simp] theorem ty_field7_2 : fieldOf Tryz.prog 7 2 = some (2, 4) := by kernel_rfl
@[simp] theorem ty_field7_3 : fieldOf Tryz.prog 7 3 = some (3, 6) := by kernel_rfl
@[simp] theorem ty_cells8 : Tryz.prog.cellsOf 8 = 4 := by kernel_rfl
@[simp] theorem ty_bytes8 : Tryz.prog.bytesOf 8 = 24 := by kernel_rfl
@[simp] theorem ty_zeroD8 : zeroD Tryz.prog 8 = some [.int .i64 0, .int .i64 0, .bool false, .int .u8 0] := by kernel_rfl
@[simp] theorem ty_zeroV8 : zeroValD Tryz.prog 8 = some (.agg [.int .i64 0, .int .i64 0, .bool false, .int .u8 0]) := by kernel_rfl
@[simp] theorem ty_isStruct8 : isStruct Tryz.prog 8 = true := by kernel_rfl
@[simp] theorem ty_field8_0 : fieldOf Tryz.prog 8 0 = some (0, 2) := by kernel_rfl
@[simp] theorem ty_field8_1 : fieldOf Tryz.prog 8 1 = some (1, 3) := by kernel_rfl
@[simp] theorem ty_field8_2 : fieldOf Tryz.prog 8 2 = some (2, 4) := by kernel_rfl
@[simp] theorem ty_field8_3 : fieldOf Tryz.prog 8 3 = some (3, 6) := by kernel_rfl
@[simp] theorem ty_cells9 : Tryz.prog.cellsOf 9 = 1 := by kernel_rfl
@[simp] theorem ty_bytes9 : Tryz.prog.bytesOf 9 = 16 := by kernel_rfl
@[simp] theorem ty_zeroD9 : zeroD Tryz.prog 9 = some [.str []] := by kernel_rfl
@[simp] theorem ty_zeroV9 : zeroValD Tryz.prog 9 = some (.str []) := by kernel_rfl
@[simp] theorem ty_cells10 : Tryz.prog.cellsOf 10 = 1 := by kernel_rfl
@[simp] theorem ty_bytes10 : Tryz.prog.bytesOf 10 = 16 := by kernel_rfl
@[simp] theorem ty_zeroD10 : zeroD Tryz.prog 10 = some [.str []] := by kernel_rfl
@[simp] theorem ty_zeroV10 : zeroValD Tryz.prog 10 = some (.str []) := by kernel_rfl
@[simp] theorem ty_cells11 : Tryz.prog.cellsOf 11 = 1 := by kernel_rfl
@[simp] theorem ty_bytes11 : Tryz.prog.bytesOf 11 = 16 := by kernel_rfl
@[simp] theorem ty_zeroD11 : zeroD Tryz.prog 11 = some [.str []] := by kernel_rfl
@[simp] theorem ty_zeroV11 : zeroValD Tryz.prog 11 = some (.str []) := by kernel_rfl
@[simp] theorem ty_cells12 : Tryz.prog.cellsOf 12 = 1 := by kernel_rfl
@[simp] theorem ty_bytes12 : Tryz.prog.bytesOf 12 = 8 := by kernel_rfl
@[simp] theorem ty_zeroD12 : zeroD Tryz.prog 12 = some [.int .u64 0] := by kernel_rfl
@[simp] theorem ty_zeroV12 : zeroValD Tryz.prog 12 = some (.int .u64 0) := by kernel_rfl
@[simp] theorem ty_cells13 : Tryz.prog.cellsOf 13 = 2 := by kernel_rfl
@[simp] theorem ty_bytes13 : Tryz.prog.bytesOf 13 = 24 := by kernel_rfl
@[simp] theorem ty_zeroD13 : zeroD Tryz.prog 13 = some [.str [], .int .u64 0] := by kernel_rfl
@[simp] theorem ty_zeroV13 : zeroValD Tryz.prog 13 = some (.agg [.str [], .int .u64 0]) := by kernel_rfl
@[simp] theorem ty_isStruct13 : isStruct Tryz.prog 13 = true := by kernel_rfl
@[simp] theorem ty_field13_0 : fieldOf Tryz.prog 13 0 = some (0, 9) := by kernel_rfl
@[simp] theorem ty_field13_1 : fieldOf Tryz.prog 13 1 = some (1, 12) := by kernel_rfl
@[simp] theorem ty_cells14 : Tryz.prog.cellsOf 14 = 2 := by kernel_rfl
@[simp] theorem ty_bytes14 : Tryz.prog.bytesOf 14 = 24 := by kernel_rfl
@[simp] theorem ty_zeroD14 : zeroD Tryz.prog 14 = some [.str [], .int .u64 0] := by kernel_rfl
@[simp] theorem ty_zeroV14 : zeroValD Tryz.prog 14 = some (.agg [.str [], .int .u64 0]) := by kernel_rfl
@[simp] theorem ty_isStruct14 : isStruct Tryz.prog 14 = true := by kernel_rfl
@[simp] theorem ty_field14_0 : fieldOf Tryz.prog 14 0 = some (0, 9) := by kernel_rfl
@[simp] theorem ty_field14_1 : fieldOf Tryz.prog 14 1 = some (1, 12) := by kernel_rfl
@[simp] theorem ty_cells15 : Tryz.prog.cellsOf 15 = 1 := by kernel_rfl
@[simp] theorem ty_bytes15 : Tryz.prog.bytesOf 15 = 8 := by kernel_rfl
@[simp] theorem ty_zeroD15 : zeroD Tryz.prog 15 = none := by kernel_rfl
@[simp] theorem ty_zeroC15 : zeroC Tryz.prog 15 = some [.nilp 15] := by kernel_rfl
@[simp] theorem ty_zeroO15 : zeroO Tryz.prog 15 = some [.undef] := by kernel_rfl
@[simp] theorem ty_cells16 : Tryz.prog.cellsOf 16 = 1 := by kernel_rfl
@[simp] theorem ty_bytes16 : Tryz.prog.bytesOf 16 = 8 := by kernel_rfl
@[simp] theorem ty_zeroD16 : zeroD Tryz.prog 16 = none := by kernel_rfl
@[simp] theorem ty_zeroC16 : zeroC Tryz.prog 16 = some [.nilp 16] := by kernel_rfl
@[simp] theorem ty_zeroO16 : zeroO Tryz.prog 16 = some [.undef] := by kernel_rfl
@[simp] theorem ty_cells17 : Tryz.prog.cellsOf 17 = 1 := by kernel_rfl
@[simp] theorem ty_bytes17 : Tryz.prog.bytesOf 17 = 8 := by kernel_rfl
@[simp] theorem ty_zeroD17 : zeroD Tryz.prog 17 = none := by kernel_rfl
@[simp] theorem ty_zeroC17 : zeroC Tryz.prog 17 = some [.nilp 17] := by kernel_rfl
@[simp] theorem ty_zeroO17 : zeroO Tryz.prog 17 = some [.undef] := by kernel_rfl
@[simp] theorem ty_cells18 : Tryz.prog.cellsOf 18 = 1 := by kernel_rfl
@[simp] theorem ty_bytes18 : Tryz.prog.bytesOf 18 = 8 := by kernel_rfl
@[simp] theorem ty_zeroD18 : zeroD Tryz.prog 18 = none := by kernel_rfl
@[simp] theorem ty_zeroC18 : zeroC Tryz.prog 18 = some [.nilp 18] := by kernel_rfl
@[simp] theorem ty_zeroO18 : zeroO Tryz.prog 18 = some [.undef] := by kernel_rfl
@[simp] theorem ty_field18_0 : fieldOf Tryz.prog 18 0 = some (0, 17) := by kernel_rfl
@[simp] theorem ty_cells19 : Tryz.prog.cellsOf 19 = 1 := by kernel_rfl
@[simp] theorem ty_bytes19 : Tryz.prog.bytesOf 19 = 8 := by kernel_rfl
@[simp] theorem ty_zeroD19 : zeroD Tryz.prog 19 = none := by kernel_rfl
@[simp] theorem ty_zeroC19 : zeroC Tryz.prog 19 = some [.nilp 19] := by kernel_rfl
@[simp] theorem ty_zeroO19 : zeroO Tryz.prog 19 = some [.undef] := by kernel_rfl
@[simp] theorem ty_field19_0 : fieldOf Tryz.prog 19 0 = some (0, 17) := by kernel_rfl
@[simp] theorem ty_zeroD20 : zeroD Tryz.prog 20 = none := by kernel_rfl
@[simp] theorem ty_zeroC20 : zeroC Tryz.prog 20 = some [.undef] := by kernel_rfl
@[simp] theorem ty_zeroO20 : zeroO Tryz.prog 20 = some [.undef] := by kernel_rfl
@[simp] theorem ty_cells21 : Tryz.prog.cellsOf 21 = 1 := by kernel_rfl
@[simp] theorem ty_bytes21 : Tryz.prog.bytesOf 21 = 4 := by kernel_rfl
@[simp] theorem ty_zeroD21 : zeroD Tryz.prog 21 = some [.int .i32 0] := by kernel_rfl
@[simp] theorem ty_zeroV21 : zeroValD Tryz.prog 21 = some (.int .i32 0) := by kernel_rfl
@[simp] theorem ty_cells22 : Tryz.prog.cellsOf 22 = 1 := by kernel_rfl
@[simp] theorem ty_bytes22 : Tryz.prog.bytesOf 22 = 8 := by kernel_rfl
@[simp] theorem ty_zeroD22 : zeroD Tryz.prog 22 = some [.int .i64 0] := by kernel_rfl
@[simp] theorem ty_zeroV22 : zeroValD Tryz.prog 22 = some (.int .i64 0) := by kernel_rfl
@[simp] theorem ty_cells23 : Tryz.prog.cellsOf 23 = 1 := by kernel_rfl
@[simp] theorem ty_bytes23 : Tryz.prog.bytesOf 23 = 24 := by kernel_rfl
@[simp] theorem ty_zeroD23 : zeroD Tryz.prog 23 = some [.nils] := by kernel_rfl
@[simp] theorem ty_zeroV23 : zeroValD Tryz.prog 23 = some (.nils) := by kernel_rfl
@[simp] theorem ty_elem23 : elemOfD Tryz.prog 23 = some 25 := by kernel_rfl
@[simp] theorem ty_cells24 : Tryz.prog.cellsOf 24 = 4 := by kernel_rfl
@[simp] theorem ty_bytes24 : Tryz.prog.bytesOf 24 = 56 := by kernel_rfl
@[simp] theorem ty_zeroD24 : zeroD Tryz.prog 24 = some [.int .i64 0, .str [], .int .i64 0, .nils] := by kernel_rfl
@[simp] theorem ty_zeroV24 : zeroValD Tryz.prog 24 = some (.agg [.int .i64 0, .str [], .int .i64 0, .nils]) := by kernel_rfl
@[simp] theorem ty_isStruct24 : isStruct Tryz.prog 24 = true := by kernel_rfl
@[simp] theorem ty_field24_0 : fieldOf Tryz.prog 24 0 = some (0, 22) := by kernel_rfl
@[simp] theorem ty_field24_1 : fieldOf Tryz.prog 24 1 = some (1, 9) := by kernel_rfl
@[simp] theorem ty_field24_2 : fieldOf Tryz.prog 24 2 = some (2, 3) := by kernel_rfl
@[simp] theorem ty_field24_3 : fieldOf Tryz.prog 24 3 = some (3, 23) := by kernel_rfl
@[simp] theorem ty_cells25 : Tryz.prog.cellsOf 25 = 4 := by kernel_rfl
@[simp] theorem ty_bytes25 : Tryz.prog.bytesOf 25 = 56 := by kernel_rfl
@[simp] theorem ty_zeroD25 : zeroD Tryz.prog 25 = some [.int .i64 0, .str [], .int .i64 0, .nils] := by kernel_rfl
@[simp] theorem ty_zeroV25 : zeroValD Tryz.prog 25 = some (.agg [.int .i64 0, .str [], .int .i64 0, .nils]) := by kernel_rfl
@[simp] theorem ty_isStruct25 : isStruct Tryz.prog 25 = true := by kernel_rfl
@[simp] theorem ty_field25_0 : fieldOf Tryz.prog 25 0 = some (0, 22) := by kernel_rfl
@[simp] theorem ty_field25_1 : fieldOf Tryz.prog 25 1 = some (1, 9) := by kernel_rfl
@[simp] theorem ty_field25_2 : fieldOf Tryz.prog 25 2 = some (2, 3) := by kernel_rfl
@[simp] theorem ty_field25_3 : fieldOf Tryz.prog 25 3 = some (3, 23) := by kernel_rfl
@[simp] theorem ty_cells26 : Tryz.prog.cellsOf 26 = 1 := by kernel_rfl
@[simp] theorem ty_bytes26 : Tryz.prog.bytesOf 26 = 8 := by kernel_rfl
@[simp] theorem ty_zeroD26 : zeroD Tryz.prog 26 = none := by kernel_rfl
@[simp] theorem ty_zeroC26 : zeroC Tryz.prog 26 = some [.undef] := by kernel_rfl
@[simp] theorem ty_zeroO26 : zeroO Tryz.prog 26 = some [.undef] := by kernel_rfl
@[simp] theorem ty_cells27 : Tryz.prog.cellsOf 27 = 1 := by kernel_rfl
@[simp] theorem ty_bytes27 : Tryz.prog.bytesOf 27 = 8 := by kernel_rfl
@[simp] theorem ty_zeroD27 : zeroD Tryz.prog 27 = none := by kernel_rfl
@[simp] theorem ty_zeroC27 : zeroC Tryz.prog 27 = some [.undef] := by kernel_rfl
@[simp] theorem ty_zeroO27 : zeroO Tryz.prog 27 = some [.undef] := by kernel_rfl
@[simp] theorem ty_cells28 : Tryz.prog.cellsOf 28 = 1 := by kernel_rfl
@[simp] theorem ty_bytes28 : Tryz.prog.bytesOf 28 = 8 := by kernel_rfl
@[simp] theorem ty_zeroD28 : zeroD Tryz.prog 28 = some [.int .i64 0] := by kernel_rfl
@[simp] theorem ty_zeroV28 : zeroValD Tryz.prog 28 = some (.int .i64 0) := by kernel_rfl
@[simp] theorem ty_cells30 : Tryz.prog.cellsOf 30 = 1 := by kernel_rfl
@[simp] theorem ty_bytes30 : Tryz.prog.bytesOf 30 = 8 := by kernel_rfl
@[simp] theorem ty_zeroD30 : zeroD Tryz.prog 30 = none := by kernel_rfl
@[simp] theorem ty_zeroC30 : zeroC Tryz.prog 30 = some [.undef] := by kernel_rfl
@[simp] theorem ty_zeroO30 : zeroO Tryz.prog 30 = some [.undef] := by kernel_rfl
@[simp] theorem ty_cells31 : Tryz.prog.cellsOf 31 = 1 := by kernel_rfl
@[simp] theorem ty_bytes31 : Tryz.prog.bytesOf 31 = 8 := by kernel_rfl
@[simp] theorem ty_zeroD31 : zeroD Tryz.prog 31 = none := by kernel_rfl
@[simp] theorem ty_zeroC31 : zeroC Tryz.prog 31 = some [.undef] := by kernel_rfl
@[simp] theorem ty_zeroO31 : zeroO Tryz.prog 31 = some [.undef] := by kernel_rfl
@[simp] theorem ty_cells32 : Tryz.prog.cellsOf 32 = 1 := by kernel_rfl
@[simp] theorem ty_bytes32 : Tryz.prog.bytesOf 32 = 24 := by kernel_rfl
@[simp] theorem ty_zeroD32 : zeroD Tryz.prog 32 = some [.nils] := by kernel_rfl
@[simp] theorem ty_zeroV32 : zeroValD Tryz.prog 32 = some (.nils) := by kernel_rfl
@[simp] theorem ty_elem32 : elemOfD Tryz.prog 32 = some 36 := by kernel_rfl
@[simp] theorem ty_cells33 : Tryz.prog.cellsOf 33 = 2 := by kernel_rfl
@[simp] theorem ty_bytes33 : Tryz.prog.bytesOf 33 = 32 := by kernel_rfl
@[simp] theorem ty_zeroD33 : zeroD Tryz.prog 33 = some [.nils, .int .i64 0] := by kernel_rfl
@[simp] theorem ty_zeroV33 : zeroValD Tryz.prog 33 = some (.agg [.nils, .int .i64 0]) := by kernel_rfl
@[simp] theorem ty_isStruct33 : isStruct Tryz.prog 33 = true := by kernel_rfl
@[simp] theorem ty_field33_0 : fieldOf Tryz.prog 33 0 = some (0, 32) := by kernel_rfl
@[simp] theorem ty_field33_1 : fieldOf Tryz.prog 33 1 = some (1, 3) := by kernel_rfl
@[simp] theorem ty_cells34 : Tryz.prog.cellsOf 34 = 2 := by kernel_rfl
@[simp] theorem ty_bytes34 : Tryz.prog.bytesOf 34 = 32 := by kernel_rfl
@[simp] theorem ty_zeroD34 : zeroD Tryz.prog 34 = some [.nils, .int .i64 0] := by kernel_rfl
@[simp] theorem ty_zeroV34 : zeroValD Tryz.prog 34 = some (.agg [.nils, .int .i64 0]) := by kernel_rfl
@[simp] theorem ty_isStruct34 : isStruct Tryz.prog 34 = true := by kernel_rfl
@[simp] theorem ty_field34_0 : fieldOf Tryz.prog 34 0 = some (0, 32) := by kernel_rfl
@[simp] theorem ty_field34_1 : fieldOf Tryz.prog 34 1 = some (1, 3) := by kernel_rfl
@[simp] theorem ty_cells35 : Tryz.prog.cellsOf 35 = 2 := by kernel_rfl
@[simp] theorem ty_bytes35 : Tryz.prog.bytesOf 35 = 24 := by kernel_rfl
@[simp] theorem ty_zeroD35 : zeroD Tryz.prog 35 = some [.str [], .int .i64 0] := by kernel_rfl
@[simp] theorem ty_zeroV35 : zeroValD Tryz.prog 35 = some (.agg [.str [], .int .i64 0]) := by kernel_rfl
@[simp] theorem ty_isStruct35 : isStruct Tryz.prog 35 = true := by kernel_rfl
@[simp] theorem ty_field35_0 : fieldOf Tryz.prog 35 0 = some (0, 9) := by kernel_rfl
@[simp] theorem ty_field35_1 : fieldOf Tryz.prog 35 1 = some (1, 3) := by kernel_rfl
@[simp] theorem ty_cells36 : Tryz.prog.cellsOf 36 = 2 := by kernel_rfl
@[simp] theorem ty_bytes36 : Tryz.prog.bytesOf 36 = 24 := by kernel_rfl
@[simp] theorem ty_zeroD36 : zeroD Tryz.prog 36 = some [.str [], .int .i64 0] := by kernel_rfl
@[simp] theorem ty_zeroV36 : zeroValD Tryz.prog 36 = some (.agg [.str [], .int .i64 0]) := by kernel_rfl
@[simp] theorem ty_isStruct36 : isStruct Tryz.prog 36 = true := by kernel_rfl
@[simp] theorem ty_field36_0 : fieldOf Tryz.prog 36 0 = some (0, 9) := by kernel_rfl
@[simp] theorem ty_field36_1 : fieldOf Tryz.prog 36 1 = some (1, 3) := by kernel_rfl
@[simp] theorem ty_flat36 : flatDescs Tryz.prog 36 = some [.string, .int .i64] := by kernel_rfl
@[simp] theorem ty_cells37 : Tryz.prog.cellsOf 37 = 1 := by kernel_rfl
@[simp] theorem ty_bytes37 : Tryz.prog.bytesOf 37 = 8 := by kernel_rfl
@[simp] theorem ty_zeroD37 : zeroD Tryz.prog 37 = none := by kernel_rfl
@[simp] theorem ty_zeroC37 : zeroC Tryz.prog 37 = some [.undef] := by kernel_rfl
@[simp] theorem ty_zeroO37 : zeroO Tryz.prog 37 = some [.undef] := by kernel_rfl
@[simp] theorem ty_cells38 : Tryz.prog.cellsOf 38 = 1 := by kernel_rfl
@[simp] theorem ty_bytes38 : Tryz.prog.bytesOf 38 = 8 := by kernel_rfl
@[simp] theorem ty_zeroD38 : zeroD Tryz.prog 38 = none := by kernel_rfl
@[simp] theorem ty_zeroC38 : zeroC Tryz.prog 38 = some [.undef] := by kernel_rfl
@[simp] theorem ty_zeroO38 : zeroO Tryz.prog 38 = some [.undef] := by kernel_rfl
@[simp] theorem ty_cells40 : Tryz.prog.cellsOf 40 = 1 := by kernel_rfl
@[simp] theorem ty_bytes40 : Tryz.prog.bytesOf 40 = 8 := by kernel_rfl
@[simp] theorem ty_zeroD40 : zeroD Tryz.prog 40 = none := by kernel_rfl
@[simp] theorem ty_zeroC40 : zeroC Tryz.prog 40 = some [.undef] := by kernel_rfl
@[simp] theorem ty_zeroO40 : zeroO Tryz.prog 40 = some [.undef] := by kernel_rfl
@[simp] theorem ty_cells41 : Tryz.prog.cellsOf 41 = 1 := by kernel_rfl
@[simp] theorem ty_bytes41 : Tryz.prog.bytesOf 41 = 8 := by kernel_rfl
@[simp] theorem ty_zeroD41 : zeroD Tryz.prog 41 = none := by kernel_rfl
@[simp] theorem ty_zeroC41 : zeroC Tryz.prog 41 = some [.undef] := by kernel_rfl
@[simp] theorem ty_zeroO41 : zeroO Tryz.prog 41 = some [.undef] := by kernel_rfl
@[simp] theorem ty_cells42 : Tryz.prog.cellsOf 42 = 1 := by kernel_rfl
@[simp] theorem ty_bytes42 : Tryz.prog.bytesOf 42 = 8 := by kernel_rfl
@[simp] theorem ty_zeroD42 : zeroD Tryz.prog 42 = none := by kernel_rfl
@[simp] theorem ty_zeroC42 : zeroC Tryz.prog 42 = some [.undef] := by kernel_rfl
@[simp] theorem ty_zeroO42 : zeroO Tryz.prog 42 = some [.undef] := by kernel_rfl
@[simp] theorem ty_cells43 : Tryz.prog.cellsOf 43 = 1 := by kernel_rfl
@[simp] theorem ty_bytes43 : Tryz.prog.bytesOf 43 = 24 := by kernel_rfl
@[simp] theorem ty_zeroD43 : zeroD Tryz.prog 43 = some [.nils] := by kernel_rfl
@[simp] theorem ty_zeroV43 : zeroValD Tryz.prog 43 = some (.nils) := by kernel_rfl
@[simp] theorem ty_elem43 : elemOfD Tryz.prog 43 = some 46 := by kernel_rfl
@[simp] theorem ty_cells44 : Tryz.prog.cellsOf 44 = 1 := by kernel_rfl
@[simp] theorem ty_bytes44 : Tryz.prog.bytesOf 44 = 8 := by kernel_rfl
@[simp] theorem ty_zeroD44 : zeroD Tryz.prog 44 = some [.int .i64 0] := by kernel_rfl
@[simp] theorem ty_zeroV44 : zeroValD Tryz.prog 44 = some (.int .i64 0) := by kernel_rfl
@[simp] theorem ty_cells45 : Tryz.prog.cellsOf 45 = 4 := by kernel_rfl
@[simp] theorem ty_bytes45 : Tryz.prog.bytesOf 45 = 40 := by kernel_rfl
@[simp] theorem ty_zeroD45 : zeroD Tryz.prog 45 = some [.int .i64 0, .str [], .int .i64 0, .int .i64 0] := by kernel_rfl
@[simp] theorem ty_zeroV45 : zeroValD Tryz.prog 45 = some (.agg [.int .i64 0, .str [], .int .i64 0, .int .i64 0]) := by kernel_rfl
@[simp] theorem ty_isStruct45 : isStruct Tryz.prog 45 = true := by kernel_rfl
@[simp] theorem ty_field45_0 : fieldOf Tryz.prog 45 0 = some (0, 44) := by kernel_rfl
@[simp] theorem ty_field45_1 : fieldOf Tryz.prog 45 1 = some (1, 9) := by kernel_rfl
@[simp] theorem ty_field45_2 : fieldOf Tryz.prog 45 2 = some (2, 3) := by kernel_rfl
@[simp] theorem ty_field45_3 : fieldOf Tryz.prog 45 3 = some (3, 3) := by kernel_rfl
@[simp] theorem ty_cells46 : Tryz.prog.cellsOf 46 = 4 := by kernel_rfl
@[simp] theorem ty_bytes46 : Tryz.prog.bytesOf 46 = 40 := by kernel_rfl
@[simp] theorem ty_zeroD46 : zeroD Tryz.prog 46 = some [.int .i64 0, .str [], .int .i64 0, .int .i64 0] := by kernel_rfl
@[simp] theorem ty_zeroV46 : zeroValD Tryz.prog 46 = some (.agg [.int .i64 0, .str [], .int .i64 0, .int .i64 0]) := by kernel_rfl
@[simp] theorem ty_isStruct46 : isStruct Tryz.prog 46 = true := by kernel_rfl
@[simp] theorem ty_field46_0 : fieldOf Tryz.prog 46 0 = some (0, 44) := by kernel_rfl
@[simp] theorem ty_field46_1 : fieldOf Tryz.prog 46 1 = some (1, 9) := by kernel_rfl
@[simp] theorem ty_field46_2 : fieldOf Tryz.prog 46 2 = some (2, 3) := by kernel_rfl
@[simp] theorem ty_field46_3 : fieldOf Tryz.prog 46 3 = some (3, 3) := by kernel_rfl
@[simp] theorem ty_flat46 : flatDescs Tryz.prog 46 = some [.int .i64, .string, .int .i64, .int .i64] := by kernel_rfl
@[simp] theorem ty_cells48 : Tryz.prog.cellsOf 48 = 1 := by kernel_rfl
@[simp] theorem ty_bytes48 : Tryz.prog.bytesOf 48 = 8 := by kernel_rfl
@[simp] theorem ty_zeroD48 : zeroD Tryz.prog 48 = none := by kernel_rfl
@[simp] theorem ty_zeroC48 : zeroC Tryz.prog 48 = some [.undef] := by kernel_rfl
@[simp] theorem ty_zeroO48 : zeroO Tryz.prog 48 = some [.undef] := by kernel_rfl
@[simp] theorem ty_cells49 : Tryz.prog.cellsOf 49 = 1 := by kernel_rfl
@[simp] theorem ty_bytes49 : Tryz.prog.bytesOf 49 = 8 := by kernel_rfl
@[simp] theorem ty_zeroD49 : zeroD Tryz.prog 49 = none := by kernel_rfl
@[simp] theorem ty_zeroC49 : zeroC Tryz.prog 49 = some [.undef] := by kernel_rfl
@[simp] theorem ty_zeroO49 : zeroO Tryz.prog 49 = some [.undef] := by kernel_rfl
@[simp] theorem ty_cells51 : Tryz.prog.cellsOf 51 = 1 := by kernel_rfl
@[simp] theorem ty_bytes51 : Tryz.prog.bytesOf 51 = 8 := by kernel_rfl
@[simp] theorem ty_zeroD51 : zeroD Tryz.prog 51 = none := by kernel_rfl
@[simp] theorem ty_zeroC51 : zeroC Tryz.prog 51 = some [.undef] := by kernel_rfl
@[simp] theorem ty_zeroO51 : zeroO Tryz.prog 51 = some [.undef] := by kernel_rfl
@[simp] theorem ty_cells52 : Tryz.prog.cellsOf 52 = 1 := by kernel_rfl
@[simp] theorem ty_bytes52 : Tryz.prog.bytesOf 52 = 8 := by kernel_rfl
@[simp] theorem ty_zeroD52 : zeroD Tryz.prog 52 = none := by kernel_rfl
@[simp] theorem ty_zeroC52 : zeroC Tryz.prog 52 = some [.undef] := by kernel_rfl
@[simp] theorem ty_zeroO52 : zeroO Tryz.prog 52 = some [.undef] := by kernel_rfl
@[simp] theorem ty_cells53 : Tryz.prog.cellsOf 53 = 1 := by kernel_rfl
@[simp] theorem ty_bytes53 : Tryz.prog.bytesOf 53 = 8 := by kernel_rfl
@[simp] theorem ty_zeroD53 : zeroD Tryz.prog 53 = none := by kernel_rfl
@[simp] theorem ty_zeroC53 : zeroC Tryz.prog 53 = some [.undef] := by kernel_rfl
@[simp] theorem ty_zeroO53 : zeroO Tryz.prog 53 = some [.undef] := by kernel_rfl
@[simp] theorem ty_cells54 : Tryz.prog.cellsOf 54 = 1 := by kernel_rfl
@[simp] theorem ty_bytes54 : Tryz.prog.bytesOf 54 = 8 := by kernel_rfl
@[simp] theorem ty_zeroD54 : zeroD Tryz.prog 54 = none := by kernel_rfl
@[simp] theorem ty_zeroC54 : zeroC Tryz.prog 54 = some [.undef] := by kernel_rfl
@[simp] theorem ty_zeroO54 : zeroO Tryz.prog 54 = some [.undef] := by kernel_rfl
@[simp] theorem ty_cells55 : Tryz.prog.cellsOf 55 = 1 := by kernel_rfl
@[simp] theorem ty_bytes55 : Tryz.prog.bytesOf 55 = 24 := by kernel_rfl
@[simp] theorem ty_zeroD55 : zeroD Tryz.prog 55 = some [.nils] := by kernel_rfl
@[simp] theorem ty_zeroV55 : zeroValD Tryz.prog 55 = some (.nils) := by kernel_rfl
@[simp] theorem ty_elem55 : elemOfD Tryz.prog 55 = some 9 := by kernel_rfl
@[simp] theorem ty_cells56 : Tryz.prog.cellsOf 56 = 1 := by kernel_rfl
@[simp] theorem ty_bytes56 : Tryz.prog.bytesOf 56 = 8 := by kernel_rfl
@[simp] theorem ty_zeroD56 : zeroD Tryz.prog 56 = none := by kernel_rfl
@[simp] theorem ty_zeroC56 : zeroC Tryz.prog 56 = some [.undef] := by kernel_rfl
@[simp] theorem ty_zeroO56 : zeroO Tryz.prog 56 = some [.undef] := by kernel_rfl
@[simp] theorem ty_cells57 : Tryz.prog.cellsOf 57 = 1 := by kernel_rfl
@[simp] theorem ty_bytes57 : Tryz.prog.bytesOf 57 = 8 := by kernel_rfl
@[simp] theorem ty_zeroD57 : zeroD Tryz.prog 57 = none := by kernel_rfl
@[simp] theorem ty_zeroC57 : zeroC Tryz.prog 57 = some [.undef] := by kernel_rfl
@[simp] theorem ty_zeroO57 : zeroO Tryz.prog 57 = some [.undef] := by kernel_rfl
@[simp] theorem ty_cells58 : Tryz.prog.cellsOf 58 = 1 := by kernel_rfl
@[simp] theorem ty_bytes58 : Tryz.prog.bytesOf 58 = 8 := by kernel_rfl
@[simp] theorem ty_zeroD58 : zeroD Tryz.prog 58 = none := by kernel_rfl
@[simp] theorem ty_zeroC58 : zeroC Tryz.prog 58 = some [.undef] := by kernel_rfl
@[simp] theorem ty_zeroO58 : zeroO Tryz.prog 58 = some [.undef] := by kernel_rfl
@[simp] theorem ty_cells59 : Tryz.prog.cellsOf 59 = 1 := by kernel_rfl
@[simp] theorem ty_bytes59 : Tryz.prog.bytesOf 59 = 8 := by kernel_rfl
@[simp] theorem ty_zeroD59 : zeroD Tryz.prog 59 = none := by kernel_rfl
@[simp] theorem ty_zeroC59 : zeroC Tryz.prog 59 = some [.undef] := by kernel_rfl
@[simp] theorem ty_zeroO59 : zeroO Tryz.prog 59 = some [.undef] := by kernel_rfl
@[simp] theorem ty_cells60 : Tryz.prog.cellsOf 60 = 4 := by kernel_rfl
@[simp] theorem ty_bytes60 : Tryz.prog.bytesOf 60 = 40 := by kernel_rfl
@[simp] theorem ty_zeroD60 : zeroD Tryz.prog 60 = some [.int .i64 0, .int .i64 0, .int .i64 0, .str []] := by kernel_rfl
@[simp] theorem ty_zeroV60 : zeroValD Tryz.prog 60 = some (.agg [.int .i64 0, .int .i64 0, .int .i64 0, .str []]) := by kernel_rfl
@[simp] theorem ty_isStruct60 : isStruct Tryz.prog 60 = true := by kernel_rfl
@[simp] theorem ty_field60_0 : fieldOf Tryz.prog 60 0 = some (0, 3) := by kernel_rfl
@[simp] theorem ty_field60_1 : fieldOf Tryz.prog 60 1 = some (1, 3) := by kernel_rfl
@[simp] theorem ty_field60_2 : fieldOf Tryz.prog 60 2 = some (2, 3) := by kernel_rfl
@[simp] theorem ty_field60_3 : fieldOf Tryz.prog 60 3 = some (3, 9) := by kernel_rfl
@[simp] theorem ty_cells61 : Tryz.prog.cellsOf 61 = 4 := by kernel_rfl
@[simp] theorem ty_bytes61 : Tryz.prog.bytesOf 61 = 40 := by kernel_rfl
@[simp] theorem ty_zeroD61 : zeroD Tryz.prog 61 = some [.int .i64 0, .int .i64 0, .int .i64 0, .str []] := by kernel_rfl
@[simp] theorem ty_zeroV61 : zeroValD Tryz.prog 61 = some (.agg [.int .i64 0, .int .i64 0, .int .i64 0, .str []]) := by kernel_rfl
@[simp] theorem ty_isStruct61 : isStruct Tryz.prog 61 = true := by kernel_rfl
@[simp] theorem ty_field61_0 : fieldOf Tryz.prog 61 0 = some (0, 3) := by kernel_rfl
@[simp] theorem ty_field61_1 : fieldOf Tryz.prog 61 1 = some (1, 3) := by kernel_rfl
@[simp] theorem ty_field61_2 : fieldOf Tryz.prog 61 2 = some (2, 3) := by kernel_rfl
@[simp] theorem ty_field61_3 : fieldOf Tryz.prog 61 3 = some (3, 9) := by kernel_rfl
@[simp] theorem ty_flat61 : flatDescs Tryz.prog 61 = some [.int .i64, .int .i64, .int .i64, .string] := by kernel_rfl
@[simp] theorem ty_cells63 : Tryz.prog.cellsOf 63 = 1 := by kernel_rfl
@[simp] theorem ty_bytes63 : Tryz.prog.bytesOf 63 = 8 := by kernel_rfl
@[simp] theorem ty_zeroD63 : zeroD Tryz.prog 63 = none := by kernel_rfl
@[simp] theorem ty_zeroC63 : zeroC Tryz.prog 63 = some [.undef] := by kernel_rfl
@[simp] theorem ty_zeroO63 : zeroO Tryz.prog 63 = some [.undef] := by kernel_rfl
@[simp] theorem ty_cells64 : Tryz.prog.cellsOf 64 = 1 := by kernel_rfl
@[simp] theorem ty_bytes64 : Tryz.prog.bytesOf 64 = 8 := by kernel_rfl
@[simp] theorem ty_zeroD64 : zeroD Tryz.prog 64 = none := by kernel_rfl
@[simp] theorem ty_zeroC64 : zeroC Tryz.prog 64 = some [.undef] := by kernel_rfl
@[simp] theorem ty_zeroO64 : zeroO Tryz.prog 64 = some [.undef] := by kernel_rfl
@[simp] theorem ty_cells65 : Tryz.prog.cellsOf 65 = 1 := by kernel_rfl
@[simp] theorem ty_bytes65 : Tryz.prog.bytesOf 65 = 8 := by kernel_rfl
@[simp] theorem ty_zeroD65 : zeroD Tryz.prog 65 = none := by kernel_rfl
@[simp] theorem ty_zeroC65 : zeroC Tryz.prog 65 = some [.undef] := by kernel_rfl
@[simp] theorem ty_zeroO65 : zeroO Tryz.prog 65 = some [.undef] := by kernel_rfl
@[simp] theorem ty_cells66 : Tryz.prog.cellsOf 66 = 1 := by kernel_rfl
@[simp] theorem ty_bytes66 : Tryz.prog.bytesOf 66 = 8 := by kernel_rfl
@[simp] theorem ty_zeroD66 : zeroD Tryz.prog 66 = none := by kernel_rfl
@[simp] theorem ty_zeroC66 : zeroC Tryz.prog 66 = some [.undef] := by kernel_rfl
@[simp] theorem ty_zeroO66 : zeroO Tryz.prog 66 = some [.undef] := by kernel_rfl
@[simp] theorem ty_cells67 : Tryz.prog.cellsOf 67 = 1 := by kernel_rfl
@[simp] theorem ty_bytes67 : Tryz.prog.bytesOf 67 = 8 := by kernel_rfl
@[simp] theorem ty_zeroD67 : zeroD Tryz.prog 67 = none := by kernel_rfl
@[simp] theorem ty_zeroC67 : zeroC Tryz.prog 67 = some [.nilp 67] := by kernel_rfl
@[simp] theorem ty_zeroO67 : zeroO Tryz.prog 67 = some [.undef] := by kernel_rfl
@[simp] theorem ty_cells68 : Tryz.prog.cellsOf 68 = 1 := by kernel_rfl
@[simp] theorem ty_bytes68 : Tryz.prog.bytesOf 68 = 24 := by kernel_rfl
@[simp] theorem ty_zeroD68 : zeroD Tryz.prog 68 = some [.nils] := by kernel_rfl
@[simp] theorem ty_zeroV68 : zeroValD Tryz.prog 68 = some (.nils) := by kernel_rfl
@[simp] theorem ty_elem68 : elemOfD Tryz.prog 68 = some 5 := by kernel_rfl
@[simp] theorem ty_cells69 : Tryz.prog.cellsOf 69 = 2 := by kernel_rfl
@[simp] theorem ty_bytes69 : Tryz.prog.bytesOf 69 = 32 := by kernel_rfl
@[simp] theorem ty_zeroD69 : zeroD Tryz.prog 69 = none := by kernel_rfl
@[simp] theorem ty_zeroC69 : zeroC Tryz.prog 69 = some [.nilp 69, .d (.nils)] := by kernel_rfl
@[simp] theorem ty_zeroO69 : zeroO Tryz.prog 69 = some [.undef, .d (.nils)] := by kernel_rfl
@[simp] theorem ty_field69_0 : fieldOf Tryz.prog 69 0 = some (0, 67) := by kernel_rfl
@[simp] theorem ty_field69_1 : fieldOf Tryz.prog 69 1 = some (1, 68) := by kernel_rfl
@[simp] theorem ty_cells70 : Tryz.prog.cellsOf 70 = 2 := by kernel_rfl
@[simp] theorem ty_bytes70 : Tryz.prog.bytesOf 70 = 32 := by kernel_rfl
@[simp] theorem ty_zeroD70 : zeroD Tryz.prog 70 = none := by kernel_rfl
@[simp] theorem ty_zeroC70 : zeroC Tryz.prog 70 = some [.nilp 70, .d (.nils)] := by kernel_rfl
@[simp] theorem ty_zeroO70 : zeroO Tryz.prog 70 = some [.undef, .d (.nils)] := by kernel_rfl
@[simp] theorem ty_field70_0 : fieldOf Tryz.prog 70 0 = some (0, 67) := by kernel_rfl
@[simp] theorem ty_field70_1 : fieldOf Tryz.prog 70 1 = some (1, 68) := by kernel_rfl
@[simp] theorem ty_zeroD71 : zeroD Tryz.prog 71 = none := by kernel_rfl
@[simp] theorem ty_zeroC71 : zeroC Tryz.prog 71 = some [.undef] := by kernel_rfl
@[simp] theorem ty_zeroO71 : zeroO Tryz.prog 71 = some [.undef] := by kernel_rfl
@[simp] theorem ty_zeroD72 : zeroD Tryz.prog 72 = none := by kernel_rfl
@[simp] theorem ty_zeroC72 : zeroC Tryz.prog 72 = some [.undef] := by kernel_rfl
@[simp] theorem ty_zeroO72 : zeroO Tryz.prog 72 = some [.undef] := by kernel_rfl
@[simp] theorem ty_cells74 : Tryz.prog.cellsOf 74 = 1 := by kernel_rfl
@[simp] theorem ty_bytes74 : Tryz.prog.bytesOf 74 = 8 := by kernel_rfl
@[simp] theorem ty_zeroD74 : zeroD Tryz.prog 74 = none := by kernel_rfl
@[simp] theorem ty_zeroC74 : zeroC Tryz.prog 74 = some [.undef] := by kernel_rfl
@[simp] theorem ty_zeroO74 : zeroO Tryz.prog 74 = some [.undef] := by kernel_rfl
@[simp] theorem ty_cells75 : Tryz.prog.cellsOf 75 = 1 := by kernel_rfl
@[simp] theorem ty_bytes75 : Tryz.prog.bytesOf 75 = 8 := by kernel_rfl
@[simp] theorem ty_zeroD75 : zeroD Tryz.prog 75 = none := by kernel_rfl
@[simp] theorem ty_zeroC75 : zeroC Tryz.prog 75 = some [.undef] := by kernel_rfl
@[simp] theorem ty_zeroO75 : zeroO Tryz.prog 75 = some [.undef] := by kernel_rfl
@[simp] theorem ty_cells76 : Tryz.prog.cellsOf 76 = 1 := by kernel_rfl
@[simp] theorem ty_bytes76 : Tryz.prog.bytesOf 76 = 8 := by kernel_rfl
@[simp] theorem ty_zeroD76 : zeroD Tryz.prog 76 = none := by kernel_rfl
@[simp] theorem ty_zeroC76 : zeroC Tryz.prog 76 = some [.undef] := by kernel_rfl
@[simp] theorem ty_zeroO76 : zeroO Tryz.prog 76 = some [.undef] := by kernel_rfl
@[simp] theorem ty_cells77 : Tryz.prog.cellsOf 77 = 1 := by kernel_rfl
@[simp] theorem ty_bytes77 : Tryz.prog.bytesOf 77 = 8 := by kernel_rfl
@[simp] theorem ty_zeroD77 : zeroD Tryz.prog 77 = none := by kernel_rfl
@[simp] theorem ty_zeroC77 : zeroC Tryz.prog 77 = some [.undef] := by kernel_rfl
@[simp] theorem ty_zeroO77 : zeroO Tryz.prog 77 = some [.undef] := by kernel_rfl
@[simp] theorem ty_cells79 : Tryz.prog.cellsOf 79 = 1 := by kernel_rfl
@[simp] theorem ty_bytes79 : Tryz.prog.bytesOf 79 = 24 := by kernel_rfl
@[simp] theorem ty_zeroD79 : zeroD Tryz.prog 79 = some [.nils] := by kernel_rfl
@[simp] theorem ty_zeroV79 : zeroValD Tryz.prog 79 = some (.agg [.nils]) := by kernel_rfl
@[simp] theorem ty_isStruct79 : isStruct Tryz.prog 79 = true := by kernel_rfl
@[simp] theorem ty_field79_0 : fieldOf Tryz.prog 79 0 = some (0, 43) := by kernel_rfl
@[simp] theorem ty_cells80 : Tryz.prog.cellsOf 80 = 1 := by kernel_rfl
@[simp] theorem ty_bytes80 : Tryz.prog.bytesOf 80 = 24 := by kernel_rfl
@[simp] theorem ty_zeroD80 : zeroD Tryz.prog 80 = some [.nils] := by kernel_rfl
@[simp] theorem ty_zeroV80 : zeroValD Tryz.prog 80 = some (.agg [.nils]) := by kernel_rfl
@[simp] theorem ty_isStruct80 : isStruct Tryz.prog 80 = true := by kernel_rfl
@[simp] theorem ty_field80_0 : fieldOf Tryz.prog 80 0 = some (0, 43) := by kernel_rfl
@[simp] theorem ty_cells81 : Tryz.prog.cellsOf 81 = 1 := by kernel_rfl
@[simp] theorem ty_bytes81 : Tryz.prog.bytesOf 81 = 8 := by kernel_rfl
@[simp] theorem ty_zeroD81 : zeroD Tryz.prog 81 = none := by kernel_rfl
@[simp] theorem ty_zeroC81 : zeroC Tryz.prog 81 = some [.undef] := by kernel_rfl
@[simp] theorem ty_zeroO81 : zeroO Tryz.prog 81 = some [.undef] := by kernel_rfl
@[simp] theorem ty_cells83 : Tryz.prog.cellsOf 83 = 1 := by kernel_rfl
@[simp] theorem ty_bytes83 : Tryz.prog.bytesOf 83 = 8 := by kernel_rfl
@[simp] theorem ty_zeroD83 : zeroD Tryz.prog 83 = none := by kernel_rfl
@[simp] theorem ty_zeroC83 : zeroC Tryz.prog 83 = some [.undef] := by kernel_rfl
@[simp] theorem ty_zeroO83 : zeroO Tryz.prog 83 = some [.undef] := by kernel_rfl
@[simp] theorem ty_cells85 : Tryz.prog.cellsOf 85 = 1 := by kernel_rfl
@[simp] theorem ty_bytes85 : Tryz.prog.bytesOf 85 = 8 := by kernel_rfl
@[simp] theorem ty_zeroD85 : zeroD Tryz.prog 85 = none := by kernel_rfl
@[simp] theorem ty_zeroC85 : zeroC Tryz.prog 85 = some [.undef] := by kernel_rfl
@[simp] theorem ty_zeroO85 : zeroO Tryz.prog 85 = some [.undef] := by kernel_rfl
@[simp] theorem ty_cells87 : Tryz.prog.cellsOf 87 = 1 := by kernel_rfl
@[simp] theorem ty_bytes87 : Tryz.prog.bytesOf 87 = 8 := by kernel_rfl
@[simp] theorem ty_zeroD87 : zeroD Tryz.prog 87 = none := by kernel_rfl
@[simp] theorem ty_zeroC87 : zeroC Tryz.prog 87 = some [.undef] := by kernel_rfl
@[simp] theorem ty_zeroO87 : zeroO Tryz.prog 87 = some [.undef] := by kernel_rfl
@[simp] theorem ty_cells88 : Tryz.prog.cellsOf 88 = 1 := by kernel_rfl
@[simp] theorem ty_bytes88 : Tryz.prog.bytesOf 88 = 8 := by kernel_rfl
@[simp] theorem ty_zeroD88 : zeroD Tryz.prog 88 = none := by kernel_rfl
@[simp] theorem ty_zeroC88 : zeroC Tryz.prog 88 = some [.undef] := by kernel_rfl
@[simp] theorem ty_zeroO88 : zeroO Tryz.prog 88 = some [.undef] := by kernel_rfl
@[simp] theorem ty_cells89 : Tryz.prog.cellsOf 89 = 1 := by kernel_rfl
@[simp] theorem ty_bytes89 : Tryz.prog.bytesOf 89 = 8 := by kernel_rfl
@[simp] theorem ty_zeroD89 : zeroD Tryz.prog 89 = none := by kernel_rfl
@[simp] theorem ty_zeroC89 : zeroC Tryz.prog 89 = some [.undef] := by kernel_rfl
@[simp] theorem ty_zeroO89 : zeroO Tryz.prog 89 = some [.undef] := by kernel_rfl
@[simp] theorem ty_cells90 : Tryz.prog.cellsOf 90 = 1 := by kernel_rfl
@[simp] theorem ty_bytes90 : Tryz.prog.bytesOf 90 = 8 := by kernel_rfl
@[simp] theorem ty_zeroD90 : zeroD Tryz.prog 90 = none := by kernel_rfl
@[simp] theorem ty_zeroC90 : zeroC Tryz.prog 90 = some [.undef] := by kernel_rfl
@[simp] theorem ty_zeroO90 : zeroO Tryz.prog 90 = some [.undef] := by kernel_rfl
@[simp] theorem ty_cells91 : Tryz.prog.cellsOf 91 = 1 := by kernel_rfl
@[simp] theorem ty_bytes91 : Tryz.prog.bytesOf 91 = 8 := by kernel_rfl
@[simp] theorem ty_zeroD91 : zeroD Tryz.prog 91 = none := by kernel_rfl
@[simp] theorem ty_zeroC91 : zeroC Tryz.prog 91 = some [.undef] := by kernel_rfl
@[simp] theorem ty_zeroO91 : zeroO Tryz.prog 91 = some [.undef] := by kernel_rfl
@[simp] theorem ty_cells92 : Tryz.prog.cellsOf 92 = 1 := by kernel_rfl
@[simp] theorem ty_bytes92 : Tryz.prog.bytesOf 92 = 8 := by kernel_rfl
@[simp] theorem ty_zeroD92 : zeroD Tryz.prog 92 = none := by kernel_rfl
@[simp] theorem ty_zeroC92 : zeroC Tryz.prog 92 = some [.undef] := by kernel_rfl
@[simp] theorem ty_zeroO92 : zeroO Tryz.prog 92 = some [.undef] := by kernel_rfl
@[simp] theorem ty_cells93 : Tryz.prog.cellsOf 93 = 1 := by kernel_rfl
@[simp] theorem ty_bytes93 : Tryz.prog.bytesOf 93 = 8 := by kernel_rfl
@[simp] theorem ty_zeroD93 : zeroD Tryz.prog 93 = none := by kernel_rfl
@[simp] theorem ty_zeroC93 : zeroC Tryz.prog 93 = some [.undef] := by kernel_rfl
@[simp] theorem ty_zeroO93 : zeroO Tryz.prog 93 = some [.undef] := by kernel_rfl
@[simp] theorem ty_cells94 : Tryz.prog.cellsOf 94 = 1 := by kernel_rfl
@[simp] theorem ty_bytes94 : Tryz.prog.bytesOf 94 = 8 := by kernel_rfl
@[simp] theorem ty_zeroD94 : zeroD Tryz.prog 94 = none := by kernel_rfl
@[simp] theorem ty_zeroC94 : zeroC Tryz.prog 94 = some [.nilp 94] := by kernel_rfl
@[simp] theorem ty_zeroO94 : zeroO Tryz.prog 94 = some [.undef] := by kernel_rfl
@[simp] theorem ty_cells95 : Tryz.prog.cellsOf 95 = 1 := by kernel_rfl
@[simp] theorem ty_bytes95 : Tryz.prog.bytesOf 95 = 8 := by kernel_rfl
@[simp] theorem ty_zeroD95 : zeroD Tryz.prog 95 = none := by kernel_rfl
@[simp] theorem ty_zeroC95 : zeroC Tryz.prog 95 = some [.undef] := by kernel_rfl
@[simp] theorem ty_zeroO95 : zeroO Tryz.prog 95 = some [.undef] := by kernel_rfl
@[simp] theorem ty_cells96 : Tryz.prog.cellsOf 96 = 1 := by kernel_rfl
@[simp] theorem ty_bytes96 : Tryz.prog.bytesOf 96 = 8 := by kernel_rfl
@[simp] theorem ty_zeroD96 : zeroD Tryz.prog 96 = none := by kernel_rfl
@[simp] theorem ty_zeroC96 : zeroC Tryz.prog 96 = some [.undef] := by kernel_rfl
@[simp] theorem ty_zeroO96 : zeroO Tryz.prog 96 = some [.undef] := by kernel_rfl
@[simp] theorem ty_cells97 : Tryz.prog.cellsOf 97 = 1 := by kernel_rfl
@[simp] theorem ty_bytes97 : Tryz.prog.bytesOf 97 = 8 := by kernel_rfl
@[simp] theorem ty_zeroD97 : zeroD Tryz.prog 97 = none := by kernel_rfl
@[simp] theorem ty_zeroC97 : zeroC Tryz.prog 97 = some [.undef] := by kernel_rfl
@[simp] theorem ty_zeroO97 : zeroO Tryz.prog 97 = some [.undef] := by kernel_rfl
@[simp] theorem ty_cells98 : Tryz.prog.cellsOf 98 = 1 := by kernel_rfl
@[simp] theorem ty_bytes98 : Tryz.prog.bytesOf 98 = 8 := by kernel_rfl
@[simp] theorem ty_zeroD98 : zeroD Tryz.prog 98 = none := by kernel_rfl
@[simp] theorem ty_zeroC98 : zeroC Tryz.prog 98 = some [.undef] := by kernel_rfl
@[simp] theorem ty_zeroO98 : zeroO Tryz.prog 98 = some [.undef] := by kernel_rfl
@[simp] theorem ty_cells99 : Tryz.prog.cellsOf 99 = 1 := by kernel_rfl
@[simp] theorem ty_bytes99 : Tryz.prog.bytesOf 99 = 8 := by kernel_rfl
@[simp] theorem ty_zeroD99 : zeroD Tryz.prog 99 = none := by kernel_rfl
@[simp] theorem ty_zeroC99 : zeroC Tryz.prog 99 = some [.undef] := by kernel_rfl
@[simp] theorem ty_zeroO99 : zeroO Tryz.prog 99 = some [.undef] := by kernel_rfl
@[simp] theorem ty_cells100 : Tryz.prog.cellsOf 100 = 1 := by kernel_rfl
@[simp] theorem ty_bytes100 : Tryz.prog.bytesOf 100 = 8 := by kernel_rfl
@[simp] theorem ty_zeroD100 : zeroD Tryz.prog 100 = none := by kernel_rfl
@[simp] theorem ty_zeroC100 : zeroC Tryz.prog 100 = some [.undef] := by kernel_rfl
@[simp] theorem ty_zeroO100 : zeroO Tryz.prog 100 = some [.undef] := by kernel_rfl
@[simp] theorem ty_cells102 : Tryz.prog.cellsOf 102 = 1 := by kernel_rfl
@[simp] theorem ty_bytes102 : Tryz.prog.bytesOf 102 = 8 := by kernel_rfl
@[simp] theorem ty_zeroD102 : zeroD Tryz.prog 102 = none := by kernel_rfl
@[simp] theorem ty_zeroC102 : zeroC Tryz.prog 102 = some [.undef] := by kernel_rfl
@[simp] theorem ty_zeroO102 : zeroO Tryz.prog 102 = some [.undef] := by kernel_rfl
@[simp] theorem ty_cells103 : Tryz.prog.cellsOf 103 = 1 := by kernel_rfl
@[simp] theorem ty_bytes103 : Tryz.prog.bytesOf 103 = 8 := by kernel_rfl
@[simp] theorem ty_zeroD103 : zeroD Tryz.prog 103 = none := by kernel_rfl
@[simp] theorem ty_zeroC103 : zeroC Tryz.prog 103 = some [.undef] := by kernel_rfl
@[simp] theorem ty_zeroO103 : zeroO Tryz.prog 103 = some [.undef] := by kernel_rfl
@[simp] theorem ty_cells104 : Tryz.prog.cellsOf 104 = 1 := by kernel_rfl
@[simp] theorem ty_bytes104 : Tryz.prog.bytesOf 104 = 8 := by kernel_rfl
@[simp] theorem ty_zeroD104 : zeroD Tryz.prog 104 = none := by kernel_rfl
@[simp] theorem ty_zeroC104 : zeroC Tryz.prog 104 = some [.undef] := by kernel_rfl
@[simp] theorem ty_zeroO104 : zeroO Tryz.prog 104 = some [.undef] := by kernel_rfl
@[simp] theorem ty_cells106 : Tryz.prog.cellsOf 106 = 1 := by kernel_rfl
@[simp] theorem ty_bytes106 : Tryz.prog.bytesOf 106 = 8 := by kernel_rfl
@[simp] theorem ty_zeroD106 : zeroD Tryz.prog 106 = none := by kernel_rfl
@[simp] theorem ty_zeroC106 : zeroC Tryz.prog 106 = some [.undef] := by kernel_rfl
@[simp] theorem ty_zeroO106 : zeroO Tryz.prog 106 = some [.undef] := by kernel_rfl
@[simp] theorem ty_cells107 : Tryz.prog.cellsOf 107 = 1 := by kernel_rfl
@[simp] theorem ty_bytes107 : Tryz.prog.bytesOf 107 = 8 := by kernel_rfl
@[simp] theorem ty_zeroD107 : zeroD Tryz.prog 107 = none := by kernel_rfl
@[simp] theorem ty_zeroC107 : zeroC Tryz.prog 107 = some [.undef] := by kernel_rfl
@[simp] theorem ty_zeroO107 : zeroO Tryz.prog 107 = some [.undef] := by kernel_rfl
@[simp] theorem ty_cells108 : Tryz.prog.cellsOf 108 = 1 := by kernel_rfl
@[simp] theorem ty_bytes108 : Tryz.prog.bytesOf 108 = 8 := by kernel_rfl
@[simp] theorem ty_zeroD108 : zeroD Tryz.prog 108 = none := by kernel_rfl
@[simp] theorem ty_zeroC108 : zeroC Tryz.prog 108 = some [.undef] := by kernel_rfl
@[simp] theorem ty_zeroO108 : zeroO Tryz.prog 108 = some [.undef] := by kernel_rfl
@[simp] theorem ty_cells110 : Tryz.prog.cellsOf 110 = 1 := by kernel_rfl
@[simp] theorem ty_bytes110 : Tryz.prog.bytesOf 110 = 8 := by kernel_rfl
@[simp] theorem ty_zeroD110 : zeroD Tryz.prog 110 = none := by kernel_rfl
@[simp] theorem ty_zeroC110 : zeroC Tryz.prog 110 = some [.undef] := by kernel_rfl
@[simp] theorem ty_zeroO110 : zeroO Tryz.prog 110 = some [.undef] := by kernel_rfl
@[simp] theorem ty_cells111 : Tryz.prog.cellsOf 111 = 1 := by kernel_rfl
@[simp] theorem ty_bytes111 : Tryz.prog.bytesOf 111 = 8 := by kernel_rfl
@[simp] theorem ty_zeroD111 : zeroD Tryz.prog 111 = none := by kernel_rfl
@[simp] theorem ty_zeroC111 : zeroC Tryz.prog 111 = some [.undef] := by kernel_rfl
@[simp] theorem ty_zeroO111 : zeroO Tryz.prog 111 = some [.undef] := by kernel_rfl
@[simp] theorem ty_cells112 : Tryz.prog.cellsOf 112 = 1 := by kernel_rfl
@[simp] theorem ty_bytes112 : Tryz.prog.bytesOf 112 = 8 := by kernel_rfl
@[simp] theorem ty_zeroD112 : zeroD Tryz.prog 112 = none := by kernel_rfl
@[simp] theorem ty_zeroC112 : zeroC Tryz.prog 112 = some [.undef] := by kernel_rfl
@[simp] theorem ty_zeroO112 : zeroO Tryz.prog 112 = some [.undef] := by kernel_rfl
@[simp] theorem ty_cells113 : Tryz.prog.cellsOf 113 = 1 := by kernel_rfl
@[simp] theorem ty_bytes113 : Tryz.prog.bytesOf 113 = 8 := by kernel_rfl
@[simp] theorem ty_zeroD113 : zeroD Tryz.prog 113 = none := by kernel_rfl
@[simp] theorem ty_zeroC113 : zeroC Tryz.prog 113 = some [.undef] := by kernel_rfl
@[simp] theorem ty_zeroO113 : zeroO Tryz.prog 113 = some [.undef] := by kernel_rfl
@[simp] theorem ty_cells114 : Tryz.prog.cellsOf 114 = 1 := by kernel_rfl
@[simp] theorem ty_bytes114 : Tryz.prog.bytesOf 114 = 8 := by kernel_rfl
@[simp] theorem ty_zeroD114 : zeroD Tryz.prog 114 = none := by kernel_rfl
@[simp] theorem ty_zeroC114 : zeroC Tryz.prog 114 = some [.undef] := by kernel_rfl
@[simp] theorem ty_zeroO114 : zeroO Tryz.prog 114 = some [.undef] := by kernel_rfl
@[simp] theorem ty_cells115 : Tryz.prog.cellsOf 115 = 1 := by kernel_rfl
@[simp] theorem ty_bytes115 : Tryz.prog.bytesOf 115 = 8 := by kernel_rfl
@[simp] theorem ty_zeroD115 : zeroD Tryz.prog 115 = none := by kernel_rfl
@[simp] theorem ty_zeroC115 : zeroC Tryz.prog 115 = some [.undef] := by kernel_rfl
@[simp] theorem ty_zeroO115 : zeroO Tryz.prog 115 = some [.undef] := by kernel_rfl
@[simp] theorem ty_cells116 : Tryz.prog.cellsOf 116 = 1 := by kernel_rfl
@[simp] theorem ty_bytes116 : Tryz.prog.bytesOf 116 = 24 := by kernel_rfl
@[simp] theorem ty_zeroD116 : zeroD Tryz.prog 116 = some [.nils] := by kernel_rfl
@[simp] theorem ty_zeroV116 : zeroValD Tryz.prog 116 = some (.nils) := by kernel_rfl
@[simp] theorem ty_elem116 : elemOfD Tryz.prog 116 = some 3 := by kernel_rfl
@[simp] theorem ty_cells117 : Tryz.prog.cellsOf 117 = 2 := by kernel_rfl
@[simp] theorem ty_bytes117 : Tryz.prog.bytesOf 117 = 32 := by kernel_rfl
@[simp] theorem ty_zeroD117 : zeroD Tryz.prog 117 = some [.bool false, .nils] := by kernel_rfl
@[simp] theorem ty_zeroV117 : zeroValD Tryz.prog 117 = some (.agg [.bool false, .nils]) := by kernel_rfl
@[simp] theorem ty_isStruct117 : isStruct Tryz.prog 117 = true := by kernel_rfl
@[simp] theorem ty_field117_0 : fieldOf Tryz.prog 117 0 = some (0, 4) := by kernel_rfl
@[simp] theorem ty_field117_1 : fieldOf Tryz.prog 117 1 = some (1, 116) := by kernel_rfl
@[simp] theorem ty_cells118 : Tryz.prog.cellsOf 118 = 2 := by kernel_rfl
@[simp] theorem ty_bytes118 : Tryz.prog.bytesOf 118 = 32 := by kernel_rfl
@[simp] theorem ty_zeroD118 : zeroD Tryz.prog 118 = some [.bool false, .nils] := by kernel_rfl
@[simp] theorem ty_zeroV118 : zeroValD Tryz.prog 118 = some (.agg [.bool false, .nils]) := by kernel_rfl
@[simp] theorem ty_isStruct118 : isStruct Tryz.prog 118 = true := by kernel_rfl
@[simp] theorem ty_field118_0 : fieldOf Tryz.prog 118 0 = some (0, 4) := by kernel_rfl
@[simp] theorem ty_field118_1 : fieldOf Tryz.prog 118 1 = some (1, 116) := by kernel_rfl
@[simp] theorem ty_cells119 : Tryz.prog.cellsOf 119 = 1 := by kernel_rfl
@[simp] theorem ty_bytes119 : Tryz.prog.bytesOf 119 = 8 := by kernel_rfl
@[simp] theorem ty_zeroD119 : zeroD Tryz.prog 119 = none := by kernel_rfl
@[simp] theorem ty_zeroC119 : zeroC Tryz.prog 119 = some [.undef] := by kernel_rfl
@[simp] theorem ty_zeroO119 : zeroO Tryz.prog 119 = some [.undef] := by kernel_rfl
@[simp] theorem ty_cells121 : Tryz.prog.cellsOf 121 = 1 := by kernel_rfl
@[simp] theorem ty_bytes121 : Tryz.prog.bytesOf 121 = 8 := by kernel_rfl
@[simp] theorem ty_zeroD121 : zeroD Tryz.prog 121 = none := by kernel_rfl
@[simp] theorem ty_zeroC121 : zeroC Tryz.prog 121 = some [.undef] := by kernel_rfl
@[simp] theorem ty_zeroO121 : zeroO Tryz.prog 121 = some [.undef] := by kernel_rfl
@[simp] theorem ty_cells122 : Tryz.prog.cellsOf 122 = 1 := by kernel_rfl
@[simp] theorem ty_bytes122 : Tryz.prog.bytesOf 122 = 8 := by kernel_rfl
@[simp] theorem ty_zeroD122 : zeroD Tryz.prog 122 = none := by kernel_rfl
@[simp] theorem ty_zeroC122 : zeroC Tryz.prog 122 = some [.undef] := by kernel_rfl
@[simp] theorem ty_zeroO122 : zeroO Tryz.prog 122 = some [.undef] := by kernel_rfl
@[simp] theorem ty_cells124 : Tryz.prog.cellsOf 124 = 1 := by kernel_rfl
@[simp] theorem ty_bytes124 : Tryz.prog.bytesOf 124 = 8 := by kernel_rfl
@[simp] theorem ty_zeroD124 : zeroD Tryz.prog 124 = none := by kernel_rfl
@[simp] theorem ty_zeroC124 : zeroC Tryz.prog 124 = some [.undef] := by kernel_rfl
@[simp] theorem ty_zeroO124 : zeroO Tryz.prog 124 = some [.undef] := by kernel_rfl
@[simp] theorem ty_cells125 : Tryz.prog.cellsOf 125 = 1 := by kernel_rfl
@[simp] theorem ty_bytes125 : Tryz.prog.bytesOf 125 = 8 := by kernel_rfl
@[simp] theorem ty_zeroD125 : zeroD Tryz.prog 125 = none := by kernel_rfl
@[simp] theorem ty_zeroC125 : zeroC Tryz.prog 125 = some [.undef] := by kernel_rfl
@[simp] theorem ty_zeroO125 : zeroO Tryz.prog 125 = some [.undef] := by kernel_rfl
@[simp] theorem ty_cells126 : Tryz.prog.cellsOf 126 = 1 := by kernel_rfl
@[simp] theorem ty_bytes126 : Tryz.prog.bytesOf 126 = 24 := by kernel_rfl
@[simp] theorem ty_zeroD126 : zeroD Tryz.prog 126 = some [.nils] := by kernel_rfl
@[simp] theorem ty_zeroV126 : zeroValD Tryz.prog 126 = some (.nils) := by kernel_rfl
@[simp] theorem ty_elem126 : elemOfD Tryz.prog 126 = some 22 := by kernel_rfl
@[simp] theorem ty_cells127 : Tryz.prog.cellsOf 127 = 1 := by kernel_rfl
@[simp] theorem ty_bytes127 : Tryz.prog.bytesOf 127 = 8 := by kernel_rfl
@[simp] theorem ty_zeroD127 : zeroD Tryz.prog 127 = none := by kernel_rfl
@[simp] theorem ty_zeroC127 : zeroC Tryz.prog 127 = some [.undef] := by kernel_rfl
@[simp] theorem ty_zeroO127 : zeroO Tryz.prog 127 = some [.undef] := by kernel_rfl
@[simp] theorem ty_cells128 : Tryz.prog.cellsOf 128 = 1 := by kernel_rfl
@[simp] theorem ty_bytes128 : Tryz.prog.bytesOf 128 = 8 := by kernel_rfl
@[simp] theorem ty_zeroD128 : zeroD Tryz.prog 128 = none := by kernel_rfl
@[simp] theorem ty_zeroC128 : zeroC Tryz.prog 128 = some [.undef] := by kernel_rfl
@[simp] theorem ty_zeroO128 : zeroO Tryz.prog 128 = some [.undef] := by kernel_rfl
@[simp] theorem ty_cells129 : Tryz.prog.cellsOf 129 = 1 := by kernel_rfl
@[simp] theorem ty_bytes129 : Tryz.prog.bytesOf 129 = 8 := by kernel_rfl
@[simp] theorem ty_zeroD129 : zeroD Tryz.prog 129 = none := by kernel_rfl
@[simp] theorem ty_zeroC129 : zeroC Tryz.prog 129 = some [.undef] := by kernel_rfl
@[simp] theorem ty_zeroO129 : zeroO Tryz.prog 129 = some [.undef] := by kernel_rfl
@[simp] theorem ty_cells131 : Tryz.prog.cellsOf 131 = 1 := by kernel_rfl
@[simp] theorem ty_bytes131 : Tryz.prog.bytesOf 131 = 8 := by kernel_rfl
@[simp] theorem ty_zeroD131 : zeroD Tryz.prog 131 = none := by kernel_rfl
@[simp] theorem ty_zeroC131 : zeroC Tryz.prog 131 = some [.undef] := by kernel_rfl
@[simp] theorem ty_zeroO131 : zeroO Tryz.prog 131 = some [.undef] := by kernel_rfl
@[simp] theorem ty_cells133 : Tryz.prog.cellsOf 133 = 1 := by kernel_rfl
@[simp] theorem ty_bytes133 : Tryz.prog.bytesOf 133 = 8 := by kernel_rfl
@[simp] theorem ty_zeroD133 : zeroD Tryz.prog 133 = none := by kernel_rfl
@[simp] theorem ty_zeroC133 : zeroC Tryz.prog 133 = some [.undef] := by kernel_rfl
@[simp] theorem ty_zeroO133 : zeroO Tryz.prog 133 = some [.undef] := by kernel_rfl
@[simp] theorem ty_cells135 : Tryz.prog.cellsOf 135 = 1 := by kernel_rfl
@[simp] theorem ty_bytes135 : Tryz.prog.bytesOf 135 = 8 := by kernel_rfl
@[simp] theorem ty_zeroD135 : zeroD Tryz.prog 135 = none := by kernel_rfl
@[simp] theorem ty_zeroC135 : zeroC Tryz.prog 135 = some [.undef] := by kernel_rfl
@[simp] theorem ty_zeroO135 : zeroO Tryz.prog 135 = some [.undef] := by kernel_rfl
@[simp] theorem ty_cells136 : Tryz.prog.cellsOf 136 = 1 := by kernel_rfl
@[simp] theorem ty_bytes136 : Tryz.prog.bytesOf 136 = 8 := by kernel_rfl
@[simp] theorem ty_zeroD136 : zeroD Tryz.prog 136 = none := by kernel_rfl
@[simp] theorem ty_zeroC136 : zeroC Tryz.prog 136 = some [.undef] := by kernel_rfl
@[simp] theorem ty_zeroO136 : zeroO Tryz.prog 136 = some [.undef] := by kernel_rfl
@[simp] theorem ty_cells137 : Tryz.prog.cellsOf 137 = 24 := by kernel_rfl
@[simp] theorem ty_bytes137 : Tryz.prog.bytesOf 137 = 24 := by kernel_rfl
@[simp] theorem ty_zeroD137 : zeroD Tryz.prog 137 = some [.int .u8 0, .int .u8 0, .int .u8 0, .int .u8 0, .int .u8 0, .int .u8 0, .int .u8 0, .int .u8 0, .int .u8 0, .int .u8 0, .int .u8 0, .int .u8 0, .int .u8 0, .int .u8 0, .int .u8 0, .int .u8 0, .int .u8 0, .int .u8 0, .int .u8 0, .int .u8 0, .int .u8 0, .int .u8 0, .int .u8 0, .int .u8 0] := by kernel_rfl
@[simp] theorem ty_cells138 : Tryz.prog.cellsOf 138 = 1 := by kernel_rfl
@[simp] theorem ty_bytes138 : Tryz.prog.bytesOf 138 = 8 := by kernel_rfl
@[simp] theorem ty_zeroD138 : zeroD Tryz.prog 138 = some [.int .u64 0] := by kernel_rfl
@[simp] theorem ty_zeroV138 : zeroValD Tryz.prog 138 = some (.int .u64 0) := by kernel_rfl
@[simp] theorem ty_cells139 : Tryz.prog.cellsOf 139 = 1 := by kernel_rfl
@[simp] theorem ty_bytes139 : Tryz.prog.bytesOf 139 = 8 := by kernel_rfl
@[simp] theorem ty_zeroD139 : zeroD Tryz.prog 139 = none := by kernel_rfl
@[simp] theorem ty_zeroC139 : zeroC Tryz.prog 139 = some [.undef] := by kernel_rfl
@[simp] theorem ty_zeroO139 : zeroO Tryz.prog 139 = some [.undef] := by kernel_rfl
@[simp] theorem ty_cells140 : Tryz.prog.cellsOf 140 = 1 := by kernel_rfl
@[simp] theorem ty_bytes140 : Tryz.prog.bytesOf 140 = 8 := by kernel_rfl
@[simp] theorem ty_zeroD140 : zeroD Tryz.prog 140 = none := by kernel_rfl
@[simp] theorem ty_zeroC140 : zeroC Tryz.prog 140 = some [.undef] := by kernel_rfl
@[simp] theorem ty_zeroO140 : zeroO Tryz.prog 140 = some [.undef] := by kernel_rfl
@[simp] theorem ty_cells142 : Tryz.prog.cellsOf 142 = 1 := by kernel_rfl
@[simp] theorem ty_bytes142 : Tryz.prog.bytesOf 142 = 8 := by kernel_rfl
@[simp] theorem ty_zeroD142 : zeroD Tryz.prog 142 = none := by kernel_rfl
@[simp] theorem ty_zeroC142 : zeroC Tryz.prog 142 = some [.undef] := by kernel_rfl
@[simp] theorem ty_zeroO142 : zeroO Tryz.prog 142 = some [.undef] := by kernel_rfl
@[simp] theorem ty_cells143 : Tryz.prog.cellsOf 143 = 1 := by kernel_rfl
@[simp] theorem ty_bytes143 : Tryz.prog.bytesOf 143 = 8 := by kernel_rfl
@[simp] theorem ty_zeroD143 : zeroD Tryz.prog 143 = none := by kernel_rfl
@[simp] theorem ty_zeroC143 : zeroC Tryz.prog 143 = some [.undef] := by kernel_rfl
@[simp] theorem ty_zeroO143 : zeroO Tryz.prog 143 = some [.undef] := by kernel_rfl
@[simp] theorem ty_cells144 : Tryz.prog.cellsOf 144 = 1 := by kernel_rfl
@[simp] theorem ty_bytes144 : Tryz.prog.bytesOf 144 = 8 := by kernel_rfl
@[simp] theorem ty_zeroD144 : zeroD Tryz.prog 144 = none := by kernel_rfl
@[simp] theorem ty_zeroC144 : zeroC Tryz.prog 144 = some [.undef] := by kernel_rfl
@[simp] theorem ty_zeroO144 : zeroO Tryz.prog 144 = some [.undef] := by kernel_rfl
@[simp] theorem ty_cells145 : Tryz.prog.cellsOf 145 = 1 := by kernel_rfl
@[simp] theorem ty_bytes145 : Tryz.prog.bytesOf 145 = 8 := by kernel_rfl
@[simp] theorem ty_zeroD145 : zeroD Tryz.prog 145 = none := by kernel_rfl
@[simp] theorem ty_zeroC145 : zeroC Tryz.prog 145 = some [.undef] := by kernel_rfl
@[simp] theorem ty_zeroO145 : zeroO Tryz.prog 145 = some [.undef] := by kernel_rfl
@[simp] theorem ty_cells146 : Tryz.prog.cellsOf 146 = 1 := by kernel_rfl
@[simp] theorem ty_bytes146 : Tryz.prog.bytesOf 146 = 8 := by kernel_rfl
@[simp] theorem ty_zeroD146 : zeroD Tryz.prog 146 = none := by kernel_rfl
@[simp] theorem ty_zeroC146 : zeroC Tryz.prog 146 = some [.undef] := by kernel_rfl
@[simp] theorem ty_zeroO146 : zeroO Tryz.prog 146 = some [.undef] := by kernel_rfl
@[simp] theorem ty_cells147 : Tryz.prog.cellsOf 147 = 1 := by kernel_rfl
@[simp] theorem ty_bytes147 : Tryz.prog.bytesOf 147 = 8 := by kernel_rfl
@[simp] theorem ty_zeroD147 : zeroD Tryz.prog 147 = none := by kernel_rfl
@[simp] theorem ty_zeroC147 : zeroC Tryz.prog 147 = some [.undef] := by kernel_rfl
@[simp] theorem ty_zeroO147 : zeroO Tryz.prog 147 = some [.undef] := by kernel_rfl
@[simp] theorem ty_cells148 : Tryz.prog.cellsOf 148 = 1 := by kernel_rfl
@[simp] theorem ty_bytes148 : Tryz.prog.bytesOf 148 = 8 := by kernel_rfl
@[simp] theorem ty_zeroD148 : zeroD Tryz.prog 148 = none := by kernel_rfl
@[simp] theorem ty_zeroC148 : zeroC Tryz.prog 148 = some [.undef] := by kernel_rfl
@[simp] theorem ty_zeroO148 : zeroO Tryz.prog 148 = some [.undef] := by kernel_rfl
@[simp] theorem ty_cells149 : Tryz.prog.cellsOf 149 = 256 := by kernel_rfl
@[simp] theorem ty_bytes149 : Tryz.prog.bytesOf 149 = 256 := by kernel_rfl
@[simp] theorem ty_cells150 : Tryz.prog.cellsOf 150 = 256 := by kernel_rfl
@[simp] theorem ty_bytes150 : Tryz.prog.bytesOf 150 = 256 := by kernel_rfl
@[simp] theorem ty_cells152 : Tryz.prog.cellsOf 152 = 1 := by kernel_rfl
@[simp] theorem ty_bytes152 : Tryz.prog.bytesOf 152 = 8 := by kernel_rfl
@[simp] theorem ty_zeroD152 : zeroD Tryz.prog 152 = none := by kernel_rfl
@[simp] theorem ty_zeroC152 : zeroC Tryz.prog 152 = some [.undef] := by kernel_rfl
@[simp] theorem ty_zeroO152 : zeroO Tryz.prog 152 = some [.undef] := by kernel_rfl
@[simp] theorem ty_cells153 : Tryz.prog.cellsOf 153 = 1 := by kernel_rfl
@[simp] theorem ty_bytes153 : Tryz.prog.bytesOf 153 = 8 := by kernel_rfl
@[simp] theorem ty_zeroD153 : zeroD Tryz.prog 153 = none := by kernel_rfl
@[simp] theorem ty_zeroC153 : zeroC Tryz.prog 153 = some [.undef] := by kernel_rfl
@[simp] theorem ty_zeroO153 : zeroO Tryz.prog 153 = some [.undef] := by kernel_rfl
@[simp] theorem ty_cells154 : Tryz.prog.cellsOf 154 = 1 := by kernel_rfl
@[simp] theorem ty_bytes154 : Tryz.prog.bytesOf 154 = 8 := by kernel_rfl
@[simp] theorem ty_zeroD154 : zeroD Tryz.prog 154 = none := by kernel_rfl
@[simp] theorem ty_zeroC154 : zeroC Tryz.prog 154 = some [.nilp 154] := by kernel_rfl
@[simp] theorem ty_zeroO154 : zeroO Tryz.prog 154 = some [.undef] := by kernel_rfl
@[simp] theorem ty_cells155 : Tryz.prog.cellsOf 155 = 1 := by kernel_rfl
@[simp] theorem ty_bytes155 : Tryz.prog.bytesOf 155 = 8 := by kernel_rfl
@[simp] theorem ty_zeroD155 : zeroD Tryz.prog 155 = none := by kernel_rfl
@[simp] theorem ty_zeroC155 : zeroC Tryz.prog 155 = some [.undef] := by kernel_rfl
@[simp] theorem ty_zeroO155 : zeroO Tryz.prog 155 = some [.undef] := by kernel_rfl
@[simp] theorem ty_cells156 : Tryz.prog.cellsOf 156 = 1 := by kernel_rfl
@[simp] theorem ty_bytes156 : Tryz.prog.bytesOf 156 = 8 := by kernel_rfl
@[simp] theorem ty_zeroD156 : zeroD Tryz.prog 156 = none := by kernel_rfl
@[simp] theorem ty_zeroC156 : zeroC Tryz.prog 156 = some [.undef] := by kernel_rfl
@[simp] theorem ty_zeroO156 : zeroO Tryz.prog 156 = some [.undef] := by kernel_rfl
@[simp] theorem ty_cells157 : Tryz.prog.cellsOf 157 = 1 := by kernel_rfl
@[simp] theorem ty_bytes157 : Tryz.prog.bytesOf 157 = 8 := by kernel_rfl
@[simp] theorem ty_zeroD157 : zeroD Tryz.prog 157 = none := by kernel_rfl
@[simp] theorem ty_zeroC157 : zeroC Tryz.prog 157 = some [.undef] := by kernel_rfl
@[simp] theorem ty_zeroO157 : zeroO Tryz.prog 157 = some [.undef] := by kernel_rfl
@[simp] theorem ty_cells158 : Tryz.prog.cellsOf 158 = 20 := by kernel_rfl
@[simp] theorem ty_bytes158 : Tryz.prog.bytesOf 158 = 160 := by kernel_rfl
@[simp] theorem ty_zeroD158 : zeroD Tryz.prog 158 = some [.int .u64 0, .int .u64 0, .int .u64 0, .int .u64 0, .int .u64 0, .int .u64 0, .int .u64 0, .int .u64 0, .int .u64 0, .int .u64 0, .int .u64 0, .int .u64 0, .int .u64 0, .int .u64 0, .int .u64 0, .int .u64 0, .int .u64 0, .int .u64 0, .int .u64 0, .int .u64 0] := by kernel_rfl
@[simp] theorem ty_cells159 : Tryz.prog.cellsOf 159 = 1 := by kernel_rfl
@[simp] theorem ty_bytes159 : Tryz.prog.bytesOf 159 = 4 := by kernel_rfl
@[simp] theorem ty_zeroD159 : zeroD Tryz.prog 159 = some [.int .u32 0] := by kernel_rfl
@[simp] theorem ty_zeroV159 : zeroValD Tryz.prog 159 = some (.int .u32 0) := by kernel_rfl
@[simp] theorem ty_cells160 : Tryz.prog.cellsOf 160 = 65 := by kernel_rfl
@[simp] theorem ty_bytes160 : Tryz.prog.bytesOf 160 = 65 := by kernel_rfl
@[simp] theorem ty_cells161 : Tryz.prog.cellsOf 161 = 1 := by kernel_rfl
@[simp] theorem ty_bytes161 : Tryz.prog.bytesOf 161 = 8 := by kernel_rfl
@[simp] theorem ty_zeroD161 : zeroD Tryz.prog 161 = some [.int .u64 0] := by kernel_rfl
@[simp] theorem ty_zeroV161 : zeroValD Tryz.prog 161 = some (.int .u64 0) := by kernel_rfl
@[simp] theorem ty_cells162 : Tryz.prog.cellsOf 162 = 1 := by kernel_rfl
@[simp] theorem ty_bytes162 : Tryz.prog.bytesOf 162 = 8 := by kernel_rfl
@[simp] theorem ty_zeroD162 : zeroD Tryz.prog 162 = none := by kernel_rfl
@[simp] theorem ty_zeroC162 : zeroC Tryz.prog 162 = some [.undef] := by kernel_rfl
@[simp] theorem ty_zeroO162 : zeroO Tryz.prog 162 = some [.undef] := by kernel_rfl
@[simp] theorem ty_cells163 : Tryz.prog.cellsOf 163 = 42 := by kernel_rfl
@[simp] theorem ty_bytes163 : Tryz.prog.bytesOf 163 = 672 := by kernel_rfl
@[simp] theorem ty_zeroD163 : zeroD Tryz.prog 163 = some [.str [], .str [], .str [], .str [], .str [], .str [], .str [], .str [], .str [], .str [], .str [], .str [], .str [], .str [], .str [], .str [], .str [], .str [], .str [], .str [], .str [], .str [], .str [], .str [], .str [], .str [], .str [], .str [], .str [], .str [], .str [], .str [], .str [], .str [], .str [], .str [], .str [], .str [], .str [], .str [], .str [], .str []] := by kernel_rfl
@[simp] theorem ty_cells164 : Tryz.prog.cellsOf 164 = 1 := by kernel_rfl
@[simp] theorem ty_bytes164 : Tryz.prog.bytesOf 164 = 8 := by kernel_rfl
@[simp] theorem ty_zeroD164 : zeroD Tryz.prog 164 = none := by kernel_rfl
@[simp] theorem ty_zeroC164 : zeroC Tryz.prog 164 = some [.undef] := by kernel_rfl
@[simp] theorem ty_zeroO164 : zeroO Tryz.prog 164 = some [.undef] := by kernel_rfl
@[simp] theorem ty_cells166 : Tryz.prog.cellsOf 166 = 1 := by kernel_rfl
@[simp] theorem ty_bytes166 : Tryz.prog.bytesOf 166 = 8 := by kernel_rfl
@[simp] theorem ty_zeroD166 : zeroD Tryz.prog 166 = none := by kernel_rfl
@[simp] theorem ty_zeroC166 : zeroC Tryz.prog 166 = some [.undef] := by kernel_rfl
@[simp] theorem ty_zeroO166 : zeroO Tryz.prog 166 = some [.undef] := by kernel_rfl
@[simp] theorem ty_cells167 : Tryz.prog.cellsOf 167 = 1 := by kernel_rfl
@[simp] theorem ty_bytes167 : Tryz.prog.bytesOf 167 = 8 := by kernel_rfl
@[simp] theorem ty_zeroD167 : zeroD Tryz.prog 167 = none := by kernel_rfl
@[simp] theorem ty_zeroC167 : zeroC Tryz.prog 167 = some [.undef] := by kernel_rfl
@[simp] theorem ty_zeroO167 : zeroO Tryz.prog 167 = some [.undef] := by kernel_rfl
@[simp] theorem ty_cells168 : Tryz.prog.cellsOf 168 = 1 := by kernel_rfl
@[simp] theorem ty_bytes168 : Tryz.prog.bytesOf 168 = 8 := by kernel_rfl
@[simp] theorem ty_zeroD168 : zeroD Tryz.prog 168 = none := by kernel_rfl
@[simp] theorem ty_zeroC168 : zeroC Tryz.prog 168 = some [.undef] := by kernel_rfl
@[simp] theorem ty_zeroO168 : zeroO Tryz.prog 168 = some [.undef] := by kernel_rfl
@[simp] theorem ty_cells169 : Tryz.prog.cellsOf 169 = 1 := by kernel_rfl
@[simp] theorem ty_bytes169 : Tryz.prog.bytesOf 169 = 8 := by kernel_rfl
@[simp] theorem ty_zeroD169 : zeroD Tryz.prog 169 = none := by kernel_rfl
@[simp] theorem ty_zeroC169 : zeroC Tryz.prog 169 = some [.undef] := by kernel_rfl
@[simp] theorem ty_zeroO169 : zeroO Tryz.prog 169 = some [.undef] := by kernel_rfl
@[simp] theorem ty_cells170 : Tryz.prog.cellsOf 170 = 1 := by kernel_rfl
@[simp] theorem ty_bytes170 : Tryz.prog.bytesOf 170 = 8 := by kernel_rfl
@[simp] theorem ty_zeroD170 : zeroD Tryz.prog 170 = none := by kernel_rfl
@[simp] theorem ty_zeroC170 : zeroC Tryz.prog 170 = some [.undef] := by kernel_rfl
@[simp] theorem ty_zeroO170 : zeroO Tryz.prog 170 = some [.undef] := by kernel_rfl
@[simp] theorem ty_cells171 : Tryz.prog.cellsOf 171 = 32 := by kernel_rfl
@[simp] theorem ty_bytes171 : Tryz.prog.bytesOf 171 = 32 := by kernel_rfl
@[simp] theorem ty_zeroD171 : zeroD Tryz.prog 171 = some [.int .u8 0, .int .u8 0, .int .u8 0, .int .u8 0, .int .u8 0, .int .u8 0, .int .u8 0, .int .u8 0, .int .u8 0, .int .u8 0, .int .u8 0, .int .u8 0, .int .u8 0, .int .u8 0, .int .u8 0, .int .u8 0, .int .u8 0, .int .u8 0, .int .u8 0, .int .u8 0, .int .u8 0, .int .u8 0, .int .u8 0, .int .u8 0, .int .u8 0, .int .u8 0, .int .u8 0, .int .u8 0, .int .u8 0, .int .u8 0, .int .u8 0, .int .u8 0] := by kernel_rfl
@[simp] theorem ty_cells172 : Tryz.prog.cellsOf 172 = 64 := by kernel_rfl
@[simp] theorem ty_bytes172 : Tryz.prog.bytesOf 172 = 64 := by kernel_rfl
@[simp] theorem ty_zeroD172 : zeroD Tryz.prog 172 = some [.int .u8 0, .int .u8 0, .int .u8 0, .int .u8 0, .int .u8 0, .int .u8 0, .int .u8 0, .int .u8 0, .int .u8 0, .int .u8 0, .int .u8 0, .int .u8 0, .int .u8 0, .int .u8 0, .int .u8 0, .int .u8 0, .int .u8 0, .int .u8 0, .int .u8 0, .int .u8 0, .int .u8 0, .int .u8 0, .int .u8 0, .int .u8 0, .int .u8 0, .int .u8 0, .int .u8 0, .int .u8 0, .int .u8 0, .int .u8 0, .int .u8 0, .int .u8 0, .int .u8 0, .int .u8 0, .int .u8 0, .int .u8 0, .int .u8 0, .int .u8 0, .int .u8 0, .int .u8 0, .int .u8 0, .int .u8 0, .int .u8 0, .int .u8 0, .int .u8 0, .int .u8 0, .int .u8 0, .int .u8 0, .int .u8 0, .int .u8 0, .int .u8 0, .int .u8 0, .int .u8 0, .int .u8 0, .int .u8 0, .int .u8 0, .int .u8 0, .int .u8 0, .int .u8 0, .int .u8 0, .int .u8 0, .int .u8 0, .int .u8 0, .int .u8 0] := by kernel_rfl
@[simp] theorem ty_cells173 : Tryz.prog.cellsOf 173 = 256 := by kernel_rfl
@[simp] theorem ty_bytes173 : Tryz.prog.bytesOf 173 = 256 := by kernel_rfl
@[simp] theorem ty_cells174 : Tryz.prog.cellsOf 174 = 2 := by kernel_rfl
@[simp] theorem ty_bytes174 : Tryz.prog.bytesOf 174 = 2 := by kernel_rfl
@[simp] theorem ty_zeroD174 : zeroD Tryz.prog 174 = some [.int .u8 0, .int .u8 0] := by kernel_rfl
@[simp] theorem ty_zeroV174 : zeroValD Tryz.prog 174 = some (.agg [.int .u8 0, .int .u8 0]) := by kernel_rfl
@[simp] theorem ty_isStruct174 : isStruct Tryz.prog 174 = true := by kernel_rfl
@[simp] theorem ty_field174_0 : fieldOf Tryz.prog 174 0 = some (0, 5) := by kernel_rfl
@[simp] theorem ty_field174_1 : fieldOf Tryz.prog 174 1 = some (1, 5) := by kernel_rfl
@[simp] theorem ty_cells175 : Tryz.prog.cellsOf 175 = 2 := by kernel_rfl
@[simp] theorem ty_bytes175 : Tryz.prog.bytesOf 175 = 2 := by kernel_rfl
@[simp] theorem ty_zeroD175 : zeroD Tryz.prog 175 = some [.int .u8 0, .int .u8 0] := by kernel_rfl
@[simp] theorem ty_zeroV175 : zeroValD Tryz.prog 175 = some (.agg [.int .u8 0, .int .u8 0]) := by kernel_rfl
@[simp] theorem ty_isStruct175 : isStruct Tryz.prog 175 = true := by kernel_rfl
@[simp] theorem ty_field175_0 : fieldOf Tryz.prog 175 0 = some (0, 5) := by kernel_rfl
@[simp] theorem ty_field175_1 : fieldOf Tryz.prog 175 1 = some (1, 5) := by kernel_rfl
@[simp] theorem ty_cells176 : Tryz.prog.cellsOf 176 = 32 := by kernel_rfl
@[simp] theorem ty_bytes176 : Tryz.prog.bytesOf 176 = 32 := by kernel_rfl
@[simp] theorem ty_zeroD176 : zeroD Tryz.prog 176 = some [.int .u8 0, .int .u8 0, .int .u8 0, .int .u8 0, .int .u8 0, .int .u8 0, .int .u8 0, .int .u8 0, .int .u8 0, .int .u8 0, .int .u8 0, .int .u8 0, .int .u8 0, .int .u8 0, .int .u8 0, .int .u8 0, .int .u8 0, .int .u8 0, .int .u8 0, .int .u8 0, .int .u8 0, .int .u8 0, .int .u8 0, .int .u8 0, .int .u8 0, .int .u8 0, .int .u8 0, .int .u8 0, .int .u8 0, .int .u8 0, .int .u8 0, .int .u8 0] := by kernel_rfl
@[simp] theorem ty_cells177 : Tryz.prog.cellsOf 177 = 1 := by kernel_rfl
@[simp] theorem ty_bytes177 : Tryz.prog.bytesOf 177 = 8 := by kernel_rfl
@[simp] theorem ty_zeroD177 : zeroD Tryz.prog 177 = none := by kernel_rfl
@[simp] theorem ty_zeroC177 : zeroC Tryz.prog 177 = some [.undef] := by kernel_rfl
@[simp] theorem ty_zeroO177 : zeroO Tryz.prog 177 = some [.undef] := by kernel_rfl
@[simp] theorem ty_cells178 : Tryz.prog.cellsOf 178 = 1 := by kernel_rfl
@[simp] theorem ty_bytes178 : Tryz.prog.bytesOf 178 = 8 := by kernel_rfl
@[simp] theorem ty_zeroD178 : zeroD Tryz.prog 178 = none := by kernel_rfl
@[simp] theorem ty_zeroC178 : zeroC Tryz.prog 178 = some [.undef] := by kernel_rfl
@[simp] theorem ty_zeroO178 : zeroO Tryz.prog 178 = some [.undef] := by kernel_rfl
@[simp] theorem ty_cells179 : Tryz.prog.cellsOf 179 = 4 := by kernel_rfl
@[simp] theorem ty_bytes179 : Tryz.prog.bytesOf 179 = 40 := by kernel_rfl
@[simp] theorem ty_zeroD179 : zeroD Tryz.prog 179 = none := by kernel_rfl
@[simp] theorem ty_zeroC179 : zeroC Tryz.prog 179 = some [.nilp 179, .nilp 179, .nilp 179, .d (.str [])] := by kernel_rfl
@[simp] theorem ty_zeroO179 : zeroO Tryz.prog 179 = some [.undef, .undef, .undef, .d (.str [])] := by kernel_rfl
@[simp] theorem ty_field179_0 : fieldOf Tryz.prog 179 0 = some (0, 17) := by kernel_rfl
@[simp] theorem ty_field179_1 : fieldOf Tryz.prog 179 1 = some (1, 17) := by kernel_rfl
@[simp] theorem ty_field179_2 : fieldOf Tryz.prog 179 2 = some (2, 17) := by kernel_rfl
@[simp] theorem ty_field179_3 : fieldOf Tryz.prog 179 3 = some (3, 9) := by kernel_rfl
@[simp] theorem ty_cells180 : Tryz.prog.cellsOf 180 = 4 := by kernel_rfl
@[simp] theorem ty_bytes180 : Tryz.prog.bytesOf 180 = 40 := by kernel_rfl
@[simp] theorem ty_zeroD180 : zeroD Tryz.prog 180 = none := by kernel_rfl
@[simp] theorem ty_zeroC180 : zeroC Tryz.prog 180 = some [.nilp 180, .nilp 180, .nilp 180, .d (.str [])] := by kernel_rfl
@[simp] theorem ty_zeroO180 : zeroO Tryz.prog 180 = some [.undef, .undef, .undef, .d (.str [])] := by kernel_rfl
@[simp] theorem ty_field180_0 : fieldOf Tryz.prog 180 0 = some (0, 17) := by kernel_rfl
@[simp] theorem ty_field180_1 : fieldOf Tryz.prog 180 1 = some (1, 17) := by kernel_rfl
@[simp] theorem ty_field180_2 : fieldOf Tryz.prog 180 2 = some (2, 17) := by kernel_rfl
@[simp] theorem ty_field180_3 : fieldOf Tryz.prog 180 3 = some (3, 9) := by kernel_rfl
@[simp] theorem ty_cells181 : Tryz.prog.cellsOf 181 = 0 := by kernel_rfl
@[simp] theorem ty_bytes181 : Tryz.prog.bytesOf 181 = 0 := by kernel_rfl
@[simp] theorem ty_cells182 : Tryz.prog.cellsOf 182 = 0 := by kernel_rfl
@[simp] theorem ty_bytes182 : Tryz.prog.bytesOf 182 = 0 := by kernel_rfl
@[simp] theorem ty_field182_0 : fieldOf Tryz.prog 182 0 = some (0, 181) := by kernel_rfl
@[simp] theorem ty_cells183 : Tryz.prog.cellsOf 183 = 0 := by kernel_rfl
@[simp] theorem ty_bytes183 : Tryz.prog.bytesOf 183 = 0 := by kernel_rfl
@[simp] theorem ty_field183_0 : fieldOf Tryz.prog 183 0 = some (0, 181) := by kernel_rfl
@[simp] theorem ty_cells184 : Tryz.prog.cellsOf 184 = 1 := by kernel_rfl
@[simp] theorem ty_bytes184 : Tryz.prog.bytesOf 184 = 8 := by kernel_rfl
@[simp] theorem ty_zeroD184 : zeroD Tryz.prog 184 = none := by kernel_rfl
@[simp] theorem ty_zeroC184 : zeroC Tryz.prog 184 = some [.undef] := by kernel_rfl
@[simp] theorem ty_zeroO184 : zeroO Tryz.prog 184 = some [.undef] := by kernel_rfl
@[simp] theorem ty_cells185 : Tryz.prog.cellsOf 185 = 1 := by kernel_rfl
@[simp] theorem ty_bytes185 : Tryz.prog.bytesOf 185 = 1 := by kernel_rfl
@[simp] theorem ty_zeroD185 : zeroD Tryz.prog 185 = some [.int .u8 0] := by kernel_rfl
@[simp] theorem ty_zeroV185 : zeroValD Tryz.prog 185 = some (.int .u8 0) := by kernel_rfl
@[simp] theorem ty_cells186 : Tryz.prog.cellsOf 186 = 1 := by kernel_rfl
@[simp] theorem ty_bytes186 : Tryz.prog.bytesOf 186 = 1 := by kernel_rfl
@[simp] theorem ty_zeroD186 : zeroD Tryz.prog 186 = some [.int .u8 0] := by kernel_rfl
@[simp] theorem ty_zeroV186 : zeroValD Tryz.prog 186 = some (.int .u8 0) := by kernel_rfl
@[simp] theorem ty_cells187 : Tryz.prog.cellsOf 187 = 1 := by kernel_rfl
@[simp] theorem ty_bytes187 : Tryz.prog.bytesOf 187 = 8 := by kernel_rfl
@[simp] theorem ty_zeroD187 : zeroD Tryz.prog 187 = none := by kernel_rfl
@[simp] theorem ty_zeroC187 : zeroC Tryz.prog 187 = some [.undef] := by kernel_rfl
@[simp] theorem ty_zeroO187 : zeroO Tryz.prog 187 = some [.undef] := by kernel_rfl
@[simp] theorem ty_cells188 : Tryz.prog.cellsOf 188 = 1 := by kernel_rfl
@[simp] theorem ty_bytes188 : Tryz.prog.bytesOf 188 = 4 := by kernel_rfl
@[simp] theorem ty_zeroD188 : zeroD Tryz.prog 188 = some [.int .i32 0] := by kernel_rfl
@[simp] theorem ty_zeroV188 : zeroValD Tryz.prog 188 = some (.int .i32 0) := by kernel_rfl
@[simp] theorem ty_cells189 : Tryz.prog.cellsOf 189 = 1 := by kernel_rfl
@[simp] theorem ty_bytes189 : Tryz.prog.bytesOf 189 = 4 := by kernel_rfl
@[simp] theorem ty_zeroD189 : zeroD Tryz.prog 189 = some [.int .i32 0] := by kernel_rfl
@[simp] theorem ty_zeroV189 : zeroValD Tryz.prog 189 = some (.int .i32 0) := by kernel_rfl
@[simp] theorem ty_cells190 : Tryz.prog.cellsOf 190 = 11 := by kernel_rfl
@[simp] theorem ty_bytes190 : Tryz.prog.bytesOf 190 = 48 := by kernel_rfl
@[simp] theorem ty_zeroD190 : zeroD Tryz.prog 190 = none := by kernel_rfl
@[simp] theorem ty_zeroC190 : zeroC Tryz.prog 190 = some [.d (.int .u64 0), .d (.int .u64 0), .d (.int .u32 0), .d (.int .u8 0), .d (.int .u8 0), .d (.int .u8 0), .d (.int .u8 0), .undef, .nilp 190, .d (.int .i32 0), .d (.int .i32 0)] := by kernel_rfl
@[simp] theorem ty_zeroO190 : zeroO Tryz.prog 190 = some [.d (.int .u64 0), .d (.int .u64 0), .d (.int .u32 0), .d (.int .u8 0), .d (.int .u8 0), .d (.int .u8 0), .d (.int .u8 0), .undef, .undef, .d (.int .i32 0), .d (.int .i32 0)] := by kernel_rfl
@[simp] theorem ty_field190_0 : fieldOf Tryz.prog 190 0 = some (0, 12) := by kernel_rfl
@[simp] theorem ty_field190_1 : fieldOf Tryz.prog 190 1 = some (1, 12) := by kernel_rfl
@[simp] theorem ty_field190_2 : fieldOf Tryz.prog 190 2 = some (2, 159) := by kernel_rfl
@[simp] theorem ty_field190_3 : fieldOf Tryz.prog 190 3 = some (3, 185) := by kernel_rfl
@[simp] theorem ty_field190_4 : fieldOf Tryz.prog 190 4 = some (4, 5) := by kernel_rfl
@[simp] theorem ty_field190_5 : fieldOf Tryz.prog 190 5 = some (5, 5) := by kernel_rfl
@[simp] theorem ty_field190_6 : fieldOf Tryz.prog 190 6 = some (6, 186) := by kernel_rfl
@[simp] theorem ty_field190_7 : fieldOf Tryz.prog 190 7 = some (7, 187) := by kernel_rfl
@[simp] theorem ty_field190_8 : fieldOf Tryz.prog 190 8 = some (8, 94) := by kernel_rfl
@[simp] theorem ty_field190_9 : fieldOf Tryz.prog 190 9 = some (9, 188) := by kernel_rfl
@[simp] theorem ty_field190_10 : fieldOf Tryz.prog 190 10 = some (10, 189) := by kernel_rfl
@[simp] theorem ty_cells191 : Tryz.prog.cellsOf 191 = 11 := by kernel_rfl
@[simp] theorem ty_bytes191 : Tryz.prog.bytesOf 191 = 48 := by kernel_rfl
@[simp] theorem ty_zeroD191 : zeroD Tryz.prog 191 = none := by kernel_rfl
@[simp] theorem ty_zeroC191 : zeroC Tryz.prog 191 = some [.d (.int .u64 0), .d (.int .u64 0), .d (.int .u32 0), .d (.int .u8 0), .d (.int .u8 0), .d (.int .u8 0), .d (.int .u8 0), .undef, .nilp 191, .d (.int .i32 0), .d (.int .i32 0)] := by kernel_rfl
@[simp] theorem ty_zeroO191 : zeroO Tryz.prog 191 = some [.d (.int .u64 0), .d (.int .u64 0), .d (.int .u32 0), .d (.int .u8 0), .d (.int .u8 0), .d (.int .u8 0), .d (.int .u8 0), .undef, .undef, .d (.int .i32 0), .d (.int .i32 0)] := by kernel_rfl
@[simp] theorem ty_field191_0 : fieldOf Tryz.prog 191 0 = some (0, 12) := by kernel_rfl
@[simp] theorem ty_field191_1 : fieldOf Tryz.prog 191 1 = some (1, 12) := by kernel_rfl
@[simp] theorem ty_field191_2 : fieldOf Tryz.prog 191 2 = some (2, 159) := by kernel_rfl
@[simp] theorem ty_field191_3 : fieldOf Tryz.prog 191 3 = some (3, 185) := by kernel_rfl
@[simp] theorem ty_field191_4 : fieldOf Tryz.prog 191 4 = some (4, 5) := by kernel_rfl
@[simp] theorem ty_field191_5 : fieldOf Tryz.prog 191 5 = some (5, 5) := by kernel_rfl
@[simp] theorem ty_field191_6 : fieldOf Tryz.prog 191 6 = some (6, 186) := by kernel_rfl
@[simp] theorem ty_field191_7 : fieldOf Tryz.prog 191 7 = some (7, 187) := by kernel_rfl
@[simp] theorem ty_field191_8 : fieldOf Tryz.prog 191 8 = some (8, 94) := by kernel_rfl
@[simp] theorem ty_field191_9 : fieldOf Tryz.prog 191 9 = some (9, 188) := by kernel_rfl
@[simp] theorem ty_field191_10 : fieldOf Tryz.prog 191 10 = some (10, 189) := by kernel_rfl
@[simp] theorem ty_elemOk3 : elemOk Tryz.prog 3 = true := by kernel_rfl
@[simp] theorem ty_elemOk5 : elemOk Tryz.prog 5 = true := by kernel_rfl
@[simp] theorem ty_elemOk9 : elemOk Tryz.prog 9 = true := by kernel_rfl
@[simp] theorem ty_elemOk22 : elemOk Tryz.prog 22 = true := by kernel_rfl
@[simp] theorem ty_elemOk25 : elemOk Tryz.prog 25 = true := by kernel_rfl
@[simp] theorem ty_elemOk36 : elemOk Tryz.prog 36 = true := by kernel_rfl
@[simp] theorem ty_elemOk46 : elemOk Tryz.prog 46 = true := by kernel_rfl
end Go.Proofs.YtlglfkdjlbcpjaaGreatDoor
