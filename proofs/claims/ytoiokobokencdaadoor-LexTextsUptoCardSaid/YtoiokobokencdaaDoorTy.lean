/- The facts on this translation's types that the machine on data asks, one closed fact each. By a program of ours. No condition. -/
import Derived.Test.YtoiokobokencdaaDoorZF
import Derived.KernelRfl
import Derived.Test.YtoiokobokencdaaDoorProg
set_option linter.unusedVariables false
set_option linter.unusedSimpArgs false
namespace Go.Proofs.YtoiokobokencdaaDoor
open Go Go.VM
@[simp] theorem ty_cells1 : Tryd.prog.cellsOf 1 = 1 := by kernel_rfl
@[simp] theorem ty_bytes1 : Tryd.prog.bytesOf 1 = 8 := by kernel_rfl
@[simp] theorem ty_zeroD1 : zeroD Tryd.prog 1 = none := by kernel_rfl
@[simp] theorem ty_zeroC1 : zeroC Tryd.prog 1 = some [.undef] := by kernel_rfl
@[simp] theorem ty_zeroO1 : zeroO Tryd.prog 1 = some [.undef] := by kernel_rfl
@[simp] theorem ty_cells2 : Tryd.prog.cellsOf 2 = 1 := by kernel_rfl
@[simp] theorem ty_bytes2 : Tryd.prog.bytesOf 2 = 8 := by kernel_rfl
@[simp] theorem ty_zeroD2 : zeroD Tryd.prog 2 = some [.int .i64 0] := by kernel_rfl
@[simp] theorem ty_zeroV2 : zeroValD Tryd.prog 2 = some (.int .i64 0) := by kernel_rfl
@[simp] theorem ty_cells3 : Tryd.prog.cellsOf 3 = 1 := by kernel_rfl
@[simp] theorem ty_bytes3 : Tryd.prog.bytesOf 3 = 8 := by kernel_rfl
@[simp] theorem ty_zeroD3 : zeroD Tryd.prog 3 = some [.int .i64 0] := by kernel_rfl
@[simp] theorem ty_zeroV3 : zeroValD Tryd.prog 3 = some (.int .i64 0) := by kernel_rfl
@[simp] theorem ty_cells4 : Tryd.prog.cellsOf 4 = 1 := by kernel_rfl
@[simp] theorem ty_bytes4 : Tryd.prog.bytesOf 4 = 1 := by kernel_rfl
@[simp] theorem ty_zeroD4 : zeroD Tryd.prog 4 = some [.bool false] := by kernel_rfl
@[simp] theorem ty_zeroV4 : zeroValD Tryd.prog 4 = some (.bool false) := by kernel_rfl
@[simp] theorem ty_cells5 : Tryd.prog.cellsOf 5 = 1 := by kernel_rfl
@[simp] theorem ty_bytes5 : Tryd.prog.bytesOf 5 = 1 := by kernel_rfl
@[simp] theorem ty_zeroD5 : zeroD Tryd.prog 5 = some [.int .u8 0] := by kernel_rfl
@[simp] theorem ty_zeroV5 : zeroValD Tryd.prog 5 = some (.int .u8 0) := by kernel_rfl
@[simp] theorem ty_cells6 : Tryd.prog.cellsOf 6 = 1 := by kernel_rfl
@[simp] theorem ty_bytes6 : Tryd.prog.bytesOf 6 = 1 := by kernel_rfl
@[simp] theorem ty_zeroD6 : zeroD Tryd.prog 6 = some [.int .u8 0] := by kernel_rfl
@[simp] theorem ty_zeroV6 : zeroValD Tryd.prog 6 = some (.int .u8 0) := by kernel_rfl
@[simp] theorem ty_cells7 : Tryd.prog.cellsOf 7 = 4 := by kernel_rfl
@[simp] theorem ty_bytes7 : Tryd.prog.bytesOf 7 = 24 := by kernel_rfl
@[simp] theorem ty_zeroD7 : zeroD Tryd.prog 7 = some [.int .i64 0, .int .i64 0, .bool false, .int .u8 0] := by kernel_rfl
@[simp] theorem ty_zeroV7 : zeroValD Tryd.prog 7 = some (.agg [.int .i64 0, .int .i64 0, .bool false, .int .u8 0]) := by kernel_rfl
@[simp] theorem ty_isStruct7 : isStruct Tryd.prog 7 = true := by kernel_rfl
@[simp] theorem ty_field7_0 : fieldOf Tryd.prog 7 0 = some (0, 2) := by kernel_rfl
@[simp] theorem ty_field7_1 : fieldOf Tryd.prog 7 1 = some (1, 3) := by kernel_rfl
@[simp] theorem ty_field7_2 : fieldOf Tryd.prog 7 2 = some (2, 4) := by kernel_rfl
@[simp] theorem ty_field7_3 : fieldOf Tryd.prog 7 3 = some (3, 6) := by kernel_rfl
@[simp] theorem ty_cells8 : Tryd.prog.cellsOf 8 = 4 := by kernel_rfl
@[simp] theorem ty_bytes8 : Tryd.prog.bytesOf 8 = 24 := by kernel_rfl
@[simp] theorem ty_zeroD8 : zeroD Tryd.prog 8 = some [.int .i64 0, .int .i64 0, .bool false, .int .u8 0] := by kernel_rfl
@[simp] theorem ty_zeroV8 : zeroValD Tryd.prog 8 = some (.agg [.int .i64 0, .int .i64 0, .bool false, .int .u8 0]) := by kernel_rfl
@[simp] theorem ty_isStruct8 : isStruct Tryd.prog 8 = true := by kernel_rfl
@[simp] theorem ty_field8_0 : fieldOf Tryd.prog 8 0 = some (0, 2) := by kernel_rfl
@[simp] theorem ty_field8_1 : fieldOf Tryd.prog 8 1 = some (1, 3) := by kernel_rfl
@[simp] theorem ty_field8_2 : fieldOf Tryd.prog 8 2 = some (2, 4) := by kernel_rfl
@[simp] theorem ty_field8_3 : fieldOf Tryd.prog 8 3 = some (3, 6) := by kernel_rfl
@[simp] theorem ty_cells9 : Tryd.prog.cellsOf 9 = 1 := by kernel_rfl
@[simp] theorem ty_bytes9 : Tryd.prog.bytesOf 9 = 16 := by kernel_rfl
@[simp] theorem ty_zeroD9 : zeroD Tryd.prog 9 = some [.str []] := by kernel_rfl
@[simp] theorem ty_zeroV9 : zeroValD Tryd.prog 9 = some (.str []) := by kernel_rfl
@[simp] theorem ty_cells10 : Tryd.prog.cellsOf 10 = 1 := by kernel_rfl
@[simp] theorem ty_bytes10 : Tryd.prog.bytesOf 10 = 16 := by kernel_rfl
@[simp] theorem ty_zeroD10 : zeroD Tryd.prog 10 = some [.str []] := by kernel_rfl
@[simp] theorem ty_zeroV10 : zeroValD Tryd.prog 10 = some (.str []) := by kernel_rfl
@[simp] theorem ty_cells11 : Tryd.prog.cellsOf 11 = 1 := by kernel_rfl
@[simp] theorem ty_bytes11 : Tryd.prog.bytesOf 11 = 16 := by kernel_rfl
@[simp] theorem ty_zeroD11 : zeroD Tryd.prog 11 = some [.str []] := by kernel_rfl
@[simp] theorem ty_zeroV11 : zeroValD Tryd.prog 11 = some (.str []) := by kernel_rfl
@[simp] theorem ty_cells12 : Tryd.prog.cellsOf 12 = 1 := by kernel_rfl
@[simp] theorem ty_bytes12 : Tryd.prog.bytesOf 12 = 8 := by kernel_rfl
@[simp] theorem ty_zeroD12 : zeroD Tryd.prog 12 = some [.int .u64 0] := by kernel_rfl
@[simp] theorem ty_zeroV12 : zeroValD Tryd.prog 12 = some (.int .u64 0) := by kernel_rfl
@[simp] theorem ty_cells13 : Tryd.prog.cellsOf 13 = 2 := by kernel_rfl
@[simp] theorem ty_bytes13 : Tryd.prog.bytesOf 13 = 24 := by kernel_rfl
@[simp] theorem ty_zeroD13 : zeroD Tryd.prog 13 = some [.str [], .int .u64 0] := by kernel_rfl
@[simp] theorem ty_zeroV13 : zeroValD Tryd.prog 13 = some (.agg [.str [], .int .u64 0]) := by kernel_rfl
@[simp] theorem ty_isStruct13 : isStruct Tryd.prog 13 = true := by kernel_rfl
@[simp] theorem ty_field13_0 : fieldOf Tryd.prog 13 0 = some (0, 9) := by kernel_rfl
@[simp] theorem ty_field13_1 : fieldOf Tryd.prog 13 1 = some (1, 12) := by kernel_rfl
@[simp] theorem ty_cells14 : Tryd.prog.cellsOf 14 = 2 := by kernel_rfl
@[simp] theorem ty_bytes14 : Tryd.prog.bytesOf 14 = 24 := by kernel_rfl
@[simp] theorem ty_zeroD14 : zeroD Tryd.prog 14 = some [.str [], .int .u64 0] := by kernel_rfl
@[simp] theorem ty_zeroV14 : zeroValD Tryd.prog 14 = some (.agg [.str [], .int .u64 0]) := by kernel_rfl
@[simp] theorem ty_isStruct14 : isStruct Tryd.prog 14 = true := by kernel_rfl
@[simp] theorem ty_field14_0 : fieldOf Tryd.prog 14 0 = some (0, 9) := by kernel_rfl
@[simp] theorem ty_field14_1 : fieldOf Tryd.prog 14 1 = some (1, 12) := by kernel_rfl
@[simp] theorem ty_cells15 : Tryd.prog.cellsOf 15 = 1 := by kernel_rfl
@[simp] theorem ty_bytes15 : Tryd.prog.bytesOf 15 = 8 := by kernel_rfl
@[simp] theorem ty_zeroD15 : zeroD Tryd.prog 15 = none := by kernel_rfl
@[simp] theorem ty_zeroC15 : zeroC Tryd.prog 15 = some [.nilp 15] := by kernel_rfl
@[simp] theorem ty_zeroO15 : zeroO Tryd.prog 15 = some [.undef] := by kernel_rfl
@[simp] theorem ty_cells16 : Tryd.prog.cellsOf 16 = 1 := by kernel_rfl
@[simp] theorem ty_bytes16 : Tryd.prog.bytesOf 16 = 8 := by kernel_rfl
@[simp] theorem ty_zeroD16 : zeroD Tryd.prog 16 = none := by kernel_rfl
@[simp] theorem ty_zeroC16 : zeroC Tryd.prog 16 = some [.nilp 16] := by kernel_rfl
@[simp] theorem ty_zeroO16 : zeroO Tryd.prog 16 = some [.undef] := by kernel_rfl
@[simp] theorem ty_cells17 : Tryd.prog.cellsOf 17 = 1 := by kernel_rfl
@[simp] theorem ty_bytes17 : Tryd.prog.bytesOf 17 = 8 := by kernel_rfl
@[simp] theorem ty_zeroD17 : zeroD Tryd.prog 17 = none := by kernel_rfl
@[simp] theorem ty_zeroC17 : zeroC Tryd.prog 17 = some [.nilp 17] := by kernel_rfl
@[simp] theorem ty_zeroO17 : zeroO Tryd.prog 17 = some [.undef] := by kernel_rfl
@[simp] theorem ty_cells18 : Tryd.prog.cellsOf 18 = 1 := by kernel_rfl
@[simp] theorem ty_bytes18 : Tryd.prog.bytesOf 18 = 8 := by kernel_rfl
@[simp] theorem ty_zeroD18 : zeroD Tryd.prog 18 = none := by kernel_rfl
@[simp] theorem ty_zeroC18 : zeroC Tryd.prog 18 = some [.nilp 18] := by kernel_rfl
@[simp] theorem ty_zeroO18 : zeroO Tryd.prog 18 = some [.undef] := by kernel_rfl
@[simp] theorem ty_field18_0 : fieldOf Tryd.prog 18 0 = some (0, 17) := by kernel_rfl
@[simp] theorem ty_cells19 : Tryd.prog.cellsOf 19 = 1 := by kernel_rfl
@[simp] theorem ty_bytes19 : Tryd.prog.bytesOf 19 = 8 := by kernel_rfl
@[simp] theorem ty_zeroD19 : zeroD Tryd.prog 19 = none := by kernel_rfl
@[simp] theorem ty_zeroC19 : zeroC Tryd.prog 19 = some [.nilp 19] := by kernel_rfl
@[simp] theorem ty_zeroO19 : zeroO Tryd.prog 19 = some [.undef] := by kernel_rfl
@[simp] theorem ty_field19_0 : fieldOf Tryd.prog 19 0 = some (0, 17) := by kernel_rfl
@[simp] theorem ty_zeroD20 : zeroD Tryd.prog 20 = none := by kernel_rfl
@[simp] theorem ty_zeroC20 : zeroC Tryd.prog 20 = some [.undef] := by kernel_rfl
@[simp] theorem ty_zeroO20 : zeroO Tryd.prog 20 = some [.undef] := by kernel_rfl
@[simp] theorem ty_cells21 : Tryd.prog.cellsOf 21 = 1 := by kernel_rfl
@[simp] theorem ty_bytes21 : Tryd.prog.bytesOf 21 = 4 := by kernel_rfl
@[simp] theorem ty_zeroD21 : zeroD Tryd.prog 21 = some [.int .i32 0] := by kernel_rfl
@[simp] theorem ty_zeroV21 : zeroValD Tryd.prog 21 = some (.int .i32 0) := by kernel_rfl
@[simp] theorem ty_cells22 : Tryd.prog.cellsOf 22 = 1 := by kernel_rfl
@[simp] theorem ty_bytes22 : Tryd.prog.bytesOf 22 = 8 := by kernel_rfl
@[simp] theorem ty_zeroD22 : zeroD Tryd.prog 22 = none := by kernel_rfl
@[simp] theorem ty_zeroC22 : zeroC Tryd.prog 22 = some [.undef] := by kernel_rfl
@[simp] theorem ty_zeroO22 : zeroO Tryd.prog 22 = some [.undef] := by kernel_rfl
@[simp] theorem ty_cells23 : Tryd.prog.cellsOf 23 = 1 := by kernel_rfl
@[simp] theorem ty_bytes23 : Tryd.prog.bytesOf 23 = 24 := by kernel_rfl
@[simp] theorem ty_zeroD23 : zeroD Tryd.prog 23 = some [.nils] := by kernel_rfl
@[simp] theorem ty_zeroV23 : zeroValD Tryd.prog 23 = some (.nils) := by kernel_rfl
@[simp] theorem ty_elem23 : elemOfD Tryd.prog 23 = some 33 := by kernel_rfl
@[simp] theorem ty_cells24 : Tryd.prog.cellsOf 24 = 1 := by kernel_rfl
@[simp] theorem ty_bytes24 : Tryd.prog.bytesOf 24 = 8 := by kernel_rfl
@[simp] theorem ty_zeroD24 : zeroD Tryd.prog 24 = some [.int .i64 0] := by kernel_rfl
@[simp] theorem ty_zeroV24 : zeroValD Tryd.prog 24 = some (.int .i64 0) := by kernel_rfl
@[simp] theorem ty_cells26 : Tryd.prog.cellsOf 26 = 1 := by kernel_rfl
@[simp] theorem ty_bytes26 : Tryd.prog.bytesOf 26 = 8 := by kernel_rfl
@[simp] theorem ty_zeroD26 : zeroD Tryd.prog 26 = none := by kernel_rfl
@[simp] theorem ty_zeroC26 : zeroC Tryd.prog 26 = some [.undef] := by kernel_rfl
@[simp] theorem ty_zeroO26 : zeroO Tryd.prog 26 = some [.undef] := by kernel_rfl
@[simp] theorem ty_cells27 : Tryd.prog.cellsOf 27 = 1 := by kernel_rfl
@[simp] theorem ty_bytes27 : Tryd.prog.bytesOf 27 = 8 := by kernel_rfl
@[simp] theorem ty_zeroD27 : zeroD Tryd.prog 27 = none := by kernel_rfl
@[simp] theorem ty_zeroC27 : zeroC Tryd.prog 27 = some [.undef] := by kernel_rfl
@[simp] theorem ty_zeroO27 : zeroO Tryd.prog 27 = some [.undef] := by kernel_rfl
@[simp] theorem ty_cells28 : Tryd.prog.cellsOf 28 = 1 := by kernel_rfl
@[simp] theorem ty_bytes28 : Tryd.prog.bytesOf 28 = 8 := by kernel_rfl
@[simp] theorem ty_zeroD28 : zeroD Tryd.prog 28 = none := by kernel_rfl
@[simp] theorem ty_zeroC28 : zeroC Tryd.prog 28 = some [.undef] := by kernel_rfl
@[simp] theorem ty_zeroO28 : zeroO Tryd.prog 28 = some [.undef] := by kernel_rfl
@[simp] theorem ty_cells30 : Tryd.prog.cellsOf 30 = 1 := by kernel_rfl
@[simp] theorem ty_bytes30 : Tryd.prog.bytesOf 30 = 8 := by kernel_rfl
@[simp] theorem ty_zeroD30 : zeroD Tryd.prog 30 = none := by kernel_rfl
@[simp] theorem ty_zeroC30 : zeroC Tryd.prog 30 = some [.undef] := by kernel_rfl
@[simp] theorem ty_zeroO30 : zeroO Tryd.prog 30 = some [.undef] := by kernel_rfl
@[simp] theorem ty_cells31 : Tryd.prog.cellsOf 31 = 1 := by kernel_rfl
@[simp] theorem ty_bytes31 : Tryd.prog.bytesOf 31 = 8 := by kernel_rfl
@[simp] theorem ty_zeroD31 : zeroD Tryd.prog 31 = some [.int .i64 0] := by kernel_rfl
@[simp] theorem ty_zeroV31 : zeroValD Tryd.prog 31 = some (.int .i64 0) := by kernel_rfl
@[simp] theorem ty_cells32 : Tryd.prog.cellsOf 32 = 4 := by kernel_rfl
@[simp] theorem ty_bytes32 : Tryd.prog.bytesOf 32 = 40 := by kernel_rfl
@[simp] theorem ty_zeroD32 : zeroD Tryd.prog 32 = some [.int .i64 0, .str [], .int .i64 0, .int .i64 0] := by kernel_rfl
@[simp] theorem ty_zeroV32 : zeroValD Tryd.prog 32 = some (.agg [.int .i64 0, .str [], .int .i64 0, .int .i64 0]) := by kernel_rfl
@[simp] theorem ty_isStruct32 : isStruct Tryd.prog 32 = true := by kernel_rfl
@[simp] theorem ty_field32_0 : fieldOf Tryd.prog 32 0 = some (0, 31) := by kernel_rfl
@[simp] theorem ty_field32_1 : fieldOf Tryd.prog 32 1 = some (1, 9) := by kernel_rfl
@[simp] theorem ty_field32_2 : fieldOf Tryd.prog 32 2 = some (2, 3) := by kernel_rfl
@[simp] theorem ty_field32_3 : fieldOf Tryd.prog 32 3 = some (3, 3) := by kernel_rfl
@[simp] theorem ty_cells33 : Tryd.prog.cellsOf 33 = 4 := by kernel_rfl
@[simp] theorem ty_bytes33 : Tryd.prog.bytesOf 33 = 40 := by kernel_rfl
@[simp] theorem ty_zeroD33 : zeroD Tryd.prog 33 = some [.int .i64 0, .str [], .int .i64 0, .int .i64 0] := by kernel_rfl
@[simp] theorem ty_zeroV33 : zeroValD Tryd.prog 33 = some (.agg [.int .i64 0, .str [], .int .i64 0, .int .i64 0]) := by kernel_rfl
@[simp] theorem ty_isStruct33 : isStruct Tryd.prog 33 = true := by kernel_rfl
@[simp] theorem ty_field33_0 : fieldOf Tryd.prog 33 0 = some (0, 31) := by kernel_rfl
@[simp] theorem ty_field33_1 : fieldOf Tryd.prog 33 1 = some (1, 9) := by kernel_rfl
@[simp] theorem ty_field33_2 : fieldOf Tryd.prog 33 2 = some (2, 3) := by kernel_rfl
@[simp] theorem ty_field33_3 : fieldOf Tryd.prog 33 3 = some (3, 3) := by kernel_rfl
@[simp] theorem ty_flat33 : flatDescs Tryd.prog 33 = some [.int .i64, .string, .int .i64, .int .i64] := by kernel_rfl
@[simp] theorem ty_cells34 : Tryd.prog.cellsOf 34 = 1 := by kernel_rfl
@[simp] theorem ty_bytes34 : Tryd.prog.bytesOf 34 = 8 := by kernel_rfl
@[simp] theorem ty_zeroD34 : zeroD Tryd.prog 34 = none := by kernel_rfl
@[simp] theorem ty_zeroC34 : zeroC Tryd.prog 34 = some [.undef] := by kernel_rfl
@[simp] theorem ty_zeroO34 : zeroO Tryd.prog 34 = some [.undef] := by kernel_rfl
@[simp] theorem ty_cells35 : Tryd.prog.cellsOf 35 = 1 := by kernel_rfl
@[simp] theorem ty_bytes35 : Tryd.prog.bytesOf 35 = 8 := by kernel_rfl
@[simp] theorem ty_zeroD35 : zeroD Tryd.prog 35 = none := by kernel_rfl
@[simp] theorem ty_zeroC35 : zeroC Tryd.prog 35 = some [.undef] := by kernel_rfl
@[simp] theorem ty_zeroO35 : zeroO Tryd.prog 35 = some [.undef] := by kernel_rfl
@[simp] theorem ty_cells36 : Tryd.prog.cellsOf 36 = 1 := by kernel_rfl
@[simp] theorem ty_bytes36 : Tryd.prog.bytesOf 36 = 8 := by kernel_rfl
@[simp] theorem ty_zeroD36 : zeroD Tryd.prog 36 = none := by kernel_rfl
@[simp] theorem ty_zeroC36 : zeroC Tryd.prog 36 = some [.undef] := by kernel_rfl
@[simp] theorem ty_zeroO36 : zeroO Tryd.prog 36 = some [.undef] := by kernel_rfl
@[simp] theorem ty_cells37 : Tryd.prog.cellsOf 37 = 1 := by kernel_rfl
@[simp] theorem ty_bytes37 : Tryd.prog.bytesOf 37 = 8 := by kernel_rfl
@[simp] theorem ty_zeroD37 : zeroD Tryd.prog 37 = none := by kernel_rfl
@[simp] theorem ty_zeroC37 : zeroC Tryd.prog 37 = some [.undef] := by kernel_rfl
@[simp] theorem ty_zeroO37 : zeroO Tryd.prog 37 = some [.undef] := by kernel_rfl
@[simp] theorem ty_cells39 : Tryd.prog.cellsOf 39 = 1 := by kernel_rfl
@[simp] theorem ty_bytes39 : Tryd.prog.bytesOf 39 = 8 := by kernel_rfl
@[simp] theorem ty_zeroD39 : zeroD Tryd.prog 39 = none := by kernel_rfl
@[simp] theorem ty_zeroC39 : zeroC Tryd.prog 39 = some [.undef] := by kernel_rfl
@[simp] theorem ty_zeroO39 : zeroO Tryd.prog 39 = some [.undef] := by kernel_rfl
@[simp] theorem ty_cells41 : Tryd.prog.cellsOf 41 = 1 := by kernel_rfl
@[simp] theorem ty_bytes41 : Tryd.prog.bytesOf 41 = 8 := by kernel_rfl
@[simp] theorem ty_zeroD41 : zeroD Tryd.prog 41 = none := by kernel_rfl
@[simp] theorem ty_zeroC41 : zeroC Tryd.prog 41 = some [.undef] := by kernel_rfl
@[simp] theorem ty_zeroO41 : zeroO Tryd.prog 41 = some [.undef] := by kernel_rfl
@[simp] theorem ty_cells42 : Tryd.prog.cellsOf 42 = 1 := by kernel_rfl
@[simp] theorem ty_bytes42 : Tryd.prog.bytesOf 42 = 8 := by kernel_rfl
@[simp] theorem ty_zeroD42 : zeroD Tryd.prog 42 = none := by kernel_rfl
@[simp] theorem ty_zeroC42 : zeroC Tryd.prog 42 = some [.nilp 42] := by kernel_rfl
@[simp] theorem ty_zeroO42 : zeroO Tryd.prog 42 = some [.undef] := by kernel_rfl
@[simp] theorem ty_cells43 : Tryd.prog.cellsOf 43 = 1 := by kernel_rfl
@[simp] theorem ty_bytes43 : Tryd.prog.bytesOf 43 = 24 := by kernel_rfl
@[simp] theorem ty_zeroD43 : zeroD Tryd.prog 43 = some [.nils] := by kernel_rfl
@[simp] theorem ty_zeroV43 : zeroValD Tryd.prog 43 = some (.nils) := by kernel_rfl
@[simp] theorem ty_elem43 : elemOfD Tryd.prog 43 = some 5 := by kernel_rfl
@[simp] theorem ty_cells44 : Tryd.prog.cellsOf 44 = 2 := by kernel_rfl
@[simp] theorem ty_bytes44 : Tryd.prog.bytesOf 44 = 32 := by kernel_rfl
@[simp] theorem ty_zeroD44 : zeroD Tryd.prog 44 = none := by kernel_rfl
@[simp] theorem ty_zeroC44 : zeroC Tryd.prog 44 = some [.nilp 44, .d (.nils)] := by kernel_rfl
@[simp] theorem ty_zeroO44 : zeroO Tryd.prog 44 = some [.undef, .d (.nils)] := by kernel_rfl
@[simp] theorem ty_field44_0 : fieldOf Tryd.prog 44 0 = some (0, 42) := by kernel_rfl
@[simp] theorem ty_field44_1 : fieldOf Tryd.prog 44 1 = some (1, 43) := by kernel_rfl
@[simp] theorem ty_cells45 : Tryd.prog.cellsOf 45 = 2 := by kernel_rfl
@[simp] theorem ty_bytes45 : Tryd.prog.bytesOf 45 = 32 := by kernel_rfl
@[simp] theorem ty_zeroD45 : zeroD Tryd.prog 45 = none := by kernel_rfl
@[simp] theorem ty_zeroC45 : zeroC Tryd.prog 45 = some [.nilp 45, .d (.nils)] := by kernel_rfl
@[simp] theorem ty_zeroO45 : zeroO Tryd.prog 45 = some [.undef, .d (.nils)] := by kernel_rfl
@[simp] theorem ty_field45_0 : fieldOf Tryd.prog 45 0 = some (0, 42) := by kernel_rfl
@[simp] theorem ty_field45_1 : fieldOf Tryd.prog 45 1 = some (1, 43) := by kernel_rfl
@[simp] theorem ty_cells46 : Tryd.prog.cellsOf 46 = 1 := by kernel_rfl
@[simp] theorem ty_bytes46 : Tryd.prog.bytesOf 46 = 8 := by kernel_rfl
@[simp] theorem ty_zeroD46 : zeroD Tryd.prog 46 = none := by kernel_rfl
@[simp] theorem ty_zeroC46 : zeroC Tryd.prog 46 = some [.undef] := by kernel_rfl
@[simp] theorem ty_zeroO46 : zeroO Tryd.prog 46 = some [.undef] := by kernel_rfl
@[simp] theorem ty_zeroD47 : zeroD Tryd.prog 47 = none := by kernel_rfl
@[simp] theorem ty_zeroC47 : zeroC Tryd.prog 47 = some [.undef] := by kernel_rfl
@[simp] theorem ty_zeroO47 : zeroO Tryd.prog 47 = some [.undef] := by kernel_rfl
@[simp] theorem ty_zeroD48 : zeroD Tryd.prog 48 = none := by kernel_rfl
@[simp] theorem ty_zeroC48 : zeroC Tryd.prog 48 = some [.undef] := by kernel_rfl
@[simp] theorem ty_zeroO48 : zeroO Tryd.prog 48 = some [.undef] := by kernel_rfl
@[simp] theorem ty_cells50 : Tryd.prog.cellsOf 50 = 1 := by kernel_rfl
@[simp] theorem ty_bytes50 : Tryd.prog.bytesOf 50 = 8 := by kernel_rfl
@[simp] theorem ty_zeroD50 : zeroD Tryd.prog 50 = none := by kernel_rfl
@[simp] theorem ty_zeroC50 : zeroC Tryd.prog 50 = some [.undef] := by kernel_rfl
@[simp] theorem ty_zeroO50 : zeroO Tryd.prog 50 = some [.undef] := by kernel_rfl
@[simp] theorem ty_cells51 : Tryd.prog.cellsOf 51 = 1 := by kernel_rfl
@[simp] theorem ty_bytes51 : Tryd.prog.bytesOf 51 = 8 := by kernel_rfl
@[simp] theorem ty_zeroD51 : zeroD Tryd.prog 51 = none := by kernel_rfl
@[simp] theorem ty_zeroC51 : zeroC Tryd.prog 51 = some [.undef] := by kernel_rfl
@[simp] theorem ty_zeroO51 : zeroO Tryd.prog 51 = some [.undef] := by kernel_rfl
@[simp] theorem ty_cells52 : Tryd.prog.cellsOf 52 = 1 := by kernel_rfl
@[simp] theorem ty_bytes52 : Tryd.prog.bytesOf 52 = 8 := by kernel_rfl
@[simp] theorem ty_zeroD52 : zeroD Tryd.prog 52 = none := by kernel_rfl
@[simp] theorem ty_zeroC52 : zeroC Tryd.prog 52 = some [.undef] := by kernel_rfl
@[simp] theorem ty_zeroO52 : zeroO Tryd.prog 52 = some [.undef] := by kernel_rfl
@[simp] theorem ty_cells53 : Tryd.prog.cellsOf 53 = 1 := by kernel_rfl
@[simp] theorem ty_bytes53 : Tryd.prog.bytesOf 53 = 8 := by kernel_rfl
@[simp] theorem ty_zeroD53 : zeroD Tryd.prog 53 = none := by kernel_rfl
@[simp] theorem ty_zeroC53 : zeroC Tryd.prog 53 = some [.undef] := by kernel_rfl
@[simp] theorem ty_zeroO53 : zeroO Tryd.prog 53 = some [.undef] := by kernel_rfl
@[simp] theorem ty_cells54 : Tryd.prog.cellsOf 54 = 1 := by kernel_rfl
@[simp] theorem ty_bytes54 : Tryd.prog.bytesOf 54 = 8 := by kernel_rfl
@[simp] theorem ty_zeroD54 : zeroD Tryd.prog 54 = none := by kernel_rfl
@[simp] theorem ty_zeroC54 : zeroC Tryd.prog 54 = some [.undef] := by kernel_rfl
@[simp] theorem ty_zeroO54 : zeroO Tryd.prog 54 = some [.undef] := by kernel_rfl
@[simp] theorem ty_cells55 : Tryd.prog.cellsOf 55 = 1 := by kernel_rfl
@[simp] theorem ty_bytes55 : Tryd.prog.bytesOf 55 = 8 := by kernel_rfl
@[simp] theorem ty_zeroD55 : zeroD Tryd.prog 55 = none := by kernel_rfl
@[simp] theorem ty_zeroC55 : zeroC Tryd.prog 55 = some [.undef] := by kernel_rfl
@[simp] theorem ty_zeroO55 : zeroO Tryd.prog 55 = some [.undef] := by kernel_rfl
@[simp] theorem ty_map55 : mapOf Tryd.prog 55 = some (3, 4) := by kernel_rfl
@[simp] theorem ty_cells56 : Tryd.prog.cellsOf 56 = 1 := by kernel_rfl
@[simp] theorem ty_bytes56 : Tryd.prog.bytesOf 56 = 8 := by kernel_rfl
@[simp] theorem ty_zeroD56 : zeroD Tryd.prog 56 = none := by kernel_rfl
@[simp] theorem ty_zeroC56 : zeroC Tryd.prog 56 = some [.undef] := by kernel_rfl
@[simp] theorem ty_zeroO56 : zeroO Tryd.prog 56 = some [.undef] := by kernel_rfl
@[simp] theorem ty_cells57 : Tryd.prog.cellsOf 57 = 1 := by kernel_rfl
@[simp] theorem ty_bytes57 : Tryd.prog.bytesOf 57 = 8 := by kernel_rfl
@[simp] theorem ty_zeroD57 : zeroD Tryd.prog 57 = none := by kernel_rfl
@[simp] theorem ty_zeroC57 : zeroC Tryd.prog 57 = some [.undef] := by kernel_rfl
@[simp] theorem ty_zeroO57 : zeroO Tryd.prog 57 = some [.undef] := by kernel_rfl
@[simp] theorem ty_cells58 : Tryd.prog.cellsOf 58 = 1 := by kernel_rfl
@[simp] theorem ty_bytes58 : Tryd.prog.bytesOf 58 = 8 := by kernel_rfl
@[simp] theorem ty_zeroD58 : zeroD Tryd.prog 58 = none := by kernel_rfl
@[simp] theorem ty_zeroC58 : zeroC Tryd.prog 58 = some [.undef] := by kernel_rfl
@[simp] theorem ty_zeroO58 : zeroO Tryd.prog 58 = some [.undef] := by kernel_rfl
@[simp] theorem ty_cells60 : Tryd.prog.cellsOf 60 = 1 := by kernel_rfl
@[simp] theorem ty_bytes60 : Tryd.prog.bytesOf 60 = 8 := by kernel_rfl
@[simp] theorem ty_zeroD60 : zeroD Tryd.prog 60 = none := by kernel_rfl
@[simp] theorem ty_zeroC60 : zeroC Tryd.prog 60 = some [.undef] := by kernel_rfl
@[simp] theorem ty_zeroO60 : zeroO Tryd.prog 60 = some [.undef] := by kernel_rfl
@[simp] theorem ty_cells61 : Tryd.prog.cellsOf 61 = 1 := by kernel_rfl
@[simp] theorem ty_bytes61 : Tryd.prog.bytesOf 61 = 24 := by kernel_rfl
@[simp] theorem ty_zeroD61 : zeroD Tryd.prog 61 = some [.nils] := by kernel_rfl
@[simp] theorem ty_zeroV61 : zeroValD Tryd.prog 61 = some (.nils) := by kernel_rfl
@[simp] theorem ty_elem61 : elemOfD Tryd.prog 61 = some 9 := by kernel_rfl
@[simp] theorem ty_cells62 : Tryd.prog.cellsOf 62 = 1 := by kernel_rfl
@[simp] theorem ty_bytes62 : Tryd.prog.bytesOf 62 = 8 := by kernel_rfl
@[simp] theorem ty_zeroD62 : zeroD Tryd.prog 62 = none := by kernel_rfl
@[simp] theorem ty_zeroC62 : zeroC Tryd.prog 62 = some [.undef] := by kernel_rfl
@[simp] theorem ty_zeroO62 : zeroO Tryd.prog 62 = some [.undef] := by kernel_rfl
@[simp] theorem ty_cells63 : Tryd.prog.cellsOf 63 = 1 := by kernel_rfl
@[simp] theorem ty_bytes63 : Tryd.prog.bytesOf 63 = 8 := by kernel_rfl
@[simp] theorem ty_zeroD63 : zeroD Tryd.prog 63 = none := by kernel_rfl
@[simp] theorem ty_zeroC63 : zeroC Tryd.prog 63 = some [.undef] := by kernel_rfl
@[simp] theorem ty_zeroO63 : zeroO Tryd.prog 63 = some [.undef] := by kernel_rfl
@[simp] theorem ty_cells64 : Tryd.prog.cellsOf 64 = 1 := by kernel_rfl
@[simp] theorem ty_bytes64 : Tryd.prog.bytesOf 64 = 8 := by kernel_rfl
@[simp] theorem ty_zeroD64 : zeroD Tryd.prog 64 = some [.int .u64 0] := by kernel_rfl
@[simp] theorem ty_zeroV64 : zeroValD Tryd.prog 64 = some (.int .u64 0) := by kernel_rfl
@[simp] theorem ty_cells66 : Tryd.prog.cellsOf 66 = 1 := by kernel_rfl
@[simp] theorem ty_bytes66 : Tryd.prog.bytesOf 66 = 8 := by kernel_rfl
@[simp] theorem ty_zeroD66 : zeroD Tryd.prog 66 = none := by kernel_rfl
@[simp] theorem ty_zeroC66 : zeroC Tryd.prog 66 = some [.undef] := by kernel_rfl
@[simp] theorem ty_zeroO66 : zeroO Tryd.prog 66 = some [.undef] := by kernel_rfl
@[simp] theorem ty_cells67 : Tryd.prog.cellsOf 67 = 1 := by kernel_rfl
@[simp] theorem ty_bytes67 : Tryd.prog.bytesOf 67 = 8 := by kernel_rfl
@[simp] theorem ty_zeroD67 : zeroD Tryd.prog 67 = none := by kernel_rfl
@[simp] theorem ty_zeroC67 : zeroC Tryd.prog 67 = some [.undef] := by kernel_rfl
@[simp] theorem ty_zeroO67 : zeroO Tryd.prog 67 = some [.undef] := by kernel_rfl
@[simp] theorem ty_cells68 : Tryd.prog.cellsOf 68 = 1 := by kernel_rfl
@[simp] theorem ty_bytes68 : Tryd.prog.bytesOf 68 = 8 := by kernel_rfl
@[simp] theorem ty_zeroD68 : zeroD Tryd.prog 68 = none := by kernel_rfl
@[simp] theorem ty_zeroC68 : zeroC Tryd.prog 68 = some [.nilp 68] := by kernel_rfl
@[simp] theorem ty_zeroO68 : zeroO Tryd.prog 68 = some [.undef] := by kernel_rfl
@[simp] theorem ty_cells69 : Tryd.prog.cellsOf 69 = 1 := by kernel_rfl
@[simp] theorem ty_bytes69 : Tryd.prog.bytesOf 69 = 8 := by kernel_rfl
@[simp] theorem ty_zeroD69 : zeroD Tryd.prog 69 = none := by kernel_rfl
@[simp] theorem ty_zeroC69 : zeroC Tryd.prog 69 = some [.undef] := by kernel_rfl
@[simp] theorem ty_zeroO69 : zeroO Tryd.prog 69 = some [.undef] := by kernel_rfl
@[simp] theorem ty_cells70 : Tryd.prog.cellsOf 70 = 1 := by kernel_rfl
@[simp] theorem ty_bytes70 : Tryd.prog.bytesOf 70 = 8 := by kernel_rfl
@[simp] theorem ty_zeroD70 : zeroD Tryd.prog 70 = none := by kernel_rfl
@[simp] theorem ty_zeroC70 : zeroC Tryd.prog 70 = some [.undef] := by kernel_rfl
@[simp] theorem ty_zeroO70 : zeroO Tryd.prog 70 = some [.undef] := by kernel_rfl
@[simp] theorem ty_cells72 : Tryd.prog.cellsOf 72 = 1 := by kernel_rfl
@[simp] theorem ty_bytes72 : Tryd.prog.bytesOf 72 = 8 := by kernel_rfl
@[simp] theorem ty_zeroD72 : zeroD Tryd.prog 72 = none := by kernel_rfl
@[simp] theorem ty_zeroC72 : zeroC Tryd.prog 72 = some [.undef] := by kernel_rfl
@[simp] theorem ty_zeroO72 : zeroO Tryd.prog 72 = some [.undef] := by kernel_rfl
@[simp] theorem ty_cells73 : Tryd.prog.cellsOf 73 = 1 := by kernel_rfl
@[simp] theorem ty_bytes73 : Tryd.prog.bytesOf 73 = 4 := by kernel_rfl
@[simp] theorem ty_zeroD73 : zeroD Tryd.prog 73 = some [.int .u32 0] := by kernel_rfl
@[simp] theorem ty_zeroV73 : zeroValD Tryd.prog 73 = some (.int .u32 0) := by kernel_rfl
@[simp] theorem ty_cells75 : Tryd.prog.cellsOf 75 = 1 := by kernel_rfl
@[simp] theorem ty_bytes75 : Tryd.prog.bytesOf 75 = 8 := by kernel_rfl
@[simp] theorem ty_zeroD75 : zeroD Tryd.prog 75 = none := by kernel_rfl
@[simp] theorem ty_zeroC75 : zeroC Tryd.prog 75 = some [.undef] := by kernel_rfl
@[simp] theorem ty_zeroO75 : zeroO Tryd.prog 75 = some [.undef] := by kernel_rfl
@[simp] theorem ty_cells76 : Tryd.prog.cellsOf 76 = 1 := by kernel_rfl
@[simp] theorem ty_bytes76 : Tryd.prog.bytesOf 76 = 8 := by kernel_rfl
@[simp] theorem ty_zeroD76 : zeroD Tryd.prog 76 = some [.int .u64 0] := by kernel_rfl
@[simp] theorem ty_zeroV76 : zeroValD Tryd.prog 76 = some (.int .u64 0) := by kernel_rfl
@[simp] theorem ty_cells78 : Tryd.prog.cellsOf 78 = 1 := by kernel_rfl
@[simp] theorem ty_bytes78 : Tryd.prog.bytesOf 78 = 8 := by kernel_rfl
@[simp] theorem ty_zeroD78 : zeroD Tryd.prog 78 = none := by kernel_rfl
@[simp] theorem ty_zeroC78 : zeroC Tryd.prog 78 = some [.undef] := by kernel_rfl
@[simp] theorem ty_zeroO78 : zeroO Tryd.prog 78 = some [.undef] := by kernel_rfl
@[simp] theorem ty_cells79 : Tryd.prog.cellsOf 79 = 1 := by kernel_rfl
@[simp] theorem ty_bytes79 : Tryd.prog.bytesOf 79 = 8 := by kernel_rfl
@[simp] theorem ty_zeroD79 : zeroD Tryd.prog 79 = none := by kernel_rfl
@[simp] theorem ty_zeroC79 : zeroC Tryd.prog 79 = some [.undef] := by kernel_rfl
@[simp] theorem ty_zeroO79 : zeroO Tryd.prog 79 = some [.undef] := by kernel_rfl
@[simp] theorem ty_cells80 : Tryd.prog.cellsOf 80 = 256 := by kernel_rfl
@[simp] theorem ty_bytes80 : Tryd.prog.bytesOf 80 = 256 := by kernel_rfl
@[simp] theorem ty_cells81 : Tryd.prog.cellsOf 81 = 256 := by kernel_rfl
@[simp] theorem ty_bytes81 : Tryd.prog.bytesOf 81 = 256 := by kernel_rfl
@[simp] theorem ty_cells83 : Tryd.prog.cellsOf 83 = 1 := by kernel_rfl
@[simp] theorem ty_bytes83 : Tryd.prog.bytesOf 83 = 8 := by kernel_rfl
@[simp] theorem ty_zeroD83 : zeroD Tryd.prog 83 = none := by kernel_rfl
@[simp] theorem ty_zeroC83 : zeroC Tryd.prog 83 = some [.undef] := by kernel_rfl
@[simp] theorem ty_zeroO83 : zeroO Tryd.prog 83 = some [.undef] := by kernel_rfl
@[simp] theorem ty_cells84 : Tryd.prog.cellsOf 84 = 1 := by kernel_rfl
@[simp] theorem ty_bytes84 : Tryd.prog.bytesOf 84 = 8 := by kernel_rfl
@[simp] theorem ty_zeroD84 : zeroD Tryd.prog 84 = none := by kernel_rfl
@[simp] theorem ty_zeroC84 : zeroC Tryd.prog 84 = some [.undef] := by kernel_rfl
@[simp] theorem ty_zeroO84 : zeroO Tryd.prog 84 = some [.undef] := by kernel_rfl
@[simp] theorem ty_cells85 : Tryd.prog.cellsOf 85 = 1 := by kernel_rfl
@[simp] theorem ty_bytes85 : Tryd.prog.bytesOf 85 = 8 := by kernel_rfl
@[simp] theorem ty_zeroD85 : zeroD Tryd.prog 85 = none := by kernel_rfl
@[simp] theorem ty_zeroC85 : zeroC Tryd.prog 85 = some [.nilp 85] := by kernel_rfl
@[simp] theorem ty_zeroO85 : zeroO Tryd.prog 85 = some [.undef] := by kernel_rfl
@[simp] theorem ty_cells86 : Tryd.prog.cellsOf 86 = 1 := by kernel_rfl
@[simp] theorem ty_bytes86 : Tryd.prog.bytesOf 86 = 8 := by kernel_rfl
@[simp] theorem ty_zeroD86 : zeroD Tryd.prog 86 = none := by kernel_rfl
@[simp] theorem ty_zeroC86 : zeroC Tryd.prog 86 = some [.undef] := by kernel_rfl
@[simp] theorem ty_zeroO86 : zeroO Tryd.prog 86 = some [.undef] := by kernel_rfl
@[simp] theorem ty_cells87 : Tryd.prog.cellsOf 87 = 1 := by kernel_rfl
@[simp] theorem ty_bytes87 : Tryd.prog.bytesOf 87 = 8 := by kernel_rfl
@[simp] theorem ty_zeroD87 : zeroD Tryd.prog 87 = none := by kernel_rfl
@[simp] theorem ty_zeroC87 : zeroC Tryd.prog 87 = some [.undef] := by kernel_rfl
@[simp] theorem ty_zeroO87 : zeroO Tryd.prog 87 = some [.undef] := by kernel_rfl
@[simp] theorem ty_cells89 : Tryd.prog.cellsOf 89 = 1 := by kernel_rfl
@[simp] theorem ty_bytes89 : Tryd.prog.bytesOf 89 = 8 := by kernel_rfl
@[simp] theorem ty_zeroD89 : zeroD Tryd.prog 89 = none := by kernel_rfl
@[simp] theorem ty_zeroC89 : zeroC Tryd.prog 89 = some [.undef] := by kernel_rfl
@[simp] theorem ty_zeroO89 : zeroO Tryd.prog 89 = some [.undef] := by kernel_rfl
@[simp] theorem ty_cells90 : Tryd.prog.cellsOf 90 = 1 := by kernel_rfl
@[simp] theorem ty_bytes90 : Tryd.prog.bytesOf 90 = 8 := by kernel_rfl
@[simp] theorem ty_zeroD90 : zeroD Tryd.prog 90 = none := by kernel_rfl
@[simp] theorem ty_zeroC90 : zeroC Tryd.prog 90 = some [.undef] := by kernel_rfl
@[simp] theorem ty_zeroO90 : zeroO Tryd.prog 90 = some [.undef] := by kernel_rfl
@[simp] theorem ty_cells91 : Tryd.prog.cellsOf 91 = 1 := by kernel_rfl
@[simp] theorem ty_bytes91 : Tryd.prog.bytesOf 91 = 8 := by kernel_rfl
@[simp] theorem ty_zeroD91 : zeroD Tryd.prog 91 = none := by kernel_rfl
@[simp] theorem ty_zeroC91 : zeroC Tryd.prog 91 = some [.undef] := by kernel_rfl
@[simp] theorem ty_zeroO91 : zeroO Tryd.prog 91 = some [.undef] := by kernel_rfl
@[simp] theorem ty_cells92 : Tryd.prog.cellsOf 92 = 1 := by kernel_rfl
@[simp] theorem ty_bytes92 : Tryd.prog.bytesOf 92 = 8 := by kernel_rfl
@[simp] theorem ty_zeroD92 : zeroD Tryd.prog 92 = none := by kernel_rfl
@[simp] theorem ty_zeroC92 : zeroC Tryd.prog 92 = some [.undef] := by kernel_rfl
@[simp] theorem ty_zeroO92 : zeroO Tryd.prog 92 = some [.undef] := by kernel_rfl
@[simp] theorem ty_cells93 : Tryd.prog.cellsOf 93 = 256 := by kernel_rfl
@[simp] theorem ty_bytes93 : Tryd.prog.bytesOf 93 = 256 := by kernel_rfl
@[simp] theorem ty_cells94 : Tryd.prog.cellsOf 94 = 2 := by kernel_rfl
@[simp] theorem ty_bytes94 : Tryd.prog.bytesOf 94 = 2 := by kernel_rfl
@[simp] theorem ty_zeroD94 : zeroD Tryd.prog 94 = some [.int .u8 0, .int .u8 0] := by kernel_rfl
@[simp] theorem ty_zeroV94 : zeroValD Tryd.prog 94 = some (.agg [.int .u8 0, .int .u8 0]) := by kernel_rfl
@[simp] theorem ty_isStruct94 : isStruct Tryd.prog 94 = true := by kernel_rfl
@[simp] theorem ty_field94_0 : fieldOf Tryd.prog 94 0 = some (0, 5) := by kernel_rfl
@[simp] theorem ty_field94_1 : fieldOf Tryd.prog 94 1 = some (1, 5) := by kernel_rfl
@[simp] theorem ty_cells95 : Tryd.prog.cellsOf 95 = 2 := by kernel_rfl
@[simp] theorem ty_bytes95 : Tryd.prog.bytesOf 95 = 2 := by kernel_rfl
@[simp] theorem ty_zeroD95 : zeroD Tryd.prog 95 = some [.int .u8 0, .int .u8 0] := by kernel_rfl
@[simp] theorem ty_zeroV95 : zeroValD Tryd.prog 95 = some (.agg [.int .u8 0, .int .u8 0]) := by kernel_rfl
@[simp] theorem ty_isStruct95 : isStruct Tryd.prog 95 = true := by kernel_rfl
@[simp] theorem ty_field95_0 : fieldOf Tryd.prog 95 0 = some (0, 5) := by kernel_rfl
@[simp] theorem ty_field95_1 : fieldOf Tryd.prog 95 1 = some (1, 5) := by kernel_rfl
@[simp] theorem ty_cells96 : Tryd.prog.cellsOf 96 = 32 := by kernel_rfl
@[simp] theorem ty_bytes96 : Tryd.prog.bytesOf 96 = 32 := by kernel_rfl
@[simp] theorem ty_zeroD96 : zeroD Tryd.prog 96 = some [.int .u8 0, .int .u8 0, .int .u8 0, .int .u8 0, .int .u8 0, .int .u8 0, .int .u8 0, .int .u8 0, .int .u8 0, .int .u8 0, .int .u8 0, .int .u8 0, .int .u8 0, .int .u8 0, .int .u8 0, .int .u8 0, .int .u8 0, .int .u8 0, .int .u8 0, .int .u8 0, .int .u8 0, .int .u8 0, .int .u8 0, .int .u8 0, .int .u8 0, .int .u8 0, .int .u8 0, .int .u8 0, .int .u8 0, .int .u8 0, .int .u8 0, .int .u8 0] := by kernel_rfl
@[simp] theorem ty_cells97 : Tryd.prog.cellsOf 97 = 1 := by kernel_rfl
@[simp] theorem ty_bytes97 : Tryd.prog.bytesOf 97 = 8 := by kernel_rfl
@[simp] theorem ty_zeroD97 : zeroD Tryd.prog 97 = none := by kernel_rfl
@[simp] theorem ty_zeroC97 : zeroC Tryd.prog 97 = some [.undef] := by kernel_rfl
@[simp] theorem ty_zeroO97 : zeroO Tryd.prog 97 = some [.undef] := by kernel_rfl
@[simp] theorem ty_cells98 : Tryd.prog.cellsOf 98 = 1 := by kernel_rfl
@[simp] theorem ty_bytes98 : Tryd.prog.bytesOf 98 = 8 := by kernel_rfl
@[simp] theorem ty_zeroD98 : zeroD Tryd.prog 98 = none := by kernel_rfl
@[simp] theorem ty_zeroC98 : zeroC Tryd.prog 98 = some [.undef] := by kernel_rfl
@[simp] theorem ty_zeroO98 : zeroO Tryd.prog 98 = some [.undef] := by kernel_rfl
@[simp] theorem ty_cells99 : Tryd.prog.cellsOf 99 = 1 := by kernel_rfl
@[simp] theorem ty_bytes99 : Tryd.prog.bytesOf 99 = 8 := by kernel_rfl
@[simp] theorem ty_zeroD99 : zeroD Tryd.prog 99 = none := by kernel_rfl
@[simp] theorem ty_zeroC99 : zeroC Tryd.prog 99 = some [.undef] := by kernel_rfl
@[simp] theorem ty_zeroO99 : zeroO Tryd.prog 99 = some [.undef] := by kernel_rfl
@[simp] theorem ty_cells100 : Tryd.prog.cellsOf 100 = 4 := by kernel_rfl
@[simp] theorem ty_bytes100 : Tryd.prog.bytesOf 100 = 40 := by kernel_rfl
@[simp] theorem ty_zeroD100 : zeroD Tryd.prog 100 = none := by kernel_rfl
@[simp] theorem ty_zeroC100 : zeroC Tryd.prog 100 = some [.nilp 100, .nilp 100, .nilp 100, .d (.str [])] := by kernel_rfl
@[simp] theorem ty_zeroO100 : zeroO Tryd.prog 100 = some [.undef, .undef, .undef, .d (.str [])] := by kernel_rfl
@[simp] theorem ty_field100_0 : fieldOf Tryd.prog 100 0 = some (0, 17) := by kernel_rfl
@[simp] theorem ty_field100_1 : fieldOf Tryd.prog 100 1 = some (1, 17) := by kernel_rfl
@[simp] theorem ty_field100_2 : fieldOf Tryd.prog 100 2 = some (2, 17) := by kernel_rfl
@[simp] theorem ty_field100_3 : fieldOf Tryd.prog 100 3 = some (3, 9) := by kernel_rfl
@[simp] theorem ty_cells101 : Tryd.prog.cellsOf 101 = 4 := by kernel_rfl
@[simp] theorem ty_bytes101 : Tryd.prog.bytesOf 101 = 40 := by kernel_rfl
@[simp] theorem ty_zeroD101 : zeroD Tryd.prog 101 = none := by kernel_rfl
@[simp] theorem ty_zeroC101 : zeroC Tryd.prog 101 = some [.nilp 101, .nilp 101, .nilp 101, .d (.str [])] := by kernel_rfl
@[simp] theorem ty_zeroO101 : zeroO Tryd.prog 101 = some [.undef, .undef, .undef, .d (.str [])] := by kernel_rfl
@[simp] theorem ty_field101_0 : fieldOf Tryd.prog 101 0 = some (0, 17) := by kernel_rfl
@[simp] theorem ty_field101_1 : fieldOf Tryd.prog 101 1 = some (1, 17) := by kernel_rfl
@[simp] theorem ty_field101_2 : fieldOf Tryd.prog 101 2 = some (2, 17) := by kernel_rfl
@[simp] theorem ty_field101_3 : fieldOf Tryd.prog 101 3 = some (3, 9) := by kernel_rfl
@[simp] theorem ty_cells102 : Tryd.prog.cellsOf 102 = 0 := by kernel_rfl
@[simp] theorem ty_bytes102 : Tryd.prog.bytesOf 102 = 0 := by kernel_rfl
@[simp] theorem ty_cells103 : Tryd.prog.cellsOf 103 = 0 := by kernel_rfl
@[simp] theorem ty_bytes103 : Tryd.prog.bytesOf 103 = 0 := by kernel_rfl
@[simp] theorem ty_field103_0 : fieldOf Tryd.prog 103 0 = some (0, 102) := by kernel_rfl
@[simp] theorem ty_cells104 : Tryd.prog.cellsOf 104 = 0 := by kernel_rfl
@[simp] theorem ty_bytes104 : Tryd.prog.bytesOf 104 = 0 := by kernel_rfl
@[simp] theorem ty_field104_0 : fieldOf Tryd.prog 104 0 = some (0, 102) := by kernel_rfl
@[simp] theorem ty_cells105 : Tryd.prog.cellsOf 105 = 1 := by kernel_rfl
@[simp] theorem ty_bytes105 : Tryd.prog.bytesOf 105 = 1 := by kernel_rfl
@[simp] theorem ty_zeroD105 : zeroD Tryd.prog 105 = some [.int .u8 0] := by kernel_rfl
@[simp] theorem ty_zeroV105 : zeroValD Tryd.prog 105 = some (.int .u8 0) := by kernel_rfl
@[simp] theorem ty_cells106 : Tryd.prog.cellsOf 106 = 1 := by kernel_rfl
@[simp] theorem ty_bytes106 : Tryd.prog.bytesOf 106 = 1 := by kernel_rfl
@[simp] theorem ty_zeroD106 : zeroD Tryd.prog 106 = some [.int .u8 0] := by kernel_rfl
@[simp] theorem ty_zeroV106 : zeroValD Tryd.prog 106 = some (.int .u8 0) := by kernel_rfl
@[simp] theorem ty_cells107 : Tryd.prog.cellsOf 107 = 1 := by kernel_rfl
@[simp] theorem ty_bytes107 : Tryd.prog.bytesOf 107 = 8 := by kernel_rfl
@[simp] theorem ty_zeroD107 : zeroD Tryd.prog 107 = none := by kernel_rfl
@[simp] theorem ty_zeroC107 : zeroC Tryd.prog 107 = some [.undef] := by kernel_rfl
@[simp] theorem ty_zeroO107 : zeroO Tryd.prog 107 = some [.undef] := by kernel_rfl
@[simp] theorem ty_cells108 : Tryd.prog.cellsOf 108 = 1 := by kernel_rfl
@[simp] theorem ty_bytes108 : Tryd.prog.bytesOf 108 = 4 := by kernel_rfl
@[simp] theorem ty_zeroD108 : zeroD Tryd.prog 108 = some [.int .i32 0] := by kernel_rfl
@[simp] theorem ty_zeroV108 : zeroValD Tryd.prog 108 = some (.int .i32 0) := by kernel_rfl
@[simp] theorem ty_cells109 : Tryd.prog.cellsOf 109 = 1 := by kernel_rfl
@[simp] theorem ty_bytes109 : Tryd.prog.bytesOf 109 = 4 := by kernel_rfl
@[simp] theorem ty_zeroD109 : zeroD Tryd.prog 109 = some [.int .i32 0] := by kernel_rfl
@[simp] theorem ty_zeroV109 : zeroValD Tryd.prog 109 = some (.int .i32 0) := by kernel_rfl
@[simp] theorem ty_cells110 : Tryd.prog.cellsOf 110 = 11 := by kernel_rfl
@[simp] theorem ty_bytes110 : Tryd.prog.bytesOf 110 = 48 := by kernel_rfl
@[simp] theorem ty_zeroD110 : zeroD Tryd.prog 110 = none := by kernel_rfl
@[simp] theorem ty_zeroC110 : zeroC Tryd.prog 110 = some [.d (.int .u64 0), .d (.int .u64 0), .d (.int .u32 0), .d (.int .u8 0), .d (.int .u8 0), .d (.int .u8 0), .d (.int .u8 0), .undef, .nilp 110, .d (.int .i32 0), .d (.int .i32 0)] := by kernel_rfl
@[simp] theorem ty_zeroO110 : zeroO Tryd.prog 110 = some [.d (.int .u64 0), .d (.int .u64 0), .d (.int .u32 0), .d (.int .u8 0), .d (.int .u8 0), .d (.int .u8 0), .d (.int .u8 0), .undef, .undef, .d (.int .i32 0), .d (.int .i32 0)] := by kernel_rfl
@[simp] theorem ty_field110_0 : fieldOf Tryd.prog 110 0 = some (0, 12) := by kernel_rfl
@[simp] theorem ty_field110_1 : fieldOf Tryd.prog 110 1 = some (1, 12) := by kernel_rfl
@[simp] theorem ty_field110_2 : fieldOf Tryd.prog 110 2 = some (2, 73) := by kernel_rfl
@[simp] theorem ty_field110_3 : fieldOf Tryd.prog 110 3 = some (3, 105) := by kernel_rfl
@[simp] theorem ty_field110_4 : fieldOf Tryd.prog 110 4 = some (4, 5) := by kernel_rfl
@[simp] theorem ty_field110_5 : fieldOf Tryd.prog 110 5 = some (5, 5) := by kernel_rfl
@[simp] theorem ty_field110_6 : fieldOf Tryd.prog 110 6 = some (6, 106) := by kernel_rfl
@[simp] theorem ty_field110_7 : fieldOf Tryd.prog 110 7 = some (7, 107) := by kernel_rfl
@[simp] theorem ty_field110_8 : fieldOf Tryd.prog 110 8 = some (8, 68) := by kernel_rfl
@[simp] theorem ty_field110_9 : fieldOf Tryd.prog 110 9 = some (9, 108) := by kernel_rfl
@[simp] theorem ty_field110_10 : fieldOf Tryd.prog 110 10 = some (10, 109) := by kernel_rfl
@[simp] theorem ty_cells111 : Tryd.prog.cellsOf 111 = 11 := by kernel_rfl
@[simp] theorem ty_bytes111 : Tryd.prog.bytesOf 111 = 48 := by kernel_rfl
@[simp] theorem ty_zeroD111 : zeroD Tryd.prog 111 = none := by kernel_rfl
@[simp] theorem ty_zeroC111 : zeroC Tryd.prog 111 = some [.d (.int .u64 0), .d (.int .u64 0), .d (.int .u32 0), .d (.int .u8 0), .d (.int .u8 0), .d (.int .u8 0), .d (.int .u8 0), .undef, .nilp 111, .d (.int .i32 0), .d (.int .i32 0)] := by kernel_rfl
@[simp] theorem ty_zeroO111 : zeroO Tryd.prog 111 = some [.d (.int .u64 0), .d (.int .u64 0), .d (.int .u32 0), .d (.int .u8 0), .d (.int .u8 0), .d (.int .u8 0), .d (.int .u8 0), .undef, .undef, .d (.int .i32 0), .d (.int .i32 0)] := by kernel_rfl
@[simp] theorem ty_field111_0 : fieldOf Tryd.prog 111 0 = some (0, 12) := by kernel_rfl
@[simp] theorem ty_field111_1 : fieldOf Tryd.prog 111 1 = some (1, 12) := by kernel_rfl
@[simp] theorem ty_field111_2 : fieldOf Tryd.prog 111 2 = some (2, 73) := by kernel_rfl
@[simp] theorem ty_field111_3 : fieldOf Tryd.prog 111 3 = some (3, 105) := by kernel_rfl
@[simp] theorem ty_field111_4 : fieldOf Tryd.prog 111 4 = some (4, 5) := by kernel_rfl
@[simp] theorem ty_field111_5 : fieldOf Tryd.prog 111 5 = some (5, 5) := by kernel_rfl
@[simp] theorem ty_field111_6 : fieldOf Tryd.prog 111 6 = some (6, 106) := by kernel_rfl
@[simp] theorem ty_field111_7 : fieldOf Tryd.prog 111 7 = some (7, 107) := by kernel_rfl
@[simp] theorem ty_field111_8 : fieldOf Tryd.prog 111 8 = some (8, 68) := by kernel_rfl
@[simp] theorem ty_field111_9 : fieldOf Tryd.prog 111 9 = some (9, 108) := by kernel_rfl
@[simp] theorem ty_field111_10 : fieldOf Tryd.prog 111 10 = some (10, 109) := by kernel_rfl
@[simp] theorem ty_elemOk5 : elemOk Tryd.prog 5 = true := by kernel_rfl
@[simp] theorem ty_elemOk9 : elemOk Tryd.prog 9 = true := by kernel_rfl
@[simp] theorem ty_elemOk33 : elemOk Tryd.prog 33 = true := by kernel_rfl
end Go.Proofs.YtoiokobokencdaaDoor
