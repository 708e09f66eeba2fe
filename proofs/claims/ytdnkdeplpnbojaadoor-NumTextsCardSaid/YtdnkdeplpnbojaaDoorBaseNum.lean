/- The seat's own facts: what its statements share. No condition. -/
import Derived.Test.YtdnkdeplpnbojaaDoorNg
import Derived.Test.YtdnkdeplpnbojaaDoorRows
import Derived.Test.YtdnkdeplpnbojaaDoorCards
import Derived.Test.YtdnkdeplpnbojaaDoorTie
import Derived.Test.YtdnkdeplpnbojaaDoorFit
import Derived.WalkKit
import Derived.ProofKit
import Derived.OpenShut
import Derived.Deep.DeepHandedRow
import Derived.Lib.LaidTab
namespace Go.Proofs.YtdnkdeplpnbojaaDoor
open Go Go.VM Go.ChangeShapes Go.WideShapes Go.ChangeAt Go.RowKit
set_option maxRecDepth 100000
set_option linter.unusedVariables false
set_option linter.unusedSimpArgs false
theorem laid_at1 : G0 1 = some (flat (Rows.laid_internal_strconv_uint64pow10 (H := Unit))) := by kernel_rfl
theorem named1 : Tryd.prog.globalNamed "internal/strconv.uint64pow10" = some 1 := by kernel_rfl
theorem typed1 : (Tryd.prog.globals[1]?).map (·.type) = some 100 := by kernel_rfl
theorem glob_numDivides {W : World} (hL : laidMetH Tryd.prog Rows.numDividesRow.laid W) : Glob G0 W.heap.size (RW W) W := by
  intro g cs hg
  by_cases he1 : g = 1
  · subst he1
    have hr := laid_run (L := TL) hlo hplain rfl hL (n := "internal/strconv.uint64pow10") (d := Rows.laid_internal_strconv_uint64pow10) (by simp [Rows.numDividesRow]) named1 typed1 (by decide)
    have e := laid_at1
    rw [hg] at e
    cases e
    exact hr
  simp [G0, he1] at hg
theorem glob_numTexts {W : World} (hL : laidMetH Tryd.prog Rows.numTextsRow.laid W) : Glob G0 W.heap.size (RW W) W := by
  intro g cs hg
  by_cases he1 : g = 1
  · subst he1
    have hr := laid_run (L := TL) hlo hplain rfl hL (n := "internal/strconv.uint64pow10") (d := Rows.laid_internal_strconv_uint64pow10) (by simp [Rows.numTextsRow]) named1 typed1 (by decide)
    have e := laid_at1
    rw [hg] at e
    cases e
    exact hr
  simp [G0, he1] at hg
theorem glob_numRests {W : World} (hL : laidMetH Tryd.prog Rows.numRestsRow.laid W) : Glob G0 W.heap.size (RW W) W := by
  intro g cs hg
  by_cases he1 : g = 1
  · subst he1
    have hr := laid_run (L := TL) hlo hplain rfl hL (n := "internal/strconv.uint64pow10") (d := Rows.laid_internal_strconv_uint64pow10) (by simp [Rows.numRestsRow]) named1 typed1 (by decide)
    have e := laid_at1
    rw [hg] at e
    cases e
    exact hr
  simp [G0, he1] at hg
theorem glob_numGcds {W : World} (hL : laidMetH Tryd.prog Rows.numGcdsRow.laid W) : Glob G0 W.heap.size (RW W) W := by
  intro g cs hg
  by_cases he1 : g = 1
  · subst he1
    have hr := laid_run (L := TL) hlo hplain rfl hL (n := "internal/strconv.uint64pow10") (d := Rows.laid_internal_strconv_uint64pow10) (by simp [Rows.numGcdsRow]) named1 typed1 (by decide)
    have e := laid_at1
    rw [hg] at e
    cases e
    exact hr
  simp [G0, he1] at hg
theorem glob_numAdds {W : World} (hL : laidMetH Tryd.prog Rows.numAddsRow.laid W) : Glob G0 W.heap.size (RW W) W := by
  intro g cs hg
  by_cases he1 : g = 1
  · subst he1
    have hr := laid_run (L := TL) hlo hplain rfl hL (n := "internal/strconv.uint64pow10") (d := Rows.laid_internal_strconv_uint64pow10) (by simp [Rows.numAddsRow]) named1 typed1 (by decide)
    have e := laid_at1
    rw [hg] at e
    cases e
    exact hr
  simp [G0, he1] at hg
theorem glob_numUndoes {W : World} (hL : laidMetH Tryd.prog Rows.numUndoesRow.laid W) : Glob G0 W.heap.size (RW W) W := by
  intro g cs hg
  by_cases he1 : g = 1
  · subst he1
    have hr := laid_run (L := TL) hlo hplain rfl hL (n := "internal/strconv.uint64pow10") (d := Rows.laid_internal_strconv_uint64pow10) (by simp [Rows.numUndoesRow]) named1 typed1 (by decide)
    have e := laid_at1
    rw [hg] at e
    cases e
    exact hr
  simp [G0, he1] at hg
/-- A world for the witness: the settled one, the listed variables holding what their initialisers lay. -/
noncomputable def laidWorld (os : Os) : World :=
  { World.holding Tryd.prog os ⟨#[], #[], []⟩ with heap := ((((World.holding Tryd.prog os ⟨#[], #[], []⟩).heap.modify 3 (fun
      | .cells _ t frozen => .cells #[.int .u8 0, .int .u8 1, .int .u8 28, .int .u8 2, .int .u8 29, .int .u8 14, .int .u8 24, .int .u8 3, .int .u8 30, .int .u8 22, .int .u8 20, .int .u8 15, .int .u8 25, .int .u8 17, .int .u8 4, .int .u8 8, .int .u8 31, .int .u8 27, .int .u8 13, .int .u8 23, .int .u8 21, .int .u8 19, .int .u8 16, .int .u8 7, .int .u8 26, .int .u8 12, .int .u8 18, .int .u8 6, .int .u8 11, .int .u8 5, .int .u8 10, .int .u8 9] t frozen
      | o => o)).modify 4 (fun
      | .cells _ t frozen => .cells #[.int .u8 0, .int .u8 1, .int .u8 56, .int .u8 2, .int .u8 57, .int .u8 49, .int .u8 28, .int .u8 3, .int .u8 61, .int .u8 58, .int .u8 42, .int .u8 50, .int .u8 38, .int .u8 29, .int .u8 17, .int .u8 4, .int .u8 62, .int .u8 47, .int .u8 59, .int .u8 36, .int .u8 45, .int .u8 43, .int .u8 51, .int .u8 22, .int .u8 53, .int .u8 39, .int .u8 33, .int .u8 30, .int .u8 24, .int .u8 18, .int .u8 12, .int .u8 5, .int .u8 63, .int .u8 55, .int .u8 48, .int .u8 27, .int .u8 60, .int .u8 41, .int .u8 37, .int .u8 16, .int .u8 46, .int .u8 35, .int .u8 44, .int .u8 21, .int .u8 52, .int .u8 32, .int .u8 23, .int .u8 11, .int .u8 54, .int .u8 26, .int .u8 40, .int .u8 15, .int .u8 34, .int .u8 20, .int .u8 31, .int .u8 10, .int .u8 25, .int .u8 14, .int .u8 19, .int .u8 9, .int .u8 13, .int .u8 8, .int .u8 7, .int .u8 6] t frozen
      | o => o)).modify 1 (fun
      | .cells _ t frozen => .cells #[.int .u64 1, .int .u64 10, .int .u64 100, .int .u64 1000, .int .u64 10000, .int .u64 100000, .int .u64 1000000, .int .u64 10000000, .int .u64 100000000, .int .u64 1000000000, .int .u64 10000000000, .int .u64 100000000000, .int .u64 1000000000000, .int .u64 10000000000000, .int .u64 100000000000000, .int .u64 1000000000000000, .int .u64 10000000000000000, .int .u64 100000000000000000, .int .u64 1000000000000000000, .int .u64 10000000000000000000] t frozen
      | o => o)) }
end Go.Proofs.YtdnkdeplpnbojaaDoor
