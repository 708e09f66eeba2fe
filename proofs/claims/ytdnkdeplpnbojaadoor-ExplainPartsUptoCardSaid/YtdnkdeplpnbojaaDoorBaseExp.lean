/- The seat's own facts: what its statements share. No condition. -/
import Derived.Test.YtdnkdeplpnbojaaDoorEb
import Derived.Test.YtdnkdeplpnbojaaDoorRows
import Derived.Test.YtdnkdeplpnbojaaDoorCards
import Derived.Test.YtdnkdeplpnbojaaDoorTie
import Derived.Test.YtdnkdeplpnbojaaDoorFit
import Derived.WalkKit
import Derived.ProofKit
import Derived.OpenShut
import Derived.Deep.DeepHandedRow
import Derived.Lib.LaidTab
namespace Go.Proofs.YtdnkdeplpnbojaaDoor
open Go Go.VM Go.ChangeShapes Go.WideShapes Go.ChangeAt Go.RowKit
set_option maxRecDepth 100000
set_option linter.unusedVariables false
set_option linter.unusedSimpArgs false
theorem laid_at1 : G1 1 = some (flat (Rows.laid_internal_strconv_uint64pow10 (H := Unit))) := by kernel_rfl
theorem named1 : Tryd.prog.globalNamed "internal/strconv.uint64pow10" = some 1 := by kernel_rfl
theorem typed1 : (Tryd.prog.globals[1]?).map (·.type) = some 100 := by kernel_rfl
theorem laid_at0 : G1 0 = some (flat (Rows.laid_liquidcheck_explain_words (H := Unit))) := by kernel_rfl
theorem named0 : Tryd.prog.globalNamed "liquidcheck/explain.words" = some 0 := by kernel_rfl
theorem typed0 : (Tryd.prog.globals[0]?).map (·.type) = some 63 := by kernel_rfl
theorem glob_explainErrors {W : World} (hL : laidMetH Tryd.prog Rows.explainErrorsRow.laid W) : Glob G1 W.heap.size (RW W) W := by
  intro g cs hg
  by_cases he1 : g = 1
  · subst he1
    have hr := laid_run (L := TL) hlo hplain rfl hL (n := "internal/strconv.uint64pow10") (d := Rows.laid_internal_strconv_uint64pow10) (by simp [Rows.explainErrorsRow]) named1 typed1 (by decide)
    have e := laid_at1
    rw [hg] at e
    cases e
    exact hr
  by_cases he0 : g = 0
  · subst he0
    have hr := laid_run (L := TL) hlo hplain rfl hL (n := "liquidcheck/explain.words") (d := Rows.laid_liquidcheck_explain_words) (by simp [Rows.explainErrorsRow]) named0 typed0 (by decide)
    have e := laid_at0
    rw [hg] at e
    cases e
    exact hr
  simp [G1, he1, he0] at hg
theorem glob_explainGoals {W : World} (hL : laidMetH Tryd.prog Rows.explainGoalsRow.laid W) : Glob G1 W.heap.size (RW W) W := by
  intro g cs hg
  by_cases he1 : g = 1
  · subst he1
    have hr := laid_run (L := TL) hlo hplain rfl hL (n := "internal/strconv.uint64pow10") (d := Rows.laid_internal_strconv_uint64pow10) (by simp [Rows.explainGoalsRow]) named1 typed1 (by decide)
    have e := laid_at1
    rw [hg] at e
    cases e
    exact hr
  by_cases he0 : g = 0
  · subst he0
    have hr := laid_run (L := TL) hlo hplain rfl hL (n := "liquidcheck/explain.words") (d := Rows.laid_liquidcheck_explain_words) (by simp [Rows.explainGoalsRow]) named0 typed0 (by decide)
    have e := laid_at0
    rw [hg] at e
    cases e
    exact hr
  simp [G1, he1, he0] at hg
theorem glob_explainFailures {W : World} (hL : laidMetH Tryd.prog Rows.explainFailuresRow.laid W) : Glob G1 W.heap.size (RW W) W := by
  intro g cs hg
  by_cases he1 : g = 1
  · subst he1
    have hr := laid_run (L := TL) hlo hplain rfl hL (n := "internal/strconv.uint64pow10") (d := Rows.laid_internal_strconv_uint64pow10) (by simp [Rows.explainFailuresRow]) named1 typed1 (by decide)
    have e := laid_at1
    rw [hg] at e
    cases e
    exact hr
  by_cases he0 : g = 0
  · subst he0
    have hr := laid_run (L := TL) hlo hplain rfl hL (n := "liquidcheck/explain.words") (d := Rows.laid_liquidcheck_explain_words) (by simp [Rows.explainFailuresRow]) named0 typed0 (by decide)
    have e := laid_at0
    rw [hg] at e
    cases e
    exact hr
  simp [G1, he1, he0] at hg
theorem glob_explainReports {W : World} (hL : laidMetH Tryd.prog Rows.explainReportsRow.laid W) : Glob G1 W.heap.size (RW W) W := by
  intro g cs hg
  by_cases he1 : g = 1
  · subst he1
    have hr := laid_run (L := TL) hlo hplain rfl hL (n := "internal/strconv.uint64pow10") (d := Rows.laid_internal_strconv_uint64pow10) (by simp [Rows.explainReportsRow]) named1 typed1 (by decide)
    have e := laid_at1
    rw [hg] at e
    cases e
    exact hr
  by_cases he0 : g = 0
  · subst he0
    have hr := laid_run (L := TL) hlo hplain rfl hL (n := "liquidcheck/explain.words") (d := Rows.laid_liquidcheck_explain_words) (by simp [Rows.explainReportsRow]) named0 typed0 (by decide)
    have e := laid_at0
    rw [hg] at e
    cases e
    exact hr
  simp [G1, he1, he0] at hg
theorem glob_explainParts {W : World} (hL : laidMetH Tryd.prog Rows.explainPartsRow.laid W) : Glob G1 W.heap.size (RW W) W := by
  intro g cs hg
  by_cases he1 : g = 1
  · subst he1
    have hr := laid_run (L := TL) hlo hplain rfl hL (n := "internal/strconv.uint64pow10") (d := Rows.laid_internal_strconv_uint64pow10) (by simp [Rows.explainPartsRow]) named1 typed1 (by decide)
    have e := laid_at1
    rw [hg] at e
    cases e
    exact hr
  by_cases he0 : g = 0
  · subst he0
    have hr := laid_run (L := TL) hlo hplain rfl hL (n := "liquidcheck/explain.words") (d := Rows.laid_liquidcheck_explain_words) (by simp [Rows.explainPartsRow]) named0 typed0 (by decide)
    have e := laid_at0
    rw [hg] at e
    cases e
    exact hr
  simp [G1, he1, he0] at hg
/-- A world for the witness: the settled one, the listed variables holding what their initialisers lay. -/
noncomputable def laidWorld (os : Os) : World :=
  { World.holding Tryd.prog os ⟨#[], #[], []⟩ with heap := (((((World.holding Tryd.prog os ⟨#[], #[], []⟩).heap.modify 3 (fun
      | .cells _ t frozen => .cells #[.int .u8 0, .int .u8 1, .int .u8 28, .int .u8 2, .int .u8 29, .int .u8 14, .int .u8 24, .int .u8 3, .int .u8 30, .int .u8 22, .int .u8 20, .int .u8 15, .int .u8 25, .int .u8 17, .int .u8 4, .int .u8 8, .int .u8 31, .int .u8 27, .int .u8 13, .int .u8 23, .int .u8 21, .int .u8 19, .int .u8 16, .int .u8 7, .int .u8 26, .int .u8 12, .int .u8 18, .int .u8 6, .int .u8 11, .int .u8 5, .int .u8 10, .int .u8 9] t frozen
      | o => o)).modify 4 (fun
      | .cells _ t frozen => .cells #[.int .u8 0, .int .u8 1, .int .u8 56, .int .u8 2, .int .u8 57, .int .u8 49, .int .u8 28, .int .u8 3, .int .u8 61, .int .u8 58, .int .u8 42, .int .u8 50, .int .u8 38, .int .u8 29, .int .u8 17, .int .u8 4, .int .u8 62, .int .u8 47, .int .u8 59, .int .u8 36, .int .u8 45, .int .u8 43, .int .u8 51, .int .u8 22, .int .u8 53, .int .u8 39, .int .u8 33, .int .u8 30, .int .u8 24, .int .u8 18, .int .u8 12, .int .u8 5, .int .u8 63, .int .u8 55, .int .u8 48, .int .u8 27, .int .u8 60, .int .u8 41, .int .u8 37, .int .u8 16, .int .u8 46, .int .u8 35, .int .u8 44, .int .u8 21, .int .u8 52, .int .u8 32, .int .u8 23, .int .u8 11, .int .u8 54, .int .u8 26, .int .u8 40, .int .u8 15, .int .u8 34, .int .u8 20, .int .u8 31, .int .u8 10, .int .u8 25, .int .u8 14, .int .u8 19, .int .u8 9, .int .u8 13, .int .u8 8, .int .u8 7, .int .u8 6] t frozen
      | o => o)).modify 1 (fun
      | .cells _ t frozen => .cells #[.int .u64 1, .int .u64 10, .int .u64 100, .int .u64 1000, .int .u64 10000, .int .u64 100000, .int .u64 1000000, .int .u64 10000000, .int .u64 100000000, .int .u64 1000000000, .int .u64 10000000000, .int .u64 100000000000, .int .u64 1000000000000, .int .u64 10000000000000, .int .u64 100000000000000, .int .u64 1000000000000000, .int .u64 10000000000000000, .int .u64 100000000000000000, .int .u64 1000000000000000000, .int .u64 10000000000000000000] t frozen
      | o => o)).modify 0 (fun
      | .cells _ t frozen => .cells #[.string ⟨#[110, 111, 32, 101, 114, 114, 111, 114]⟩, .string ⟨#[119, 114, 111, 110, 103, 32, 107, 105, 110, 100, 32, 111, 114, 32, 102, 105, 101, 108, 100]⟩, .string ⟨#[110, 117, 109, 98, 101, 114, 32, 111, 117, 116, 32, 111, 102, 32, 114, 97, 110, 103, 101]⟩, .string ⟨#[119, 114, 111, 110, 103, 32, 110, 97, 109, 101]⟩, .string ⟨#[111, 99, 99, 117, 114, 115, 32, 116, 119, 105, 99, 101]⟩, .string ⟨#[117, 110, 107, 110, 111, 119, 110]⟩, .string ⟨#[119, 114, 111, 110, 103, 32, 102, 111, 114, 109]⟩, .string ⟨#[116, 111, 111, 32, 108, 111, 110, 103]⟩, .string ⟨#[116, 111, 111, 32, 100, 101, 101, 112]⟩, .string ⟨#[119, 114, 111, 110, 103, 32, 111, 114, 100, 101, 114]⟩, .string ⟨#[116, 111, 111, 32, 115, 104, 111, 114, 116]⟩, .string ⟨#[115, 111, 114, 116, 115, 32, 100, 111, 32, 110, 111, 116, 32, 102, 105, 116]⟩, .string ⟨#[116, 121, 112, 101, 115, 32, 100, 111, 32, 110, 111, 116, 32, 102, 105, 116]⟩, .string ⟨#[119, 114, 111, 110, 103, 32, 110, 117, 109, 98, 101, 114, 32, 111, 102, 32, 97, 114, 103, 117, 109, 101, 110, 116, 115]⟩, .string ⟨#[116, 101, 120, 116, 32, 99, 97, 110, 110, 111, 116, 32, 98, 101, 32, 114, 101, 97, 100]⟩, .string ⟨#[99, 101, 108, 108, 32, 117, 115, 101, 100, 32, 116, 119, 105, 99, 101]⟩, .string ⟨#[118, 97, 114, 105, 97, 98, 108, 101, 32, 110, 111, 116, 32, 118, 105, 115, 105, 98, 108, 101]⟩, .string ⟨#[110, 111, 32, 105, 110, 115, 116, 97, 110, 99, 101]⟩, .string ⟨#[102, 117, 108, 108]⟩, .string ⟨#[110, 111, 116, 32, 112, 111, 115, 115, 105, 98, 108, 101, 32, 110, 111, 119]⟩, .string ⟨#[119, 114, 111, 110, 103, 32, 112, 114, 111, 111, 102]⟩, .string ⟨#[110, 111, 116, 32, 112, 114, 111, 118, 101, 100]⟩, .string ⟨#[116, 101, 114, 109, 105, 110, 97, 116, 105, 111, 110, 32, 110, 111, 116, 32, 112, 114, 111, 118, 101, 100]⟩, .string ⟨#[110, 111, 32, 98, 114, 97, 110, 99, 104]⟩, .string ⟨#[111, 117, 116, 32, 111, 102, 32, 115, 116, 101, 112, 115]⟩, .string ⟨#[110, 117, 109, 98, 101, 114, 32, 111, 117, 116, 32, 111, 102, 32, 98, 111, 117, 110, 100, 115]⟩, .string ⟨#[97, 115, 115, 117, 109, 101, 100, 32, 102, 117, 110, 99, 116, 105, 111, 110]⟩, .string ⟨#[100, 105, 118, 105, 115, 105, 111, 110, 32, 98, 121, 32, 122, 101, 114, 111]⟩, .string ⟨#[114, 101, 102, 105, 110, 101, 109, 101, 110, 116, 32, 118, 105, 111, 108, 97, 116, 101, 100]⟩] t frozen
      | o => o)) }
end Go.Proofs.YtdnkdeplpnbojaaDoor
