/- The seat's own facts: what its statements share. No condition. -/
import Derived.Test.YtcmpodbjhoeblaaDoorWh
import Derived.Test.YtcmpodbjhoeblaaDoorRows
import Derived.Test.YtcmpodbjhoeblaaDoorCards
import Derived.Test.YtcmpodbjhoeblaaDoorTie
import Derived.Test.YtcmpodbjhoeblaaDoorFit
import Derived.WalkKit
import Derived.ProofKit
import Derived.OpenShut
import Derived.Deep.DeepHandedRow
import Derived.Deep.DeepWitnessRowRef
import Derived.Lib.LaidTab
namespace Go.Proofs.YtcmpodbjhoeblaaDoor
open Go Go.VM Go.ChangeShapes Go.WideShapes Go.ChangeAt Go.RowKit
set_option maxRecDepth 100000
set_option linter.unusedVariables false
set_option linter.unusedSimpArgs false
theorem laid_at1 : G0 1 = some (flat (Rows.laid_internal_strconv_uint64pow10 (H := Unit))) := by kernel_rfl
theorem named1 : Tryd.prog.globalNamed "internal/strconv.uint64pow10" = some 1 := by kernel_rfl
theorem typed1 : (Tryd.prog.globals[1]?).map (·.type) = some 93 := by kernel_rfl
theorem laid_at0 : G0 0 = some (flat (Rows.laid_liquidcheck_names_keywords (H := Unit))) := by kernel_rfl
theorem named0 : Tryd.prog.globalNamed "liquidcheck/names.keywords" = some 0 := by kernel_rfl
theorem typed0 : (Tryd.prog.globals[0]?).map (·.type) = some 90 := by kernel_rfl
theorem glob_typesUnifies {W : World} (hL : laidMetH Tryd.prog Rows.typesUnifiesRow.laid W) : Glob G0 (From W.heap.size) (RW W) W := by
  intro g cs hg
  by_cases he1 : g = 1
  · subst he1
    have hr := laid_run (L := TL) hlo hplain rfl hL (n := "internal/strconv.uint64pow10") (d := Rows.laid_internal_strconv_uint64pow10) (by simp [Rows.typesUnifiesRow]) named1 typed1 (by decide)
    have e := laid_at1
    rw [hg] at e
    cases e
    exact ⟨hr.1, fun h => Nat.not_lt.2 h hr.2.1, hr.2.2⟩
  by_cases he0 : g = 0
  · subst he0
    have hr := laid_run (L := TL) hlo hplain rfl hL (n := "liquidcheck/names.keywords") (d := Rows.laid_liquidcheck_names_keywords) (by simp [Rows.typesUnifiesRow]) named0 typed0 (by decide)
    have e := laid_at0
    rw [hg] at e
    cases e
    exact ⟨hr.1, fun h => Nat.not_lt.2 h hr.2.1, hr.2.2⟩
  simp [G0, he1, he0] at hg
/-- A world for the witness: the settled one, the listed variables holding what their initialisers lay. -/
def dvV : D → Value
  | .int k n => .int k n
  | .bool b => .bool b
  | .str s => .string ⟨s.toArray⟩
  | _ => .slice none 0 0
noncomputable def laidWorld (os : Os) : World :=
  { World.holding Tryd.prog os ⟨#[], #[], []⟩ with heap := (((((World.holding Tryd.prog os ⟨#[], #[], []⟩).heap.modify 2 (fun
      | .cells _ t frozen => .cells #[.int .u8 0, .int .u8 1, .int .u8 28, .int .u8 2, .int .u8 29, .int .u8 14, .int .u8 24, .int .u8 3, .int .u8 30, .int .u8 22, .int .u8 20, .int .u8 15, .int .u8 25, .int .u8 17, .int .u8 4, .int .u8 8, .int .u8 31, .int .u8 27, .int .u8 13, .int .u8 23, .int .u8 21, .int .u8 19, .int .u8 16, .int .u8 7, .int .u8 26, .int .u8 12, .int .u8 18, .int .u8 6, .int .u8 11, .int .u8 5, .int .u8 10, .int .u8 9] t frozen
      | o => o)).modify 3 (fun
      | .cells _ t frozen => .cells #[.int .u8 0, .int .u8 1, .int .u8 56, .int .u8 2, .int .u8 57, .int .u8 49, .int .u8 28, .int .u8 3, .int .u8 61, .int .u8 58, .int .u8 42, .int .u8 50, .int .u8 38, .int .u8 29, .int .u8 17, .int .u8 4, .int .u8 62, .int .u8 47, .int .u8 59, .int .u8 36, .int .u8 45, .int .u8 43, .int .u8 51, .int .u8 22, .int .u8 53, .int .u8 39, .int .u8 33, .int .u8 30, .int .u8 24, .int .u8 18, .int .u8 12, .int .u8 5, .int .u8 63, .int .u8 55, .int .u8 48, .int .u8 27, .int .u8 60, .int .u8 41, .int .u8 37, .int .u8 16, .int .u8 46, .int .u8 35, .int .u8 44, .int .u8 21, .int .u8 52, .int .u8 32, .int .u8 23, .int .u8 11, .int .u8 54, .int .u8 26, .int .u8 40, .int .u8 15, .int .u8 34, .int .u8 20, .int .u8 31, .int .u8 10, .int .u8 25, .int .u8 14, .int .u8 19, .int .u8 9, .int .u8 13, .int .u8 8, .int .u8 7, .int .u8 6] t frozen
      | o => o)).modify 1 (fun
      | .cells _ t frozen => .cells #[.int .u64 1, .int .u64 10, .int .u64 100, .int .u64 1000, .int .u64 10000, .int .u64 100000, .int .u64 1000000, .int .u64 10000000, .int .u64 100000000, .int .u64 1000000000, .int .u64 10000000000, .int .u64 100000000000, .int .u64 1000000000000, .int .u64 10000000000000, .int .u64 100000000000000, .int .u64 1000000000000000, .int .u64 10000000000000000, .int .u64 100000000000000000, .int .u64 1000000000000000000, .int .u64 10000000000000000000] t frozen
      | o => o)).modify 0 (fun
      | .cells _ t frozen => .cells #[.string ⟨#[97, 110, 100]⟩, .string ⟨#[97, 115, 115, 117, 109, 101]⟩, .string ⟨#[98, 111, 111, 108]⟩, .string ⟨#[98, 111, 117, 110, 100]⟩, .string ⟨#[99, 97, 115, 101]⟩, .string ⟨#[99, 101, 108, 108]⟩, .string ⟨#[99, 108, 97, 115, 115]⟩, .string ⟨#[100, 97, 116, 97]⟩, .string ⟨#[100, 101, 102]⟩, .string ⟨#[100, 105, 118]⟩, .string ⟨#[101, 108, 115, 101]⟩, .string ⟨#[101, 110, 100]⟩, .string ⟨#[102, 97, 108, 115, 101]⟩, .string ⟨#[102, 111, 114, 97, 108, 108]⟩, .string ⟨#[102, 117, 110]⟩, .string ⟨#[103, 101, 116]⟩, .string ⟨#[105, 102]⟩, .string ⟨#[105, 110]⟩, .string ⟨#[105, 110, 115, 116]⟩, .string ⟨#[105, 110, 116]⟩, .string ⟨#[105, 110, 118, 97, 114, 105, 97, 110, 116]⟩, .string ⟨#[108, 101, 116]⟩, .string ⟨#[109, 97, 116, 99, 104]⟩, .string ⟨#[109, 101, 97, 115, 117, 114, 101]⟩, .string ⟨#[109, 101, 116, 114, 105, 99]⟩, .string ⟨#[109, 111, 100]⟩, .string ⟨#[109, 117]⟩, .string ⟨#[110, 101, 119]⟩, .string ⟨#[110, 111, 116]⟩, .string ⟨#[111, 102]⟩, .string ⟨#[111, 114]⟩, .string ⟨#[113, 117, 97, 108]⟩, .string ⟨#[114, 101, 102, 108, 101, 99, 116]⟩, .string ⟨#[115, 101, 116]⟩, .string ⟨#[116, 104, 101, 110]⟩, .string ⟨#[116, 114, 117, 101]⟩, .string ⟨#[117, 115, 101]⟩, .string ⟨#[118]⟩, .string ⟨#[118, 97, 108]⟩, .string ⟨#[116, 97, 103]⟩, .string ⟨#[119, 104, 101, 114, 101]⟩, .string ⟨#[119, 105, 116, 104]⟩] t frozen
      | o => o)) }
end Go.Proofs.YtcmpodbjhoeblaaDoor
