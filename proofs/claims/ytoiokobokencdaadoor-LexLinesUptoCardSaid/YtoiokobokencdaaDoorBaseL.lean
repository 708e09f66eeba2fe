/- The seat's own facts: what its statements share. No condition. -/
import Derived.Test.YtoiokobokencdaaDoorLk
import Derived.Test.YtoiokobokencdaaDoorRows
import Derived.Test.YtoiokobokencdaaDoorCards
import Derived.Test.YtoiokobokencdaaDoorTie
import Derived.Test.YtoiokobokencdaaDoorFit
import Derived.WalkKit
import Derived.ProofKit
import Derived.OpenShut
import Derived.Deep.DeepHandedRow
import Derived.Deep.DeepWitnessRowRef
import Derived.Lib.LaidTab
namespace Go.Proofs.YtoiokobokencdaaDoor
open Go Go.VM Go.ChangeShapes Go.WideShapes Go.ChangeAt Go.RowKit
set_option maxRecDepth 100000
set_option linter.unusedVariables false
set_option linter.unusedSimpArgs false
theorem laid_at0 : G0 0 = some (flat (Rows.laid_liquidcheck_lex_signs (H := Unit))) := by kernel_rfl
theorem named0 : Tryd.prog.globalNamed "liquidcheck/lex.signs" = some 0 := by kernel_rfl
theorem typed0 : (Tryd.prog.globals[0]?).map (·.type) = some 61 := by kernel_rfl
theorem glob_lexLines {W : World} (hL : laidMetH Tryd.prog Rows.lexLinesRow.laid W) : Glob G0 (From W.heap.size) (RW W) W := by
  intro g cs hg
  by_cases he0 : g = 0
  · subst he0
    have hr := laid_run (L := TL) hlo hplain rfl hL (n := "liquidcheck/lex.signs") (d := Rows.laid_liquidcheck_lex_signs) (by simp [Rows.lexLinesRow]) named0 typed0 (by decide)
    have e := laid_at0
    rw [hg] at e
    cases e
    exact ⟨hr.1, fun h => Nat.not_lt.2 h hr.2.1, hr.2.2⟩
  simp [G0, he0] at hg
theorem glob_lexTexts {W : World} (hL : laidMetH Tryd.prog Rows.lexTextsRow.laid W) : Glob G0 (From W.heap.size) (RW W) W := by
  intro g cs hg
  by_cases he0 : g = 0
  · subst he0
    have hr := laid_run (L := TL) hlo hplain rfl hL (n := "liquidcheck/lex.signs") (d := Rows.laid_liquidcheck_lex_signs) (by simp [Rows.lexTextsRow]) named0 typed0 (by decide)
    have e := laid_at0
    rw [hg] at e
    cases e
    exact ⟨hr.1, fun h => Nat.not_lt.2 h hr.2.1, hr.2.2⟩
  simp [G0, he0] at hg
/-- A world for the witness: the settled one, the listed variables holding what their initialisers lay. -/
def dvV : D → Value
  | .int k n => .int k n
  | .bool b => .bool b
  | .str s => .string ⟨s.toArray⟩
  | _ => .slice none 0 0
def row0 : List (List D) := match (flat (Rows.laid_liquidcheck_lex_signs (H := Unit))) with
  | [.sl es] => es
  | _ => []
noncomputable def laidWorld (os : Os) : World :=
  { World.holding Tryd.prog os ⟨#[], #[], []⟩ with heap := (((((World.holding Tryd.prog os ⟨#[], #[], []⟩).heap.modify 3 (fun
      | .cells _ t frozen => .cells #[.int .u8 128, .int .u8 191, .int .u8 160, .int .u8 191, .int .u8 128, .int .u8 159, .int .u8 144, .int .u8 191, .int .u8 128, .int .u8 143, .int .u8 0, .int .u8 0, .int .u8 0, .int .u8 0, .int .u8 0, .int .u8 0, .int .u8 0, .int .u8 0, .int .u8 0, .int .u8 0, .int .u8 0, .int .u8 0, .int .u8 0, .int .u8 0, .int .u8 0, .int .u8 0, .int .u8 0, .int .u8 0, .int .u8 0, .int .u8 0, .int .u8 0, .int .u8 0] t frozen
      | o => o)).modify 0 (fun
      | .cells _ t frozen => .cells #[.slice (some ⟨(World.holding Tryd.prog os ⟨#[], #[], []⟩).heap.size + 0, 0, none⟩) row0.length row0.length] t frozen
      | o => o)).modify 2 (fun
      | .cells _ t frozen => .cells ((flat (Rows.laid_unicode_utf8_first)).map dvV).toArray t frozen
      | o => o)).push (.cells (row0.flatten.map dvV).toArray 9 (0, 0))) }
end Go.Proofs.YtoiokobokencdaaDoor
