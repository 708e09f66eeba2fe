/- The seat's own facts: what its statements share. No condition. -/
import Derived.Test.YtbacejmdgfalpaaDoorKu
import Derived.Test.YtbacejmdgfalpaaDoorRows
import Derived.Test.YtbacejmdgfalpaaDoorCards
import Derived.Test.YtbacejmdgfalpaaDoorTie
import Derived.Test.YtbacejmdgfalpaaDoorFit
import Derived.WalkKit
import Derived.ProofKit
import Derived.OpenShut
import Derived.Deep.DeepHandedRow
import Derived.Deep.DeepWitnessRowRef
import Derived.Lib.LaidTab
namespace Go.Proofs.YtbacejmdgfalpaaDoor
open Go Go.VM Go.ChangeShapes Go.WideShapes Go.ChangeAt Go.RowKit
set_option maxRecDepth 100000
set_option linter.unusedVariables false
set_option linter.unusedSimpArgs false
theorem laid_at0 : G0 0 = some (flat (Rows.laid_liquidcheck_names_keywords (H := Unit))) := by kernel_rfl
theorem named0 : Tryd.prog.globalNamed "liquidcheck/names.keywords" = some 0 := by kernel_rfl
theorem typed0 : (Tryd.prog.globals[0]?).map (·.type) = some 121 := by kernel_rfl
theorem glob_classesChecks {W : World} (hL : laidMetH Tryd.prog Rows.classesChecksRow.laid W) : Glob G0 (From W.heap.size) (RW W) W := by
  intro g cs hg
  by_cases he0 : g = 0
  · subst he0
    have hr := laid_run (L := TL) hlo hplain rfl hL (n := "liquidcheck/names.keywords") (d := Rows.laid_liquidcheck_names_keywords) (by simp [Rows.classesChecksRow]) named0 typed0 (by decide)
    have e := laid_at0
    rw [hg] at e
    cases e
    exact ⟨hr.1, fun h => Nat.not_lt.2 h hr.2.1, hr.2.2⟩
  simp [G0, he0] at hg
theorem glob_classesMethods {W : World} (hL : laidMetH Tryd.prog Rows.classesMethodsRow.laid W) : Glob G0 (From W.heap.size) (RW W) W := by
  intro g cs hg
  by_cases he0 : g = 0
  · subst he0
    have hr := laid_run (L := TL) hlo hplain rfl hL (n := "liquidcheck/names.keywords") (d := Rows.laid_liquidcheck_names_keywords) (by simp [Rows.classesMethodsRow]) named0 typed0 (by decide)
    have e := laid_at0
    rw [hg] at e
    cases e
    exact ⟨hr.1, fun h => Nat.not_lt.2 h hr.2.1, hr.2.2⟩
  simp [G0, he0] at hg
theorem glob_classesOrder {W : World} (hL : laidMetH Tryd.prog Rows.classesOrderRow.laid W) : Glob G0 (From W.heap.size) (RW W) W := by
  intro g cs hg
  by_cases he0 : g = 0
  · subst he0
    have hr := laid_run (L := TL) hlo hplain rfl hL (n := "liquidcheck/names.keywords") (d := Rows.laid_liquidcheck_names_keywords) (by simp [Rows.classesOrderRow]) named0 typed0 (by decide)
    have e := laid_at0
    rw [hg] at e
    cases e
    exact ⟨hr.1, fun h => Nat.not_lt.2 h hr.2.1, hr.2.2⟩
  simp [G0, he0] at hg
/-- A world for the witness: the settled one, the listed variables holding what their initialisers lay. -/
def dvV : D → Value
  | .int k n => .int k n
  | .bool b => .bool b
  | .str s => .string ⟨s.toArray⟩
  | _ => .slice none 0 0
noncomputable def laidWorld (os : Os) : World :=
  { World.holding Tryd.prog os ⟨#[], #[], []⟩ with heap := ((World.holding Tryd.prog os ⟨#[], #[], []⟩).heap.modify 0 (fun
      | .cells _ t frozen => .cells #[.string ⟨#[97, 110, 100]⟩, .string ⟨#[97, 115, 115, 117, 109, 101]⟩, .string ⟨#[98, 111, 111, 108]⟩, .string ⟨#[98, 111, 117, 110, 100]⟩, .string ⟨#[99, 97, 115, 101]⟩, .string ⟨#[99, 101, 108, 108]⟩, .string ⟨#[99, 108, 97, 115, 115]⟩, .string ⟨#[100, 97, 116, 97]⟩, .string ⟨#[100, 101, 102]⟩, .string ⟨#[100, 105, 118]⟩, .string ⟨#[101, 108, 115, 101]⟩, .string ⟨#[101, 110, 100]⟩, .string ⟨#[102, 97, 108, 115, 101]⟩, .string ⟨#[102, 111, 114, 97, 108, 108]⟩, .string ⟨#[102, 117, 110]⟩, .string ⟨#[103, 101, 116]⟩, .string ⟨#[105, 102]⟩, .string ⟨#[105, 110]⟩, .string ⟨#[105, 110, 115, 116]⟩, .string ⟨#[105, 110, 116]⟩, .string ⟨#[105, 110, 118, 97, 114, 105, 97, 110, 116]⟩, .string ⟨#[108, 101, 116]⟩, .string ⟨#[109, 97, 116, 99, 104]⟩, .string ⟨#[109, 101, 97, 115, 117, 114, 101]⟩, .string ⟨#[109, 101, 116, 114, 105, 99]⟩, .string ⟨#[109, 111, 100]⟩, .string ⟨#[109, 117]⟩, .string ⟨#[110, 101, 119]⟩, .string ⟨#[110, 111, 116]⟩, .string ⟨#[111, 102]⟩, .string ⟨#[111, 114]⟩, .string ⟨#[113, 117, 97, 108]⟩, .string ⟨#[114, 101, 102, 108, 101, 99, 116]⟩, .string ⟨#[115, 101, 116]⟩, .string ⟨#[116, 104, 101, 110]⟩, .string ⟨#[116, 114, 117, 101]⟩, .string ⟨#[117, 115, 101]⟩, .string ⟨#[118]⟩, .string ⟨#[118, 97, 108]⟩, .string ⟨#[116, 97, 103]⟩, .string ⟨#[119, 104, 101, 114, 101]⟩, .string ⟨#[119, 105, 116, 104]⟩] t frozen
      | o => o)) }
end Go.Proofs.YtbacejmdgfalpaaDoor
