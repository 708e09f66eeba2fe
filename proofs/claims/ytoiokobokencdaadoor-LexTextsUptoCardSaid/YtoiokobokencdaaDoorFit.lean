/- What fits the plain types of this translation, one fact each. By a program of ours. No condition. -/
import Derived.Test.YtoiokobokencdaaDoorZ3
import Derived.Test.YtoiokobokencdaaDoorTy
set_option linter.unusedVariables false
set_option linter.unusedSimpArgs false
namespace Go.Proofs.YtoiokobokencdaaDoor
open Go Go.VM
/-- The types of plain data that come in. -/
def TL : List TypeId := [3, 5, 9, 23, 31, 33, 61, 93, 95, 96]
theorem hplain : plainOk Tryd.prog TL = true := by kernel_rfl
theorem hlo : laidOutB Tryd.prog = true := by kernel_rfl
theorem hmr : mapsRowed Tryd.prog = true := by kernel_rfl
theorem hsf : ((List.range Tryd.prog.types.size).all fun t => match Tryd.prog.underlying t with | some (.slice e) => decide (0 < Tryd.prog.cellsOf e) | _ => true) = true := by kernel_rfl
theorem hown : ownKnob Tryd.prog.godebug = none := by kernel_rfl
theorem tu3 : Tryd.prog.underlying 3 = some (.int .i64) := by kernel_rfl
theorem tu5 : Tryd.prog.underlying 5 = some (.int .u8) := by kernel_rfl
theorem tu9 : Tryd.prog.underlying 9 = some .string := by kernel_rfl
theorem tu31 : Tryd.prog.underlying 31 = some (.int .i64) := by kernel_rfl
theorem inv33 {ds : List D} (h : FitsT Tryd.prog 33 ds) : ∃ x0 x1 x2 x3, ds = [x0, x1, x2, x3] ∧ FitsT Tryd.prog 31 [x0] ∧ FitsT Tryd.prog 9 [x1] ∧ FitsT Tryd.prog 3 [x2] ∧ FitsT Tryd.prog 3 [x3] := by
  have hl := fits_len ty_field33_0 h
  rw [ty_cells33] at hl
  rcases ds with _ | ⟨x0, ds⟩
  · simp at hl
  rcases ds with _ | ⟨x1, ds⟩
  · simp at hl
  rcases ds with _ | ⟨x2, ds⟩
  · simp at hl
  rcases ds with _ | ⟨x3, ds⟩
  · simp at hl
  rcases ds with _ | ⟨y, ds⟩
  rotate_left
  · simp at hl
  exact ⟨_, _, _, _, rfl, by simpa using fits_field ty_field33_0 h, by simpa using fits_field ty_field33_1 h, by simpa using fits_field ty_field33_2 h, by simpa using fits_field ty_field33_3 h⟩
theorem inv95 {ds : List D} (h : FitsT Tryd.prog 95 ds) : ∃ x0 x1, ds = [x0, x1] ∧ FitsT Tryd.prog 5 [x0] ∧ FitsT Tryd.prog 5 [x1] := by
  have hl := fits_len ty_field95_0 h
  rw [ty_cells95] at hl
  rcases ds with _ | ⟨x0, ds⟩
  · simp at hl
  rcases ds with _ | ⟨x1, ds⟩
  · simp at hl
  rcases ds with _ | ⟨y, ds⟩
  rotate_left
  · simp at hl
  exact ⟨_, _, rfl, by simpa using fits_field ty_field95_0 h, by simpa using fits_field ty_field95_1 h⟩
end Go.Proofs.YtoiokobokencdaaDoor
