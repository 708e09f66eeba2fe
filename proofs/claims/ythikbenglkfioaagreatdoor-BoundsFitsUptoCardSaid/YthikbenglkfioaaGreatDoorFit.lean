/- What fits the plain types of this translation, one fact each. By a program of ours. No condition. -/
import Derived.Test.YthikbenglkfioaaGreatDoorZ3
import Derived.Test.YthikbenglkfioaaGreatDoorTy
set_option linter.unusedVariables false
set_option linter.unusedSimpArgs false
namespace Go.Proofs.YthikbenglkfioaaGreatDoor
open Go Go.VM
/-- The types of plain data that come in. -/
def TL : List TypeId := [3, 9, 22, 23, 24, 26, 27, 28, 30, 32, 39, 40, 43, 45, 51, 52, 54, 79, 81, 122, 167]
theorem hplain : plainOk Tryz.prog TL = true := by kernel_rfl
theorem hlo : laidOutB Tryz.prog = true := by kernel_rfl
theorem hmr : mapsRowed Tryz.prog = true := by kernel_rfl
theorem hsf : ((List.range Tryz.prog.types.size).all fun t => match Tryz.prog.underlying t with | some (.slice e) => decide (0 < Tryz.prog.cellsOf e) | _ => true) = true := by kernel_rfl
theorem hown : ownKnob Tryz.prog.godebug = none := by kernel_rfl
theorem tu3 : Tryz.prog.underlying 3 = some (.int .i64) := by kernel_rfl
theorem tu9 : Tryz.prog.underlying 9 = some .string := by kernel_rfl
theorem tu27 : Tryz.prog.underlying 27 = some (.int .i64) := by kernel_rfl
theorem tu39 : Tryz.prog.underlying 39 = some (.int .i8) := by kernel_rfl
theorem tu43 : Tryz.prog.underlying 43 = some .string := by kernel_rfl
theorem tu51 : Tryz.prog.underlying 51 = some (.int .i64) := by kernel_rfl
theorem inv26 {ds : List D} (h : FitsT Tryz.prog 26 ds) : ∃ x0 x1 x2, ds = [x0, x1, x2] ∧ FitsT Tryz.prog 22 [x0] ∧ FitsT Tryz.prog 23 [x1] ∧ FitsT Tryz.prog 24 [x2] := by
  have hl := fits_len ty_field26_0 h
  rw [ty_cells26] at hl
  rcases ds with _ | ⟨x0, ds⟩
  · simp at hl
  rcases ds with _ | ⟨x1, ds⟩
  · simp at hl
  rcases ds with _ | ⟨x2, ds⟩
  · simp at hl
  rcases ds with _ | ⟨y, ds⟩
  rotate_left
  · simp at hl
  exact ⟨_, _, _, rfl, by simpa using fits_field ty_field26_0 h, by simpa using fits_field ty_field26_1 h, by simpa using fits_field ty_field26_2 h⟩
theorem inv30 {ds : List D} (h : FitsT Tryz.prog 30 ds) : ∃ x0 x1 x2 x3, ds = [x0, x1, x2, x3] ∧ FitsT Tryz.prog 27 [x0] ∧ FitsT Tryz.prog 9 [x1] ∧ FitsT Tryz.prog 3 [x2] ∧ FitsT Tryz.prog 28 [x3] := by
  have hl := fits_len ty_field30_0 h
  rw [ty_cells30] at hl
  rcases ds with _ | ⟨x0, ds⟩
  · simp at hl
  rcases ds with _ | ⟨x1, ds⟩
  · simp at hl
  rcases ds with _ | ⟨x2, ds⟩
  · simp at hl
  rcases ds with _ | ⟨x3, ds⟩
  · simp at hl
  rcases ds with _ | ⟨y, ds⟩
  rotate_left
  · simp at hl
  exact ⟨_, _, _, _, rfl, by simpa using fits_field ty_field30_0 h, by simpa using fits_field ty_field30_1 h, by simpa using fits_field ty_field30_2 h, by simpa using fits_field ty_field30_3 h⟩
theorem inv32 {ds : List D} (h : FitsT Tryz.prog 32 ds) : ∃ x0 x1 x2 x3 x4 x5 x6 x7 x8 x9, ds = [x0, x1, x2, x3, x4, x5, x6, x7, x8, x9] ∧ FitsT Tryz.prog 9 [x0] ∧ FitsT Tryz.prog 22 [x1] ∧ FitsT Tryz.prog 30 [x2, x3, x4, x5] ∧ FitsT Tryz.prog 30 [x6, x7, x8, x9] := by
  have hl := fits_len ty_field32_0 h
  rw [ty_cells32] at hl
  rcases ds with _ | ⟨x0, ds⟩
  · simp at hl
  rcases ds with _ | ⟨x1, ds⟩
  · simp at hl
  rcases ds with _ | ⟨x2, ds⟩
  · simp at hl
  rcases ds with _ | ⟨x3, ds⟩
  · simp at hl
  rcases ds with _ | ⟨x4, ds⟩
  · simp at hl
  rcases ds with _ | ⟨x5, ds⟩
  · simp at hl
  rcases ds with _ | ⟨x6, ds⟩
  · simp at hl
  rcases ds with _ | ⟨x7, ds⟩
  · simp at hl
  rcases ds with _ | ⟨x8, ds⟩
  · simp at hl
  rcases ds with _ | ⟨x9, ds⟩
  · simp at hl
  rcases ds with _ | ⟨y, ds⟩
  rotate_left
  · simp at hl
  exact ⟨_, _, _, _, _, _, _, _, _, _, rfl, by simpa using fits_field ty_field32_0 h, by simpa using fits_field ty_field32_1 h, by simpa using fits_field ty_field32_2 h, by simpa using fits_field ty_field32_3 h⟩
theorem inv45 {ds : List D} (h : FitsT Tryz.prog 45 ds) : ∃ x0 x1, ds = [x0, x1] ∧ FitsT Tryz.prog 9 [x0] ∧ FitsT Tryz.prog 43 [x1] := by
  have hl := fits_len ty_field45_0 h
  rw [ty_cells45] at hl
  rcases ds with _ | ⟨x0, ds⟩
  · simp at hl
  rcases ds with _ | ⟨x1, ds⟩
  · simp at hl
  rcases ds with _ | ⟨y, ds⟩
  rotate_left
  · simp at hl
  exact ⟨_, _, rfl, by simpa using fits_field ty_field45_0 h, by simpa using fits_field ty_field45_1 h⟩
theorem inv54 {ds : List D} (h : FitsT Tryz.prog 54 ds) : ∃ x0 x1 x2 x3 x4 x5 x6 x7 x8, ds = [x0, x1, x2, x3, x4, x5, x6, x7, x8] ∧ FitsT Tryz.prog 51 [x0] ∧ FitsT Tryz.prog 9 [x1] ∧ FitsT Tryz.prog 43 [x2] ∧ FitsT Tryz.prog 30 [x3, x4, x5, x6] ∧ FitsT Tryz.prog 3 [x7] ∧ FitsT Tryz.prog 52 [x8] := by
  have hl := fits_len ty_field54_0 h
  rw [ty_cells54] at hl
  rcases ds with _ | ⟨x0, ds⟩
  · simp at hl
  rcases ds with _ | ⟨x1, ds⟩
  · simp at hl
  rcases ds with _ | ⟨x2, ds⟩
  · simp at hl
  rcases ds with _ | ⟨x3, ds⟩
  · simp at hl
  rcases ds with _ | ⟨x4, ds⟩
  · simp at hl
  rcases ds with _ | ⟨x5, ds⟩
  · simp at hl
  rcases ds with _ | ⟨x6, ds⟩
  · simp at hl
  rcases ds with _ | ⟨x7, ds⟩
  · simp at hl
  rcases ds with _ | ⟨x8, ds⟩
  · simp at hl
  rcases ds with _ | ⟨y, ds⟩
  rotate_left
  · simp at hl
  exact ⟨_, _, _, _, _, _, _, _, _, rfl, by simpa using fits_field ty_field54_0 h, by simpa using fits_field ty_field54_1 h, by simpa using fits_field ty_field54_2 h, by simpa using fits_field ty_field54_3 h, by simpa using fits_field ty_field54_4 h, by simpa using fits_field ty_field54_5 h⟩
theorem inv81 {ds : List D} (h : FitsT Tryz.prog 81 ds) : ∃ x0 x1 x2, ds = [x0, x1, x2] ∧ FitsT Tryz.prog 9 [x0] ∧ FitsT Tryz.prog 79 [x1] ∧ FitsT Tryz.prog 43 [x2] := by
  have hl := fits_len ty_field81_0 h
  rw [ty_cells81] at hl
  rcases ds with _ | ⟨x0, ds⟩
  · simp at hl
  rcases ds with _ | ⟨x1, ds⟩
  · simp at hl
  rcases ds with _ | ⟨x2, ds⟩
  · simp at hl
  rcases ds with _ | ⟨y, ds⟩
  rotate_left
  · simp at hl
  exact ⟨_, _, _, rfl, by simpa using fits_field ty_field81_0 h, by simpa using fits_field ty_field81_1 h, by simpa using fits_field ty_field81_2 h⟩
theorem inv122 {ds : List D} (h : FitsT Tryz.prog 122 ds) : ∃ x0 x1, ds = [x0, x1] ∧ FitsT Tryz.prog 9 [x0] ∧ FitsT Tryz.prog 22 [x1] := by
  have hl := fits_len ty_field122_0 h
  rw [ty_cells122] at hl
  rcases ds with _ | ⟨x0, ds⟩
  · simp at hl
  rcases ds with _ | ⟨x1, ds⟩
  · simp at hl
  rcases ds with _ | ⟨y, ds⟩
  rotate_left
  · simp at hl
  exact ⟨_, _, rfl, by simpa using fits_field ty_field122_0 h, by simpa using fits_field ty_field122_1 h⟩
end Go.Proofs.YthikbenglkfioaaGreatDoor
