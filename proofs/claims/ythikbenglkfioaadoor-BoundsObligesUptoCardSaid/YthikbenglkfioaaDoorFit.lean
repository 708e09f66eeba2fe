/- What fits the plain types of this translation, one fact each. By a program of ours. No condition. -/
import Derived.Test.YthikbenglkfioaaDoorZ3
import Derived.Test.YthikbenglkfioaaDoorTy
set_option linter.unusedVariables false
set_option linter.unusedSimpArgs false
namespace Go.Proofs.YthikbenglkfioaaDoor
open Go Go.VM
/-- The types of plain data that come in. -/
def TL : List TypeId := [3, 9, 22, 23, 24, 25, 26, 27, 28, 29, 31, 33, 35, 36, 38, 40, 43, 44, 45, 46, 48, 65, 67, 79, 151, 165, 203]
theorem hplain : plainOk Tryd.prog TL = true := by kernel_rfl
theorem hlo : laidOutB Tryd.prog = true := by kernel_rfl
theorem hmr : mapsRowed Tryd.prog = true := by kernel_rfl
theorem hsf : ((List.range Tryd.prog.types.size).all fun t => match Tryd.prog.underlying t with | some (.slice e) => decide (0 < Tryd.prog.cellsOf e) | _ => true) = true := by kernel_rfl
theorem hown : ownKnob Tryd.prog.godebug = none := by kernel_rfl
theorem tu3 : Tryd.prog.underlying 3 = some (.int .i64) := by kernel_rfl
theorem tu9 : Tryd.prog.underlying 9 = some .string := by kernel_rfl
theorem tu26 : Tryd.prog.underlying 26 = some (.int .i64) := by kernel_rfl
theorem tu28 : Tryd.prog.underlying 28 = some (.int .i64) := by kernel_rfl
theorem tu44 : Tryd.prog.underlying 44 = some (.int .i64) := by kernel_rfl
theorem tu45 : Tryd.prog.underlying 45 = some .string := by kernel_rfl
theorem inv31 {ds : List D} (h : FitsT Tryd.prog 31 ds) : ∃ x0 x1 x2 x3, ds = [x0, x1, x2, x3] ∧ FitsT Tryd.prog 28 [x0] ∧ FitsT Tryd.prog 9 [x1] ∧ FitsT Tryd.prog 3 [x2] ∧ FitsT Tryd.prog 29 [x3] := by
  have hl := fits_len ty_field31_0 h
  rw [ty_cells31] at hl
  rcases ds with _ | ⟨x0, ds⟩
  · simp at hl
  rcases ds with _ | ⟨x1, ds⟩
  · simp at hl
  rcases ds with _ | ⟨x2, ds⟩
  · simp at hl
  rcases ds with _ | ⟨x3, ds⟩
  · simp at hl
  rcases ds with _ | ⟨y, ds⟩
  rotate_left
  · simp at hl
  exact ⟨_, _, _, _, rfl, by simpa using fits_field ty_field31_0 h, by simpa using fits_field ty_field31_1 h, by simpa using fits_field ty_field31_2 h, by simpa using fits_field ty_field31_3 h⟩
theorem inv33 {ds : List D} (h : FitsT Tryd.prog 33 ds) : ∃ x0 x1 x2 x3 x4 x5 x6 x7 x8, ds = [x0, x1, x2, x3, x4, x5, x6, x7, x8] ∧ FitsT Tryd.prog 26 [x0] ∧ FitsT Tryd.prog 9 [x1] ∧ FitsT Tryd.prog 27 [x2] ∧ FitsT Tryd.prog 22 [x3] ∧ FitsT Tryd.prog 31 [x4, x5, x6, x7] ∧ FitsT Tryd.prog 29 [x8] := by
  have hl := fits_len ty_field33_0 h
  rw [ty_cells33] at hl
  rcases ds with _ | ⟨x0, ds⟩
  · simp at hl
  rcases ds with _ | ⟨x1, ds⟩
  · simp at hl
  rcases ds with _ | ⟨x2, ds⟩
  · simp at hl
  rcases ds with _ | ⟨x3, ds⟩
  · simp at hl
  rcases ds with _ | ⟨x4, ds⟩
  · simp at hl
  rcases ds with _ | ⟨x5, ds⟩
  · simp at hl
  rcases ds with _ | ⟨x6, ds⟩
  · simp at hl
  rcases ds with _ | ⟨x7, ds⟩
  · simp at hl
  rcases ds with _ | ⟨x8, ds⟩
  · simp at hl
  rcases ds with _ | ⟨y, ds⟩
  rotate_left
  · simp at hl
  exact ⟨_, _, _, _, _, _, _, _, _, rfl, by simpa using fits_field ty_field33_0 h, by simpa using fits_field ty_field33_1 h, by simpa using fits_field ty_field33_2 h, by simpa using fits_field ty_field33_3 h, by simpa using fits_field ty_field33_4 h, by simpa using fits_field ty_field33_5 h⟩
theorem inv35 {ds : List D} (h : FitsT Tryd.prog 35 ds) : ∃ x0 x1 x2 x3 x4 x5 x6 x7 x8 x9 x10 x11 x12 x13, ds = [x0, x1, x2, x3, x4, x5, x6, x7, x8, x9, x10, x11, x12, x13] ∧ FitsT Tryd.prog 22 [x0] ∧ FitsT Tryd.prog 23 [x1] ∧ FitsT Tryd.prog 24 [x2] ∧ FitsT Tryd.prog 25 [x3] ∧ FitsT Tryd.prog 33 [x4, x5, x6, x7, x8, x9, x10, x11, x12] ∧ FitsT Tryd.prog 29 [x13] := by
  have hl := fits_len ty_field35_0 h
  rw [ty_cells35] at hl
  rcases ds with _ | ⟨x0, ds⟩
  · simp at hl
  rcases ds with _ | ⟨x1, ds⟩
  · simp at hl
  rcases ds with _ | ⟨x2, ds⟩
  · simp at hl
  rcases ds with _ | ⟨x3, ds⟩
  · simp at hl
  rcases ds with _ | ⟨x4, ds⟩
  · simp at hl
  rcases ds with _ | ⟨x5, ds⟩
  · simp at hl
  rcases ds with _ | ⟨x6, ds⟩
  · simp at hl
  rcases ds with _ | ⟨x7, ds⟩
  · simp at hl
  rcases ds with _ | ⟨x8, ds⟩
  · simp at hl
  rcases ds with _ | ⟨x9, ds⟩
  · simp at hl
  rcases ds with _ | ⟨x10, ds⟩
  · simp at hl
  rcases ds with _ | ⟨x11, ds⟩
  · simp at hl
  rcases ds with _ | ⟨x12, ds⟩
  · simp at hl
  rcases ds with _ | ⟨x13, ds⟩
  · simp at hl
  rcases ds with _ | ⟨y, ds⟩
  rotate_left
  · simp at hl
  exact ⟨_, _, _, _, _, _, _, _, _, _, _, _, _, _, rfl, by simpa using fits_field ty_field35_0 h, by simpa using fits_field ty_field35_1 h, by simpa using fits_field ty_field35_2 h, by simpa using fits_field ty_field35_3 h, by simpa using fits_field ty_field35_4 h, by simpa using fits_field ty_field35_5 h⟩
theorem inv40 {ds : List D} (h : FitsT Tryd.prog 40 ds) : ∃ x0 x1, ds = [x0, x1] ∧ FitsT Tryd.prog 9 [x0] ∧ FitsT Tryd.prog 38 [x1] := by
  have hl := fits_len ty_field40_0 h
  rw [ty_cells40] at hl
  rcases ds with _ | ⟨x0, ds⟩
  · simp at hl
  rcases ds with _ | ⟨x1, ds⟩
  · simp at hl
  rcases ds with _ | ⟨y, ds⟩
  rotate_left
  · simp at hl
  exact ⟨_, _, rfl, by simpa using fits_field ty_field40_0 h, by simpa using fits_field ty_field40_1 h⟩
theorem inv43 {ds : List D} (h : FitsT Tryd.prog 43 ds) : ∃ x0 x1 x2 x3 x4 x5 x6 x7 x8 x9, ds = [x0, x1, x2, x3, x4, x5, x6, x7, x8, x9] ∧ FitsT Tryd.prog 9 [x0] ∧ FitsT Tryd.prog 38 [x1] ∧ FitsT Tryd.prog 31 [x2, x3, x4, x5] ∧ FitsT Tryd.prog 31 [x6, x7, x8, x9] := by
  have hl := fits_len ty_field43_0 h
  rw [ty_cells43] at hl
  rcases ds with _ | ⟨x0, ds⟩
  · simp at hl
  rcases ds with _ | ⟨x1, ds⟩
  · simp at hl
  rcases ds with _ | ⟨x2, ds⟩
  · simp at hl
  rcases ds with _ | ⟨x3, ds⟩
  · simp at hl
  rcases ds with _ | ⟨x4, ds⟩
  · simp at hl
  rcases ds with _ | ⟨x5, ds⟩
  · simp at hl
  rcases ds with _ | ⟨x6, ds⟩
  · simp at hl
  rcases ds with _ | ⟨x7, ds⟩
  · simp at hl
  rcases ds with _ | ⟨x8, ds⟩
  · simp at hl
  rcases ds with _ | ⟨x9, ds⟩
  · simp at hl
  rcases ds with _ | ⟨y, ds⟩
  rotate_left
  · simp at hl
  exact ⟨_, _, _, _, _, _, _, _, _, _, rfl, by simpa using fits_field ty_field43_0 h, by simpa using fits_field ty_field43_1 h, by simpa using fits_field ty_field43_2 h, by simpa using fits_field ty_field43_3 h⟩
theorem inv48 {ds : List D} (h : FitsT Tryd.prog 48 ds) : ∃ x0 x1 x2 x3 x4 x5 x6 x7 x8, ds = [x0, x1, x2, x3, x4, x5, x6, x7, x8] ∧ FitsT Tryd.prog 44 [x0] ∧ FitsT Tryd.prog 9 [x1] ∧ FitsT Tryd.prog 45 [x2] ∧ FitsT Tryd.prog 31 [x3, x4, x5, x6] ∧ FitsT Tryd.prog 3 [x7] ∧ FitsT Tryd.prog 46 [x8] := by
  have hl := fits_len ty_field48_0 h
  rw [ty_cells48] at hl
  rcases ds with _ | ⟨x0, ds⟩
  · simp at hl
  rcases ds with _ | ⟨x1, ds⟩
  · simp at hl
  rcases ds with _ | ⟨x2, ds⟩
  · simp at hl
  rcases ds with _ | ⟨x3, ds⟩
  · simp at hl
  rcases ds with _ | ⟨x4, ds⟩
  · simp at hl
  rcases ds with _ | ⟨x5, ds⟩
  · simp at hl
  rcases ds with _ | ⟨x6, ds⟩
  · simp at hl
  rcases ds with _ | ⟨x7, ds⟩
  · simp at hl
  rcases ds with _ | ⟨x8, ds⟩
  · simp at hl
  rcases ds with _ | ⟨y, ds⟩
  rotate_left
  · simp at hl
  exact ⟨_, _, _, _, _, _, _, _, _, rfl, by simpa using fits_field ty_field48_0 h, by simpa using fits_field ty_field48_1 h, by simpa using fits_field ty_field48_2 h, by simpa using fits_field ty_field48_3 h, by simpa using fits_field ty_field48_4 h, by simpa using fits_field ty_field48_5 h⟩
theorem inv67 {ds : List D} (h : FitsT Tryd.prog 67 ds) : ∃ x0 x1 x2 x3 x4, ds = [x0, x1, x2, x3, x4] ∧ FitsT Tryd.prog 9 [x0] ∧ FitsT Tryd.prog 31 [x1, x2, x3, x4] := by
  have hl := fits_len ty_field67_0 h
  rw [ty_cells67] at hl
  rcases ds with _ | ⟨x0, ds⟩
  · simp at hl
  rcases ds with _ | ⟨x1, ds⟩
  · simp at hl
  rcases ds with _ | ⟨x2, ds⟩
  · simp at hl
  rcases ds with _ | ⟨x3, ds⟩
  · simp at hl
  rcases ds with _ | ⟨x4, ds⟩
  · simp at hl
  rcases ds with _ | ⟨y, ds⟩
  rotate_left
  · simp at hl
  exact ⟨_, _, _, _, _, rfl, by simpa using fits_field ty_field67_0 h, by simpa using fits_field ty_field67_1 h⟩
theorem inv79 {ds : List D} (h : FitsT Tryd.prog 79 ds) : ∃ x0 x1, ds = [x0, x1] ∧ FitsT Tryd.prog 9 [x0] ∧ FitsT Tryd.prog 45 [x1] := by
  have hl := fits_len ty_field79_0 h
  rw [ty_cells79] at hl
  rcases ds with _ | ⟨x0, ds⟩
  · simp at hl
  rcases ds with _ | ⟨x1, ds⟩
  · simp at hl
  rcases ds with _ | ⟨y, ds⟩
  rotate_left
  · simp at hl
  exact ⟨_, _, rfl, by simpa using fits_field ty_field79_0 h, by simpa using fits_field ty_field79_1 h⟩
theorem inv151 {ds : List D} (h : FitsT Tryd.prog 151 ds) : ∃ x0 x1, ds = [x0, x1] ∧ FitsT Tryd.prog 9 [x0] ∧ FitsT Tryd.prog 45 [x1] := by
  have hl := fits_len ty_field151_0 h
  rw [ty_cells151] at hl
  rcases ds with _ | ⟨x0, ds⟩
  · simp at hl
  rcases ds with _ | ⟨x1, ds⟩
  · simp at hl
  rcases ds with _ | ⟨y, ds⟩
  rotate_left
  · simp at hl
  exact ⟨_, _, rfl, by simpa using fits_field ty_field151_0 h, by simpa using fits_field ty_field151_1 h⟩
theorem inv203 {ds : List D} (h : FitsT Tryd.prog 203 ds) : ∃ x0 x1, ds = [x0, x1] ∧ FitsT Tryd.prog 9 [x0] ∧ FitsT Tryd.prog 9 [x1] := by
  have hl := fits_len ty_field203_0 h
  rw [ty_cells203] at hl
  rcases ds with _ | ⟨x0, ds⟩
  · simp at hl
  rcases ds with _ | ⟨x1, ds⟩
  · simp at hl
  rcases ds with _ | ⟨y, ds⟩
  rotate_left
  · simp at hl
  exact ⟨_, _, rfl, by simpa using fits_field ty_field203_0 h, by simpa using fits_field ty_field203_1 h⟩
end Go.Proofs.YthikbenglkfioaaDoor
