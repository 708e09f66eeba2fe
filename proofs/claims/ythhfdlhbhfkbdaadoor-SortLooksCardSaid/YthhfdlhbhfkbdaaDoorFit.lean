/- What fits the plain types of this translation, one fact each. By a program of ours. No condition. -/
import Derived.Test.YthhfdlhbhfkbdaaDoorVmH
import Derived.Test.YthhfdlhbhfkbdaaDoorTy
set_option linter.unusedVariables false
set_option linter.unusedSimpArgs false
namespace Go.Proofs.YthhfdlhbhfkbdaaDoor
open Go Go.VM
/-- The types of plain data that come in. -/
def TL : List TypeId := [3, 9, 22, 23, 25, 32, 33, 34, 36, 44, 50, 51, 52, 53, 54, 56, 58, 62, 90]
theorem hplain : plainOk Tryd.prog TL = true := by kernel_rfl
theorem hlo : laidOutB Tryd.prog = true := by kernel_rfl
theorem hmr : mapsRowed Tryd.prog = true := by kernel_rfl
theorem hsf : ((List.range Tryd.prog.types.size).all fun t => match Tryd.prog.underlying t with | some (.slice e) => decide (0 < Tryd.prog.cellsOf e) | _ => true) = true := by kernel_rfl
theorem hown : ownKnob Tryd.prog.godebug = none := by kernel_rfl
theorem tu3 : Tryd.prog.underlying 3 = some (.int .i64) := by kernel_rfl
theorem tu9 : Tryd.prog.underlying 9 = some .string := by kernel_rfl
theorem tu22 : Tryd.prog.underlying 22 = some .string := by kernel_rfl
theorem tu50 : Tryd.prog.underlying 50 = some (.int .i64) := by kernel_rfl
theorem tu53 : Tryd.prog.underlying 53 = some (.int .i64) := by kernel_rfl
theorem inv25 {ds : List D} (h : FitsT Tryd.prog 25 ds) : ∃ x0 x1 x2, ds = [x0, x1, x2] ∧ FitsT Tryd.prog 9 [x0] ∧ FitsT Tryd.prog 23 [x1] ∧ FitsT Tryd.prog 22 [x2] := by
  have hl := fits_len ty_field25_0 h
  rw [ty_cells25] at hl
  rcases ds with _ | ⟨x0, ds⟩
  · simp at hl
  rcases ds with _ | ⟨x1, ds⟩
  · simp at hl
  rcases ds with _ | ⟨x2, ds⟩
  · simp at hl
  rcases ds with _ | ⟨y, ds⟩
  rotate_left
  · simp at hl
  exact ⟨_, _, _, rfl, by simpa using fits_field ty_field25_0 h, by simpa using fits_field ty_field25_1 h, by simpa using fits_field ty_field25_2 h⟩
theorem inv36 {ds : List D} (h : FitsT Tryd.prog 36 ds) : ∃ x0 x1 x2, ds = [x0, x1, x2] ∧ FitsT Tryd.prog 32 [x0] ∧ FitsT Tryd.prog 33 [x1] ∧ FitsT Tryd.prog 34 [x2] := by
  have hl := fits_len ty_field36_0 h
  rw [ty_cells36] at hl
  rcases ds with _ | ⟨x0, ds⟩
  · simp at hl
  rcases ds with _ | ⟨x1, ds⟩
  · simp at hl
  rcases ds with _ | ⟨x2, ds⟩
  · simp at hl
  rcases ds with _ | ⟨y, ds⟩
  rotate_left
  · simp at hl
  exact ⟨_, _, _, rfl, by simpa using fits_field ty_field36_0 h, by simpa using fits_field ty_field36_1 h, by simpa using fits_field ty_field36_2 h⟩
theorem inv44 {ds : List D} (h : FitsT Tryd.prog 44 ds) : ∃ x0 x1, ds = [x0, x1] ∧ FitsT Tryd.prog 9 [x0] ∧ FitsT Tryd.prog 32 [x1] := by
  have hl := fits_len ty_field44_0 h
  rw [ty_cells44] at hl
  rcases ds with _ | ⟨x0, ds⟩
  · simp at hl
  rcases ds with _ | ⟨x1, ds⟩
  · simp at hl
  rcases ds with _ | ⟨y, ds⟩
  rotate_left
  · simp at hl
  exact ⟨_, _, rfl, by simpa using fits_field ty_field44_0 h, by simpa using fits_field ty_field44_1 h⟩
theorem inv56 {ds : List D} (h : FitsT Tryd.prog 56 ds) : ∃ x0 x1 x2 x3, ds = [x0, x1, x2, x3] ∧ FitsT Tryd.prog 53 [x0] ∧ FitsT Tryd.prog 9 [x1] ∧ FitsT Tryd.prog 3 [x2] ∧ FitsT Tryd.prog 54 [x3] := by
  have hl := fits_len ty_field56_0 h
  rw [ty_cells56] at hl
  rcases ds with _ | ⟨x0, ds⟩
  · simp at hl
  rcases ds with _ | ⟨x1, ds⟩
  · simp at hl
  rcases ds with _ | ⟨x2, ds⟩
  · simp at hl
  rcases ds with _ | ⟨x3, ds⟩
  · simp at hl
  rcases ds with _ | ⟨y, ds⟩
  rotate_left
  · simp at hl
  exact ⟨_, _, _, _, rfl, by simpa using fits_field ty_field56_0 h, by simpa using fits_field ty_field56_1 h, by simpa using fits_field ty_field56_2 h, by simpa using fits_field ty_field56_3 h⟩
theorem inv58 {ds : List D} (h : FitsT Tryd.prog 58 ds) : ∃ x0 x1 x2 x3 x4 x5 x6 x7 x8, ds = [x0, x1, x2, x3, x4, x5, x6, x7, x8] ∧ FitsT Tryd.prog 50 [x0] ∧ FitsT Tryd.prog 9 [x1] ∧ FitsT Tryd.prog 51 [x2] ∧ FitsT Tryd.prog 52 [x3] ∧ FitsT Tryd.prog 56 [x4, x5, x6, x7] ∧ FitsT Tryd.prog 54 [x8] := by
  have hl := fits_len ty_field58_0 h
  rw [ty_cells58] at hl
  rcases ds with _ | ⟨x0, ds⟩
  · simp at hl
  rcases ds with _ | ⟨x1, ds⟩
  · simp at hl
  rcases ds with _ | ⟨x2, ds⟩
  · simp at hl
  rcases ds with _ | ⟨x3, ds⟩
  · simp at hl
  rcases ds with _ | ⟨x4, ds⟩
  · simp at hl
  rcases ds with _ | ⟨x5, ds⟩
  · simp at hl
  rcases ds with _ | ⟨x6, ds⟩
  · simp at hl
  rcases ds with _ | ⟨x7, ds⟩
  · simp at hl
  rcases ds with _ | ⟨x8, ds⟩
  · simp at hl
  rcases ds with _ | ⟨y, ds⟩
  rotate_left
  · simp at hl
  exact ⟨_, _, _, _, _, _, _, _, _, rfl, by simpa using fits_field ty_field58_0 h, by simpa using fits_field ty_field58_1 h, by simpa using fits_field ty_field58_2 h, by simpa using fits_field ty_field58_3 h, by simpa using fits_field ty_field58_4 h, by simpa using fits_field ty_field58_5 h⟩
theorem inv62 {ds : List D} (h : FitsT Tryd.prog 62 ds) : ∃ x0 x1, ds = [x0, x1] ∧ FitsT Tryd.prog 9 [x0] ∧ FitsT Tryd.prog 22 [x1] := by
  have hl := fits_len ty_field62_0 h
  rw [ty_cells62] at hl
  rcases ds with _ | ⟨x0, ds⟩
  · simp at hl
  rcases ds with _ | ⟨x1, ds⟩
  · simp at hl
  rcases ds with _ | ⟨y, ds⟩
  rotate_left
  · simp at hl
  exact ⟨_, _, rfl, by simpa using fits_field ty_field62_0 h, by simpa using fits_field ty_field62_1 h⟩
end Go.Proofs.YthhfdlhbhfkbdaaDoor
