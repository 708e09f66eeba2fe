/- What fits the plain types of this translation, one fact each. By a program of ours. No condition. -/
import Derived.Test.YtcmpodbjhoeblaaDoorZ3
import Derived.Test.YtcmpodbjhoeblaaDoorTy
set_option linter.unusedVariables false
set_option linter.unusedSimpArgs false
namespace Go.Proofs.YtcmpodbjhoeblaaDoor
open Go Go.VM
/-- The types of plain data that come in. -/
def TL : List TypeId := [3, 5, 9, 22, 23, 24, 25, 26, 28, 30, 84, 90, 93, 100, 101]
theorem hplain : plainOk Tryd.prog TL = true := by kernel_rfl
theorem hlo : laidOutB Tryd.prog = true := by kernel_rfl
theorem hmr : mapsRowed Tryd.prog = true := by kernel_rfl
theorem hsf : ((List.range Tryd.prog.types.size).all fun t => match Tryd.prog.underlying t with | some (.slice e) => decide (0 < Tryd.prog.cellsOf e) | _ => true) = true := by kernel_rfl
theorem hown : ownKnob Tryd.prog.godebug = none := by kernel_rfl
theorem tu3 : Tryd.prog.underlying 3 = some (.int .i64) := by kernel_rfl
theorem tu5 : Tryd.prog.underlying 5 = some (.int .u8) := by kernel_rfl
theorem tu9 : Tryd.prog.underlying 9 = some .string := by kernel_rfl
theorem tu22 : Tryd.prog.underlying 22 = some (.int .i64) := by kernel_rfl
theorem tu25 : Tryd.prog.underlying 25 = some (.int .i64) := by kernel_rfl
theorem tu84 : Tryd.prog.underlying 84 = some (.int .u64) := by kernel_rfl
theorem inv28 {ds : List D} (h : FitsT Tryd.prog 28 ds) : ∃ x0 x1 x2 x3, ds = [x0, x1, x2, x3] ∧ FitsT Tryd.prog 25 [x0] ∧ FitsT Tryd.prog 9 [x1] ∧ FitsT Tryd.prog 3 [x2] ∧ FitsT Tryd.prog 26 [x3] := by
  have hl := fits_len ty_field28_0 h
  rw [ty_cells28] at hl
  rcases ds with _ | ⟨x0, ds⟩
  · simp at hl
  rcases ds with _ | ⟨x1, ds⟩
  · simp at hl
  rcases ds with _ | ⟨x2, ds⟩
  · simp at hl
  rcases ds with _ | ⟨x3, ds⟩
  · simp at hl
  rcases ds with _ | ⟨y, ds⟩
  rotate_left
  · simp at hl
  exact ⟨_, _, _, _, rfl, by simpa using fits_field ty_field28_0 h, by simpa using fits_field ty_field28_1 h, by simpa using fits_field ty_field28_2 h, by simpa using fits_field ty_field28_3 h⟩
theorem inv30 {ds : List D} (h : FitsT Tryd.prog 30 ds) : ∃ x0 x1 x2 x3 x4 x5 x6 x7 x8, ds = [x0, x1, x2, x3, x4, x5, x6, x7, x8] ∧ FitsT Tryd.prog 22 [x0] ∧ FitsT Tryd.prog 9 [x1] ∧ FitsT Tryd.prog 23 [x2] ∧ FitsT Tryd.prog 24 [x3] ∧ FitsT Tryd.prog 28 [x4, x5, x6, x7] ∧ FitsT Tryd.prog 26 [x8] := by
  have hl := fits_len ty_field30_0 h
  rw [ty_cells30] at hl
  rcases ds with _ | ⟨x0, ds⟩
  · simp at hl
  rcases ds with _ | ⟨x1, ds⟩
  · simp at hl
  rcases ds with _ | ⟨x2, ds⟩
  · simp at hl
  rcases ds with _ | ⟨x3, ds⟩
  · simp at hl
  rcases ds with _ | ⟨x4, ds⟩
  · simp at hl
  rcases ds with _ | ⟨x5, ds⟩
  · simp at hl
  rcases ds with _ | ⟨x6, ds⟩
  · simp at hl
  rcases ds with _ | ⟨x7, ds⟩
  · simp at hl
  rcases ds with _ | ⟨x8, ds⟩
  · simp at hl
  rcases ds with _ | ⟨y, ds⟩
  rotate_left
  · simp at hl
  exact ⟨_, _, _, _, _, _, _, _, _, rfl, by simpa using fits_field ty_field30_0 h, by simpa using fits_field ty_field30_1 h, by simpa using fits_field ty_field30_2 h, by simpa using fits_field ty_field30_3 h, by simpa using fits_field ty_field30_4 h, by simpa using fits_field ty_field30_5 h⟩
end Go.Proofs.YtcmpodbjhoeblaaDoor
