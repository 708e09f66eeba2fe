/- What fits the plain types of this translation, one fact each. By a program of ours. No condition. -/
import Derived.Test.YtlglfkdjlbcpjaaGreatDoorZ3
import Derived.Test.YtlglfkdjlbcpjaaGreatDoorTy
set_option linter.unusedVariables false
set_option linter.unusedSimpArgs false
namespace Go.Proofs.YtlglfkdjlbcpjaaGreatDoor
open Go Go.VM
/-- The types of plain data that come in. -/
def TL : List TypeId := [3, 5, 9, 22, 23, 25, 32, 34, 36, 43, 44, 46, 55, 138, 158, 163, 171, 172, 173, 175, 176]
theorem hplain : plainOk Tryz.prog TL = true := by kernel_rfl
theorem hlo : laidOutB Tryz.prog = true := by kernel_rfl
theorem hmr : mapsRowed Tryz.prog = true := by kernel_rfl
theorem hsf : ((List.range Tryz.prog.types.size).all fun t => match Tryz.prog.underlying t with | some (.slice e) => decide (0 < Tryz.prog.cellsOf e) | _ => true) = true := by kernel_rfl
theorem hown : ownKnob Tryz.prog.godebug = none := by kernel_rfl
theorem tu3 : Tryz.prog.underlying 3 = some (.int .i64) := by kernel_rfl
theorem tu5 : Tryz.prog.underlying 5 = some (.int .u8) := by kernel_rfl
theorem tu9 : Tryz.prog.underlying 9 = some .string := by kernel_rfl
theorem tu22 : Tryz.prog.underlying 22 = some (.int .i64) := by kernel_rfl
theorem tu44 : Tryz.prog.underlying 44 = some (.int .i64) := by kernel_rfl
theorem tu138 : Tryz.prog.underlying 138 = some (.int .u64) := by kernel_rfl
theorem inv25 {ds : List D} (h : FitsT Tryz.prog 25 ds) : ∃ x0 x1 x2 x3, ds = [x0, x1, x2, x3] ∧ FitsT Tryz.prog 22 [x0] ∧ FitsT Tryz.prog 9 [x1] ∧ FitsT Tryz.prog 3 [x2] ∧ FitsT Tryz.prog 23 [x3] := by
  have hl := fits_len ty_field25_0 h
  rw [ty_cells25] at hl
  rcases ds with _ | ⟨x0, ds⟩
  · simp at hl
  rcases ds with _ | ⟨x1, ds⟩
  · simp at hl
  rcases ds with _ | ⟨x2, ds⟩
  · simp at hl
  rcases ds with _ | ⟨x3, ds⟩
  · simp at hl
  rcases ds with _ | ⟨y, ds⟩
  rotate_left
  · simp at hl
  exact ⟨_, _, _, _, rfl, by simpa using fits_field ty_field25_0 h, by simpa using fits_field ty_field25_1 h, by simpa using fits_field ty_field25_2 h, by simpa using fits_field ty_field25_3 h⟩
theorem inv34 {ds : List D} (h : FitsT Tryz.prog 34 ds) : ∃ x0 x1, ds = [x0, x1] ∧ FitsT Tryz.prog 32 [x0] ∧ FitsT Tryz.prog 3 [x1] := by
  have hl := fits_len ty_field34_0 h
  rw [ty_cells34] at hl
  rcases ds with _ | ⟨x0, ds⟩
  · simp at hl
  rcases ds with _ | ⟨x1, ds⟩
  · simp at hl
  rcases ds with _ | ⟨y, ds⟩
  rotate_left
  · simp at hl
  exact ⟨_, _, rfl, by simpa using fits_field ty_field34_0 h, by simpa using fits_field ty_field34_1 h⟩
theorem inv36 {ds : List D} (h : FitsT Tryz.prog 36 ds) : ∃ x0 x1, ds = [x0, x1] ∧ FitsT Tryz.prog 9 [x0] ∧ FitsT Tryz.prog 3 [x1] := by
  have hl := fits_len ty_field36_0 h
  rw [ty_cells36] at hl
  rcases ds with _ | ⟨x0, ds⟩
  · simp at hl
  rcases ds with _ | ⟨x1, ds⟩
  · simp at hl
  rcases ds with _ | ⟨y, ds⟩
  rotate_left
  · simp at hl
  exact ⟨_, _, rfl, by simpa using fits_field ty_field36_0 h, by simpa using fits_field ty_field36_1 h⟩
theorem inv46 {ds : List D} (h : FitsT Tryz.prog 46 ds) : ∃ x0 x1 x2 x3, ds = [x0, x1, x2, x3] ∧ FitsT Tryz.prog 44 [x0] ∧ FitsT Tryz.prog 9 [x1] ∧ FitsT Tryz.prog 3 [x2] ∧ FitsT Tryz.prog 3 [x3] := by
  have hl := fits_len ty_field46_0 h
  rw [ty_cells46] at hl
  rcases ds with _ | ⟨x0, ds⟩
  · simp at hl
  rcases ds with _ | ⟨x1, ds⟩
  · simp at hl
  rcases ds with _ | ⟨x2, ds⟩
  · simp at hl
  rcases ds with _ | ⟨x3, ds⟩
  · simp at hl
  rcases ds with _ | ⟨y, ds⟩
  rotate_left
  · simp at hl
  exact ⟨_, _, _, _, rfl, by simpa using fits_field ty_field46_0 h, by simpa using fits_field ty_field46_1 h, by simpa using fits_field ty_field46_2 h, by simpa using fits_field ty_field46_3 h⟩
theorem inv175 {ds : List D} (h : FitsT Tryz.prog 175 ds) : ∃ x0 x1, ds = [x0, x1] ∧ FitsT Tryz.prog 5 [x0] ∧ FitsT Tryz.prog 5 [x1] := by
  have hl := fits_len ty_field175_0 h
  rw [ty_cells175] at hl
  rcases ds with _ | ⟨x0, ds⟩
  · simp at hl
  rcases ds with _ | ⟨x1, ds⟩
  · simp at hl
  rcases ds with _ | ⟨y, ds⟩
  rotate_left
  · simp at hl
  exact ⟨_, _, rfl, by simpa using fits_field ty_field175_0 h, by simpa using fits_field ty_field175_1 h⟩
end Go.Proofs.YtlglfkdjlbcpjaaGreatDoor
