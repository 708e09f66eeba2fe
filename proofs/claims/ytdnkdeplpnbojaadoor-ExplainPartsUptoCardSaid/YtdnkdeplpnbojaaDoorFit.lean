/- What fits the plain types of this translation, one fact each. By a program of ours. No condition. -/
import Derived.Test.YtdnkdeplpnbojaaDoorVmH
import Derived.Test.YtdnkdeplpnbojaaDoorTy
set_option linter.unusedVariables false
set_option linter.unusedSimpArgs false
namespace Go.Proofs.YtdnkdeplpnbojaaDoor
open Go Go.VM
/-- The types of plain data that come in. -/
def TL : List TypeId := [3, 4, 5, 9, 33, 34, 35, 37, 39, 44, 46, 49, 50, 51, 53, 63, 66, 67, 68, 69, 71, 91, 100, 106, 107, 121, 122, 124, 126, 127, 128, 129, 130, 132, 134, 135, 137, 139, 141]
theorem hplain : plainOk Tryd.prog TL = true := by kernel_rfl
theorem hlo : laidOutB Tryd.prog = true := by kernel_rfl
theorem hmr : mapsRowed Tryd.prog = true := by kernel_rfl
theorem hsf : ((List.range Tryd.prog.types.size).all fun t => match Tryd.prog.underlying t with | some (.slice e) => decide (0 < Tryd.prog.cellsOf e) | _ => true) = true := by kernel_rfl
theorem hown : ownKnob Tryd.prog.godebug = none := by kernel_rfl
theorem tu3 : Tryd.prog.underlying 3 = some (.int .i64) := by kernel_rfl
theorem tu4 : Tryd.prog.underlying 4 = some .bool := by kernel_rfl
theorem tu5 : Tryd.prog.underlying 5 = some (.int .u8) := by kernel_rfl
theorem tu9 : Tryd.prog.underlying 9 = some .string := by kernel_rfl
theorem tu33 : Tryd.prog.underlying 33 = some (.int .i64) := by kernel_rfl
theorem tu34 : Tryd.prog.underlying 34 = some (.int .i64) := by kernel_rfl
theorem tu49 : Tryd.prog.underlying 49 = some (.int .i64) := by kernel_rfl
theorem tu67 : Tryd.prog.underlying 67 = some (.int .i64) := by kernel_rfl
theorem tu91 : Tryd.prog.underlying 91 = some (.int .u64) := by kernel_rfl
theorem tu121 : Tryd.prog.underlying 121 = some (.int .i64) := by kernel_rfl
theorem tu127 : Tryd.prog.underlying 127 = some (.int .i64) := by kernel_rfl
theorem tu135 : Tryd.prog.underlying 135 = some (.int .i64) := by kernel_rfl
theorem inv37 {ds : List D} (h : FitsT Tryd.prog 37 ds) : ∃ x0 x1 x2 x3, ds = [x0, x1, x2, x3] ∧ FitsT Tryd.prog 34 [x0] ∧ FitsT Tryd.prog 9 [x1] ∧ FitsT Tryd.prog 9 [x2] ∧ FitsT Tryd.prog 35 [x3] := by
  have hl := fits_len ty_field37_0 h
  rw [ty_cells37] at hl
  rcases ds with _ | ⟨x0, ds⟩
  · simp at hl
  rcases ds with _ | ⟨x1, ds⟩
  · simp at hl
  rcases ds with _ | ⟨x2, ds⟩
  · simp at hl
  rcases ds with _ | ⟨x3, ds⟩
  · simp at hl
  rcases ds with _ | ⟨y, ds⟩
  rotate_left
  · simp at hl
  exact ⟨_, _, _, _, rfl, by simpa using fits_field ty_field37_0 h, by simpa using fits_field ty_field37_1 h, by simpa using fits_field ty_field37_2 h, by simpa using fits_field ty_field37_3 h⟩
theorem inv46 {ds : List D} (h : FitsT Tryd.prog 46 ds) : ∃ x0 x1 x2 x3 x4 x5 x6 x7 x8, ds = [x0, x1, x2, x3, x4, x5, x6, x7, x8] ∧ FitsT Tryd.prog 9 [x0] ∧ FitsT Tryd.prog 33 [x1] ∧ FitsT Tryd.prog 37 [x2, x3, x4, x5] ∧ FitsT Tryd.prog 39 [x6] ∧ FitsT Tryd.prog 44 [x7] ∧ FitsT Tryd.prog 4 [x8] := by
  have hl := fits_len ty_field46_0 h
  rw [ty_cells46] at hl
  rcases ds with _ | ⟨x0, ds⟩
  · simp at hl
  rcases ds with _ | ⟨x1, ds⟩
  · simp at hl
  rcases ds with _ | ⟨x2, ds⟩
  · simp at hl
  rcases ds with _ | ⟨x3, ds⟩
  · simp at hl
  rcases ds with _ | ⟨x4, ds⟩
  · simp at hl
  rcases ds with _ | ⟨x5, ds⟩
  · simp at hl
  rcases ds with _ | ⟨x6, ds⟩
  · simp at hl
  rcases ds with _ | ⟨x7, ds⟩
  · simp at hl
  rcases ds with _ | ⟨x8, ds⟩
  · simp at hl
  rcases ds with _ | ⟨y, ds⟩
  rotate_left
  · simp at hl
  exact ⟨_, _, _, _, _, _, _, _, _, rfl, by simpa using fits_field ty_field46_0 h, by simpa using fits_field ty_field46_1 h, by simpa using fits_field ty_field46_2 h, by simpa using fits_field ty_field46_3 h, by simpa using fits_field ty_field46_4 h, by simpa using fits_field ty_field46_5 h⟩
theorem inv53 {ds : List D} (h : FitsT Tryd.prog 53 ds) : ∃ x0 x1 x2 x3 x4 x5, ds = [x0, x1, x2, x3, x4, x5] ∧ FitsT Tryd.prog 9 [x0] ∧ FitsT Tryd.prog 49 [x1] ∧ FitsT Tryd.prog 50 [x2] ∧ FitsT Tryd.prog 35 [x3] ∧ FitsT Tryd.prog 51 [x4] ∧ FitsT Tryd.prog 3 [x5] := by
  have hl := fits_len ty_field53_0 h
  rw [ty_cells53] at hl
  rcases ds with _ | ⟨x0, ds⟩
  · simp at hl
  rcases ds with _ | ⟨x1, ds⟩
  · simp at hl
  rcases ds with _ | ⟨x2, ds⟩
  · simp at hl
  rcases ds with _ | ⟨x3, ds⟩
  · simp at hl
  rcases ds with _ | ⟨x4, ds⟩
  · simp at hl
  rcases ds with _ | ⟨x5, ds⟩
  · simp at hl
  rcases ds with _ | ⟨y, ds⟩
  rotate_left
  · simp at hl
  exact ⟨_, _, _, _, _, _, rfl, by simpa using fits_field ty_field53_0 h, by simpa using fits_field ty_field53_1 h, by simpa using fits_field ty_field53_2 h, by simpa using fits_field ty_field53_3 h, by simpa using fits_field ty_field53_4 h, by simpa using fits_field ty_field53_5 h⟩
theorem inv66 {ds : List D} (h : FitsT Tryd.prog 66 ds) : ∃ x0 x1, ds = [x0, x1] ∧ FitsT Tryd.prog 9 [x0] ∧ FitsT Tryd.prog 3 [x1] := by
  have hl := fits_len ty_field66_0 h
  rw [ty_cells66] at hl
  rcases ds with _ | ⟨x0, ds⟩
  · simp at hl
  rcases ds with _ | ⟨x1, ds⟩
  · simp at hl
  rcases ds with _ | ⟨y, ds⟩
  rotate_left
  · simp at hl
  exact ⟨_, _, rfl, by simpa using fits_field ty_field66_0 h, by simpa using fits_field ty_field66_1 h⟩
theorem inv71 {ds : List D} (h : FitsT Tryd.prog 71 ds) : ∃ x0 x1 x2 x3 x4 x5 x6, ds = [x0, x1, x2, x3, x4, x5, x6] ∧ FitsT Tryd.prog 67 [x0] ∧ FitsT Tryd.prog 3 [x1] ∧ FitsT Tryd.prog 9 [x2] ∧ FitsT Tryd.prog 44 [x3] ∧ FitsT Tryd.prog 35 [x4] ∧ FitsT Tryd.prog 68 [x5] ∧ FitsT Tryd.prog 69 [x6] := by
  have hl := fits_len ty_field71_0 h
  rw [ty_cells71] at hl
  rcases ds with _ | ⟨x0, ds⟩
  · simp at hl
  rcases ds with _ | ⟨x1, ds⟩
  · simp at hl
  rcases ds with _ | ⟨x2, ds⟩
  · simp at hl
  rcases ds with _ | ⟨x3, ds⟩
  · simp at hl
  rcases ds with _ | ⟨x4, ds⟩
  · simp at hl
  rcases ds with _ | ⟨x5, ds⟩
  · simp at hl
  rcases ds with _ | ⟨x6, ds⟩
  · simp at hl
  rcases ds with _ | ⟨y, ds⟩
  rotate_left
  · simp at hl
  exact ⟨_, _, _, _, _, _, _, rfl, by simpa using fits_field ty_field71_0 h, by simpa using fits_field ty_field71_1 h, by simpa using fits_field ty_field71_2 h, by simpa using fits_field ty_field71_3 h, by simpa using fits_field ty_field71_4 h, by simpa using fits_field ty_field71_5 h, by simpa using fits_field ty_field71_6 h⟩
theorem inv124 {ds : List D} (h : FitsT Tryd.prog 124 ds) : ∃ x0 x1 x2 x3, ds = [x0, x1, x2, x3] ∧ FitsT Tryd.prog 121 [x0] ∧ FitsT Tryd.prog 9 [x1] ∧ FitsT Tryd.prog 3 [x2] ∧ FitsT Tryd.prog 122 [x3] := by
  have hl := fits_len ty_field124_0 h
  rw [ty_cells124] at hl
  rcases ds with _ | ⟨x0, ds⟩
  · simp at hl
  rcases ds with _ | ⟨x1, ds⟩
  · simp at hl
  rcases ds with _ | ⟨x2, ds⟩
  · simp at hl
  rcases ds with _ | ⟨x3, ds⟩
  · simp at hl
  rcases ds with _ | ⟨y, ds⟩
  rotate_left
  · simp at hl
  exact ⟨_, _, _, _, rfl, by simpa using fits_field ty_field124_0 h, by simpa using fits_field ty_field124_1 h, by simpa using fits_field ty_field124_2 h, by simpa using fits_field ty_field124_3 h⟩
theorem inv126 {ds : List D} (h : FitsT Tryd.prog 126 ds) : ∃ x0 x1 x2 x3 x4, ds = [x0, x1, x2, x3, x4] ∧ FitsT Tryd.prog 9 [x0] ∧ FitsT Tryd.prog 124 [x1, x2, x3, x4] := by
  have hl := fits_len ty_field126_0 h
  rw [ty_cells126] at hl
  rcases ds with _ | ⟨x0, ds⟩
  · simp at hl
  rcases ds with _ | ⟨x1, ds⟩
  · simp at hl
  rcases ds with _ | ⟨x2, ds⟩
  · simp at hl
  rcases ds with _ | ⟨x3, ds⟩
  · simp at hl
  rcases ds with _ | ⟨x4, ds⟩
  · simp at hl
  rcases ds with _ | ⟨y, ds⟩
  rotate_left
  · simp at hl
  exact ⟨_, _, _, _, _, rfl, by simpa using fits_field ty_field126_0 h, by simpa using fits_field ty_field126_1 h⟩
theorem inv132 {ds : List D} (h : FitsT Tryd.prog 132 ds) : ∃ x0 x1 x2 x3 x4 x5 x6, ds = [x0, x1, x2, x3, x4, x5, x6] ∧ FitsT Tryd.prog 127 [x0] ∧ FitsT Tryd.prog 9 [x1] ∧ FitsT Tryd.prog 3 [x2] ∧ FitsT Tryd.prog 68 [x3] ∧ FitsT Tryd.prog 128 [x4] ∧ FitsT Tryd.prog 129 [x5] ∧ FitsT Tryd.prog 130 [x6] := by
  have hl := fits_len ty_field132_0 h
  rw [ty_cells132] at hl
  rcases ds with _ | ⟨x0, ds⟩
  · simp at hl
  rcases ds with _ | ⟨x1, ds⟩
  · simp at hl
  rcases ds with _ | ⟨x2, ds⟩
  · simp at hl
  rcases ds with _ | ⟨x3, ds⟩
  · simp at hl
  rcases ds with _ | ⟨x4, ds⟩
  · simp at hl
  rcases ds with _ | ⟨x5, ds⟩
  · simp at hl
  rcases ds with _ | ⟨x6, ds⟩
  · simp at hl
  rcases ds with _ | ⟨y, ds⟩
  rotate_left
  · simp at hl
  exact ⟨_, _, _, _, _, _, _, rfl, by simpa using fits_field ty_field132_0 h, by simpa using fits_field ty_field132_1 h, by simpa using fits_field ty_field132_2 h, by simpa using fits_field ty_field132_3 h, by simpa using fits_field ty_field132_4 h, by simpa using fits_field ty_field132_5 h, by simpa using fits_field ty_field132_6 h⟩
theorem inv134 {ds : List D} (h : FitsT Tryd.prog 134 ds) : ∃ x0 x1 x2 x3 x4 x5 x6 x7, ds = [x0, x1, x2, x3, x4, x5, x6, x7] ∧ FitsT Tryd.prog 9 [x0] ∧ FitsT Tryd.prog 71 [x1, x2, x3, x4, x5, x6, x7] := by
  have hl := fits_len ty_field134_0 h
  rw [ty_cells134] at hl
  rcases ds with _ | ⟨x0, ds⟩
  · simp at hl
  rcases ds with _ | ⟨x1, ds⟩
  · simp at hl
  rcases ds with _ | ⟨x2, ds⟩
  · simp at hl
  rcases ds with _ | ⟨x3, ds⟩
  · simp at hl
  rcases ds with _ | ⟨x4, ds⟩
  · simp at hl
  rcases ds with _ | ⟨x5, ds⟩
  · simp at hl
  rcases ds with _ | ⟨x6, ds⟩
  · simp at hl
  rcases ds with _ | ⟨x7, ds⟩
  · simp at hl
  rcases ds with _ | ⟨y, ds⟩
  rotate_left
  · simp at hl
  exact ⟨_, _, _, _, _, _, _, _, rfl, by simpa using fits_field ty_field134_0 h, by simpa using fits_field ty_field134_1 h⟩
theorem inv137 {ds : List D} (h : FitsT Tryd.prog 137 ds) : ∃ x0 x1 x2 x3 x4 x5 x6 x7 x8, ds = [x0, x1, x2, x3, x4, x5, x6, x7, x8] ∧ FitsT Tryd.prog 135 [x0] ∧ FitsT Tryd.prog 9 [x1] ∧ FitsT Tryd.prog 130 [x2] ∧ FitsT Tryd.prog 35 [x3] ∧ FitsT Tryd.prog 124 [x4, x5, x6, x7] ∧ FitsT Tryd.prog 122 [x8] := by
  have hl := fits_len ty_field137_0 h
  rw [ty_cells137] at hl
  rcases ds with _ | ⟨x0, ds⟩
  · simp at hl
  rcases ds with _ | ⟨x1, ds⟩
  · simp at hl
  rcases ds with _ | ⟨x2, ds⟩
  · simp at hl
  rcases ds with _ | ⟨x3, ds⟩
  · simp at hl
  rcases ds with _ | ⟨x4, ds⟩
  · simp at hl
  rcases ds with _ | ⟨x5, ds⟩
  · simp at hl
  rcases ds with _ | ⟨x6, ds⟩
  · simp at hl
  rcases ds with _ | ⟨x7, ds⟩
  · simp at hl
  rcases ds with _ | ⟨x8, ds⟩
  · simp at hl
  rcases ds with _ | ⟨y, ds⟩
  rotate_left
  · simp at hl
  exact ⟨_, _, _, _, _, _, _, _, _, rfl, by simpa using fits_field ty_field137_0 h, by simpa using fits_field ty_field137_1 h, by simpa using fits_field ty_field137_2 h, by simpa using fits_field ty_field137_3 h, by simpa using fits_field ty_field137_4 h, by simpa using fits_field ty_field137_5 h⟩
theorem inv139 {ds : List D} (h : FitsT Tryd.prog 139 ds) : ∃ x0 x1 x2 x3 x4 x5 x6 x7 x8 x9, ds = [x0, x1, x2, x3, x4, x5, x6, x7, x8, x9] ∧ FitsT Tryd.prog 9 [x0] ∧ FitsT Tryd.prog 137 [x1, x2, x3, x4, x5, x6, x7, x8, x9] := by
  have hl := fits_len ty_field139_0 h
  rw [ty_cells139] at hl
  rcases ds with _ | ⟨x0, ds⟩
  · simp at hl
  rcases ds with _ | ⟨x1, ds⟩
  · simp at hl
  rcases ds with _ | ⟨x2, ds⟩
  · simp at hl
  rcases ds with _ | ⟨x3, ds⟩
  · simp at hl
  rcases ds with _ | ⟨x4, ds⟩
  · simp at hl
  rcases ds with _ | ⟨x5, ds⟩
  · simp at hl
  rcases ds with _ | ⟨x6, ds⟩
  · simp at hl
  rcases ds with _ | ⟨x7, ds⟩
  · simp at hl
  rcases ds with _ | ⟨x8, ds⟩
  · simp at hl
  rcases ds with _ | ⟨x9, ds⟩
  · simp at hl
  rcases ds with _ | ⟨y, ds⟩
  rotate_left
  · simp at hl
  exact ⟨_, _, _, _, _, _, _, _, _, _, rfl, by simpa using fits_field ty_field139_0 h, by simpa using fits_field ty_field139_1 h⟩
theorem inv141 {ds : List D} (h : FitsT Tryd.prog 141 ds) : ∃ x0 x1 x2 x3 x4 x5 x6 x7 x8, ds = [x0, x1, x2, x3, x4, x5, x6, x7, x8] ∧ FitsT Tryd.prog 9 [x0] ∧ FitsT Tryd.prog 35 [x1] ∧ FitsT Tryd.prog 132 [x2, x3, x4, x5, x6, x7, x8] := by
  have hl := fits_len ty_field141_0 h
  rw [ty_cells141] at hl
  rcases ds with _ | ⟨x0, ds⟩
  · simp at hl
  rcases ds with _ | ⟨x1, ds⟩
  · simp at hl
  rcases ds with _ | ⟨x2, ds⟩
  · simp at hl
  rcases ds with _ | ⟨x3, ds⟩
  · simp at hl
  rcases ds with _ | ⟨x4, ds⟩
  · simp at hl
  rcases ds with _ | ⟨x5, ds⟩
  · simp at hl
  rcases ds with _ | ⟨x6, ds⟩
  · simp at hl
  rcases ds with _ | ⟨x7, ds⟩
  · simp at hl
  rcases ds with _ | ⟨x8, ds⟩
  · simp at hl
  rcases ds with _ | ⟨y, ds⟩
  rotate_left
  · simp at hl
  exact ⟨_, _, _, _, _, _, _, _, _, rfl, by simpa using fits_field ty_field141_0 h, by simpa using fits_field ty_field141_1 h, by simpa using fits_field ty_field141_2 h⟩
end Go.Proofs.YtdnkdeplpnbojaaDoor
