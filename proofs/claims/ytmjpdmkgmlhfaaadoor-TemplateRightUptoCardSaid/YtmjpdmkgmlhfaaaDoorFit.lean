/- What fits the plain types of this translation, one fact each. By a program of ours. No condition. -/
import Derived.Test.YtmjpdmkgmlhfaaaDoorZ3
import Derived.Test.YtmjpdmkgmlhfaaaDoorTy
set_option linter.unusedVariables false
set_option linter.unusedSimpArgs false
namespace Go.Proofs.YtmjpdmkgmlhfaaaDoor
open Go Go.VM
/-- The types of plain data that come in. -/
def TL : List TypeId := [3, 4, 5, 9, 22, 23, 24, 25, 26, 27, 29, 30, 31, 32, 33, 34, 36, 38, 39, 41, 53, 54, 55, 56, 58, 59, 60, 61, 62, 64, 66, 74, 76, 86, 88, 155, 158, 166, 175, 176, 192, 194, 196, 197, 199, 201, 203, 205, 207, 208, 210, 212, 214, 216]
theorem hplain : plainOk Tryd.prog TL = true := by kernel_rfl
theorem hlo : laidOutB Tryd.prog = true := by kernel_rfl
theorem hmr : mapsRowed Tryd.prog = true := by kernel_rfl
theorem hsf : ((List.range Tryd.prog.types.size).all fun t => match Tryd.prog.underlying t with | some (.slice e) => decide (0 < Tryd.prog.cellsOf e) | _ => true) = true := by kernel_rfl
theorem hown : ownKnob Tryd.prog.godebug = none := by kernel_rfl
theorem tu3 : Tryd.prog.underlying 3 = some (.int .i64) := by kernel_rfl
theorem tu4 : Tryd.prog.underlying 4 = some .bool := by kernel_rfl
theorem tu5 : Tryd.prog.underlying 5 = some (.int .u8) := by kernel_rfl
theorem tu9 : Tryd.prog.underlying 9 = some .string := by kernel_rfl
theorem tu30 : Tryd.prog.underlying 30 = some (.int .i64) := by kernel_rfl
theorem tu33 : Tryd.prog.underlying 33 = some (.int .i64) := by kernel_rfl
theorem tu53 : Tryd.prog.underlying 53 = some (.int .i64) := by kernel_rfl
theorem tu59 : Tryd.prog.underlying 59 = some (.int .i64) := by kernel_rfl
theorem tu74 : Tryd.prog.underlying 74 = some .string := by kernel_rfl
theorem tu158 : Tryd.prog.underlying 158 = some (.int .u64) := by kernel_rfl
theorem inv29 {ds : List D} (h : FitsT Tryd.prog 29 ds) : ∃ x0 x1 x2 x3 x4 x5, ds = [x0, x1, x2, x3, x4, x5] ∧ FitsT Tryd.prog 22 [x0] ∧ FitsT Tryd.prog 23 [x1] ∧ FitsT Tryd.prog 24 [x2] ∧ FitsT Tryd.prog 25 [x3] ∧ FitsT Tryd.prog 26 [x4] ∧ FitsT Tryd.prog 27 [x5] := by
  have hl := fits_len ty_field29_0 h
  rw [ty_cells29] at hl
  rcases ds with _ | ⟨x0, ds⟩
  · simp at hl
  rcases ds with _ | ⟨x1, ds⟩
  · simp at hl
  rcases ds with _ | ⟨x2, ds⟩
  · simp at hl
  rcases ds with _ | ⟨x3, ds⟩
  · simp at hl
  rcases ds with _ | ⟨x4, ds⟩
  · simp at hl
  rcases ds with _ | ⟨x5, ds⟩
  · simp at hl
  rcases ds with _ | ⟨y, ds⟩
  rotate_left
  · simp at hl
  exact ⟨_, _, _, _, _, _, rfl, by simpa using fits_field ty_field29_0 h, by simpa using fits_field ty_field29_1 h, by simpa using fits_field ty_field29_2 h, by simpa using fits_field ty_field29_3 h, by simpa using fits_field ty_field29_4 h, by simpa using fits_field ty_field29_5 h⟩
theorem inv36 {ds : List D} (h : FitsT Tryd.prog 36 ds) : ∃ x0 x1 x2 x3, ds = [x0, x1, x2, x3] ∧ FitsT Tryd.prog 33 [x0] ∧ FitsT Tryd.prog 9 [x1] ∧ FitsT Tryd.prog 3 [x2] ∧ FitsT Tryd.prog 34 [x3] := by
  have hl := fits_len ty_field36_0 h
  rw [ty_cells36] at hl
  rcases ds with _ | ⟨x0, ds⟩
  · simp at hl
  rcases ds with _ | ⟨x1, ds⟩
  · simp at hl
  rcases ds with _ | ⟨x2, ds⟩
  · simp at hl
  rcases ds with _ | ⟨x3, ds⟩
  · simp at hl
  rcases ds with _ | ⟨y, ds⟩
  rotate_left
  · simp at hl
  exact ⟨_, _, _, _, rfl, by simpa using fits_field ty_field36_0 h, by simpa using fits_field ty_field36_1 h, by simpa using fits_field ty_field36_2 h, by simpa using fits_field ty_field36_3 h⟩
theorem inv38 {ds : List D} (h : FitsT Tryd.prog 38 ds) : ∃ x0 x1 x2 x3 x4 x5 x6 x7 x8, ds = [x0, x1, x2, x3, x4, x5, x6, x7, x8] ∧ FitsT Tryd.prog 30 [x0] ∧ FitsT Tryd.prog 9 [x1] ∧ FitsT Tryd.prog 31 [x2] ∧ FitsT Tryd.prog 32 [x3] ∧ FitsT Tryd.prog 36 [x4, x5, x6, x7] ∧ FitsT Tryd.prog 34 [x8] := by
  have hl := fits_len ty_field38_0 h
  rw [ty_cells38] at hl
  rcases ds with _ | ⟨x0, ds⟩
  · simp at hl
  rcases ds with _ | ⟨x1, ds⟩
  · simp at hl
  rcases ds with _ | ⟨x2, ds⟩
  · simp at hl
  rcases ds with _ | ⟨x3, ds⟩
  · simp at hl
  rcases ds with _ | ⟨x4, ds⟩
  · simp at hl
  rcases ds with _ | ⟨x5, ds⟩
  · simp at hl
  rcases ds with _ | ⟨x6, ds⟩
  · simp at hl
  rcases ds with _ | ⟨x7, ds⟩
  · simp at hl
  rcases ds with _ | ⟨x8, ds⟩
  · simp at hl
  rcases ds with _ | ⟨y, ds⟩
  rotate_left
  · simp at hl
  exact ⟨_, _, _, _, _, _, _, _, _, rfl, by simpa using fits_field ty_field38_0 h, by simpa using fits_field ty_field38_1 h, by simpa using fits_field ty_field38_2 h, by simpa using fits_field ty_field38_3 h, by simpa using fits_field ty_field38_4 h, by simpa using fits_field ty_field38_5 h⟩
theorem inv41 {ds : List D} (h : FitsT Tryd.prog 41 ds) : ∃ x0 x1, ds = [x0, x1] ∧ FitsT Tryd.prog 9 [x0] ∧ FitsT Tryd.prog 39 [x1] := by
  have hl := fits_len ty_field41_0 h
  rw [ty_cells41] at hl
  rcases ds with _ | ⟨x0, ds⟩
  · simp at hl
  rcases ds with _ | ⟨x1, ds⟩
  · simp at hl
  rcases ds with _ | ⟨y, ds⟩
  rotate_left
  · simp at hl
  exact ⟨_, _, rfl, by simpa using fits_field ty_field41_0 h, by simpa using fits_field ty_field41_1 h⟩
theorem inv58 {ds : List D} (h : FitsT Tryd.prog 58 ds) : ∃ x0 x1 x2 x3 x4 x5 x6, ds = [x0, x1, x2, x3, x4, x5, x6] ∧ FitsT Tryd.prog 53 [x0] ∧ FitsT Tryd.prog 9 [x1] ∧ FitsT Tryd.prog 3 [x2] ∧ FitsT Tryd.prog 54 [x3] ∧ FitsT Tryd.prog 55 [x4] ∧ FitsT Tryd.prog 56 [x5] ∧ FitsT Tryd.prog 31 [x6] := by
  have hl := fits_len ty_field58_0 h
  rw [ty_cells58] at hl
  rcases ds with _ | ⟨x0, ds⟩
  · simp at hl
  rcases ds with _ | ⟨x1, ds⟩
  · simp at hl
  rcases ds with _ | ⟨x2, ds⟩
  · simp at hl
  rcases ds with _ | ⟨x3, ds⟩
  · simp at hl
  rcases ds with _ | ⟨x4, ds⟩
  · simp at hl
  rcases ds with _ | ⟨x5, ds⟩
  · simp at hl
  rcases ds with _ | ⟨x6, ds⟩
  · simp at hl
  rcases ds with _ | ⟨y, ds⟩
  rotate_left
  · simp at hl
  exact ⟨_, _, _, _, _, _, _, rfl, by simpa using fits_field ty_field58_0 h, by simpa using fits_field ty_field58_1 h, by simpa using fits_field ty_field58_2 h, by simpa using fits_field ty_field58_3 h, by simpa using fits_field ty_field58_4 h, by simpa using fits_field ty_field58_5 h, by simpa using fits_field ty_field58_6 h⟩
theorem inv64 {ds : List D} (h : FitsT Tryd.prog 64 ds) : ∃ x0 x1 x2 x3 x4 x5 x6 x7 x8 x9 x10 x11 x12 x13, ds = [x0, x1, x2, x3, x4, x5, x6, x7, x8, x9, x10, x11, x12, x13] ∧ FitsT Tryd.prog 32 [x0] ∧ FitsT Tryd.prog 60 [x1] ∧ FitsT Tryd.prog 61 [x2] ∧ FitsT Tryd.prog 62 [x3] ∧ FitsT Tryd.prog 38 [x4, x5, x6, x7, x8, x9, x10, x11, x12] ∧ FitsT Tryd.prog 34 [x13] := by
  have hl := fits_len ty_field64_0 h
  rw [ty_cells64] at hl
  rcases ds with _ | ⟨x0, ds⟩
  · simp at hl
  rcases ds with _ | ⟨x1, ds⟩
  · simp at hl
  rcases ds with _ | ⟨x2, ds⟩
  · simp at hl
  rcases ds with _ | ⟨x3, ds⟩
  · simp at hl
  rcases ds with _ | ⟨x4, ds⟩
  · simp at hl
  rcases ds with _ | ⟨x5, ds⟩
  · simp at hl
  rcases ds with _ | ⟨x6, ds⟩
  · simp at hl
  rcases ds with _ | ⟨x7, ds⟩
  · simp at hl
  rcases ds with _ | ⟨x8, ds⟩
  · simp at hl
  rcases ds with _ | ⟨x9, ds⟩
  · simp at hl
  rcases ds with _ | ⟨x10, ds⟩
  · simp at hl
  rcases ds with _ | ⟨x11, ds⟩
  · simp at hl
  rcases ds with _ | ⟨x12, ds⟩
  · simp at hl
  rcases ds with _ | ⟨x13, ds⟩
  · simp at hl
  rcases ds with _ | ⟨y, ds⟩
  rotate_left
  · simp at hl
  exact ⟨_, _, _, _, _, _, _, _, _, _, _, _, _, _, rfl, by simpa using fits_field ty_field64_0 h, by simpa using fits_field ty_field64_1 h, by simpa using fits_field ty_field64_2 h, by simpa using fits_field ty_field64_3 h, by simpa using fits_field ty_field64_4 h, by simpa using fits_field ty_field64_5 h⟩
theorem inv66 {ds : List D} (h : FitsT Tryd.prog 66 ds) : ∃ x0 x1 x2 x3 x4 x5 x6 x7 x8 x9 x10 x11 x12 x13 x14 x15 x16 x17 x18 x19 x20 x21 x22 x23 x24, ds = [x0, x1, x2, x3, x4, x5, x6, x7, x8, x9, x10, x11, x12, x13, x14, x15, x16, x17, x18, x19, x20, x21, x22, x23, x24] ∧ FitsT Tryd.prog 9 [x0] ∧ FitsT Tryd.prog 32 [x1] ∧ FitsT Tryd.prog 58 [x2, x3, x4, x5, x6, x7, x8] ∧ FitsT Tryd.prog 59 [x9] ∧ FitsT Tryd.prog 4 [x10] ∧ FitsT Tryd.prog 64 [x11, x12, x13, x14, x15, x16, x17, x18, x19, x20, x21, x22, x23, x24] := by
  have hl := fits_len ty_field66_0 h
  rw [ty_cells66] at hl
  rcases ds with _ | ⟨x0, ds⟩
  · simp at hl
  rcases ds with _ | ⟨x1, ds⟩
  · simp at hl
  rcases ds with _ | ⟨x2, ds⟩
  · simp at hl
  rcases ds with _ | ⟨x3, ds⟩
  · simp at hl
  rcases ds with _ | ⟨x4, ds⟩
  · simp at hl
  rcases ds with _ | ⟨x5, ds⟩
  · simp at hl
  rcases ds with _ | ⟨x6, ds⟩
  · simp at hl
  rcases ds with _ | ⟨x7, ds⟩
  · simp at hl
  rcases ds with _ | ⟨x8, ds⟩
  · simp at hl
  rcases ds with _ | ⟨x9, ds⟩
  · simp at hl
  rcases ds with _ | ⟨x10, ds⟩
  · simp at hl
  rcases ds with _ | ⟨x11, ds⟩
  · simp at hl
  rcases ds with _ | ⟨x12, ds⟩
  · simp at hl
  rcases ds with _ | ⟨x13, ds⟩
  · simp at hl
  rcases ds with _ | ⟨x14, ds⟩
  · simp at hl
  rcases ds with _ | ⟨x15, ds⟩
  · simp at hl
  rcases ds with _ | ⟨x16, ds⟩
  · simp at hl
  rcases ds with _ | ⟨x17, ds⟩
  · simp at hl
  rcases ds with _ | ⟨x18, ds⟩
  · simp at hl
  rcases ds with _ | ⟨x19, ds⟩
  · simp at hl
  rcases ds with _ | ⟨x20, ds⟩
  · simp at hl
  rcases ds with _ | ⟨x21, ds⟩
  · simp at hl
  rcases ds with _ | ⟨x22, ds⟩
  · simp at hl
  rcases ds with _ | ⟨x23, ds⟩
  · simp at hl
  rcases ds with _ | ⟨x24, ds⟩
  · simp at hl
  rcases ds with _ | ⟨y, ds⟩
  rotate_left
  · simp at hl
  exact ⟨_, _, _, _, _, _, _, _, _, _, _, _, _, _, _, _, _, _, _, _, _, _, _, _, _, rfl, by simpa using fits_field ty_field66_0 h, by simpa using fits_field ty_field66_1 h, by simpa using fits_field ty_field66_2 h, by simpa using fits_field ty_field66_3 h, by simpa using fits_field ty_field66_4 h, by simpa using fits_field ty_field66_5 h⟩
theorem inv76 {ds : List D} (h : FitsT Tryd.prog 76 ds) : ∃ x0 x1, ds = [x0, x1] ∧ FitsT Tryd.prog 9 [x0] ∧ FitsT Tryd.prog 74 [x1] := by
  have hl := fits_len ty_field76_0 h
  rw [ty_cells76] at hl
  rcases ds with _ | ⟨x0, ds⟩
  · simp at hl
  rcases ds with _ | ⟨x1, ds⟩
  · simp at hl
  rcases ds with _ | ⟨y, ds⟩
  rotate_left
  · simp at hl
  exact ⟨_, _, rfl, by simpa using fits_field ty_field76_0 h, by simpa using fits_field ty_field76_1 h⟩
theorem inv88 {ds : List D} (h : FitsT Tryd.prog 88 ds) : ∃ x0 x1 x2 x3, ds = [x0, x1, x2, x3] ∧ FitsT Tryd.prog 9 [x0] ∧ FitsT Tryd.prog 32 [x1] ∧ FitsT Tryd.prog 39 [x2] ∧ FitsT Tryd.prog 86 [x3] := by
  have hl := fits_len ty_field88_0 h
  rw [ty_cells88] at hl
  rcases ds with _ | ⟨x0, ds⟩
  · simp at hl
  rcases ds with _ | ⟨x1, ds⟩
  · simp at hl
  rcases ds with _ | ⟨x2, ds⟩
  · simp at hl
  rcases ds with _ | ⟨x3, ds⟩
  · simp at hl
  rcases ds with _ | ⟨y, ds⟩
  rotate_left
  · simp at hl
  exact ⟨_, _, _, _, rfl, by simpa using fits_field ty_field88_0 h, by simpa using fits_field ty_field88_1 h, by simpa using fits_field ty_field88_2 h, by simpa using fits_field ty_field88_3 h⟩
theorem inv194 {ds : List D} (h : FitsT Tryd.prog 194 ds) : ∃ x0 x1 x2, ds = [x0, x1, x2] ∧ FitsT Tryd.prog 9 [x0] ∧ FitsT Tryd.prog 9 [x1] ∧ FitsT Tryd.prog 192 [x2] := by
  have hl := fits_len ty_field194_0 h
  rw [ty_cells194] at hl
  rcases ds with _ | ⟨x0, ds⟩
  · simp at hl
  rcases ds with _ | ⟨x1, ds⟩
  · simp at hl
  rcases ds with _ | ⟨x2, ds⟩
  · simp at hl
  rcases ds with _ | ⟨y, ds⟩
  rotate_left
  · simp at hl
  exact ⟨_, _, _, rfl, by simpa using fits_field ty_field194_0 h, by simpa using fits_field ty_field194_1 h, by simpa using fits_field ty_field194_2 h⟩
theorem inv196 {ds : List D} (h : FitsT Tryd.prog 196 ds) : ∃ x0 x1 x2 x3 x4 x5 x6 x7 x8 x9 x10 x11, ds = [x0, x1, x2, x3, x4, x5, x6, x7, x8, x9, x10, x11] ∧ FitsT Tryd.prog 9 [x0] ∧ FitsT Tryd.prog 38 [x1, x2, x3, x4, x5, x6, x7, x8, x9] ∧ FitsT Tryd.prog 60 [x10] ∧ FitsT Tryd.prog 27 [x11] := by
  have hl := fits_len ty_field196_0 h
  rw [ty_cells196] at hl
  rcases ds with _ | ⟨x0, ds⟩
  · simp at hl
  rcases ds with _ | ⟨x1, ds⟩
  · simp at hl
  rcases ds with _ | ⟨x2, ds⟩
  · simp at hl
  rcases ds with _ | ⟨x3, ds⟩
  · simp at hl
  rcases ds with _ | ⟨x4, ds⟩
  · simp at hl
  rcases ds with _ | ⟨x5, ds⟩
  · simp at hl
  rcases ds with _ | ⟨x6, ds⟩
  · simp at hl
  rcases ds with _ | ⟨x7, ds⟩
  · simp at hl
  rcases ds with _ | ⟨x8, ds⟩
  · simp at hl
  rcases ds with _ | ⟨x9, ds⟩
  · simp at hl
  rcases ds with _ | ⟨x10, ds⟩
  · simp at hl
  rcases ds with _ | ⟨x11, ds⟩
  · simp at hl
  rcases ds with _ | ⟨y, ds⟩
  rotate_left
  · simp at hl
  exact ⟨_, _, _, _, _, _, _, _, _, _, _, _, rfl, by simpa using fits_field ty_field196_0 h, by simpa using fits_field ty_field196_1 h, by simpa using fits_field ty_field196_2 h, by simpa using fits_field ty_field196_3 h⟩
theorem inv199 {ds : List D} (h : FitsT Tryd.prog 199 ds) : ∃ x0 x1 x2 x3 x4 x5 x6 x7, ds = [x0, x1, x2, x3, x4, x5, x6, x7] ∧ FitsT Tryd.prog 9 [x0] ∧ FitsT Tryd.prog 9 [x1] ∧ FitsT Tryd.prog 74 [x2] ∧ FitsT Tryd.prog 197 [x3] ∧ FitsT Tryd.prog 36 [x4, x5, x6, x7] := by
  have hl := fits_len ty_field199_0 h
  rw [ty_cells199] at hl
  rcases ds with _ | ⟨x0, ds⟩
  · simp at hl
  rcases ds with _ | ⟨x1, ds⟩
  · simp at hl
  rcases ds with _ | ⟨x2, ds⟩
  · simp at hl
  rcases ds with _ | ⟨x3, ds⟩
  · simp at hl
  rcases ds with _ | ⟨x4, ds⟩
  · simp at hl
  rcases ds with _ | ⟨x5, ds⟩
  · simp at hl
  rcases ds with _ | ⟨x6, ds⟩
  · simp at hl
  rcases ds with _ | ⟨x7, ds⟩
  · simp at hl
  rcases ds with _ | ⟨y, ds⟩
  rotate_left
  · simp at hl
  exact ⟨_, _, _, _, _, _, _, _, rfl, by simpa using fits_field ty_field199_0 h, by simpa using fits_field ty_field199_1 h, by simpa using fits_field ty_field199_2 h, by simpa using fits_field ty_field199_3 h, by simpa using fits_field ty_field199_4 h⟩
theorem inv201 {ds : List D} (h : FitsT Tryd.prog 201 ds) : ∃ x0 x1 x2 x3 x4 x5, ds = [x0, x1, x2, x3, x4, x5] ∧ FitsT Tryd.prog 9 [x0] ∧ FitsT Tryd.prog 39 [x1] ∧ FitsT Tryd.prog 36 [x2, x3, x4, x5] := by
  have hl := fits_len ty_field201_0 h
  rw [ty_cells201] at hl
  rcases ds with _ | ⟨x0, ds⟩
  · simp at hl
  rcases ds with _ | ⟨x1, ds⟩
  · simp at hl
  rcases ds with _ | ⟨x2, ds⟩
  · simp at hl
  rcases ds with _ | ⟨x3, ds⟩
  · simp at hl
  rcases ds with _ | ⟨x4, ds⟩
  · simp at hl
  rcases ds with _ | ⟨x5, ds⟩
  · simp at hl
  rcases ds with _ | ⟨y, ds⟩
  rotate_left
  · simp at hl
  exact ⟨_, _, _, _, _, _, rfl, by simpa using fits_field ty_field201_0 h, by simpa using fits_field ty_field201_1 h, by simpa using fits_field ty_field201_2 h⟩
theorem inv203 {ds : List D} (h : FitsT Tryd.prog 203 ds) : ∃ x0 x1 x2 x3 x4 x5 x6 x7 x8 x9, ds = [x0, x1, x2, x3, x4, x5, x6, x7, x8, x9] ∧ FitsT Tryd.prog 9 [x0] ∧ FitsT Tryd.prog 38 [x1, x2, x3, x4, x5, x6, x7, x8, x9] := by
  have hl := fits_len ty_field203_0 h
  rw [ty_cells203] at hl
  rcases ds with _ | ⟨x0, ds⟩
  · simp at hl
  rcases ds with _ | ⟨x1, ds⟩
  · simp at hl
  rcases ds with _ | ⟨x2, ds⟩
  · simp at hl
  rcases ds with _ | ⟨x3, ds⟩
  · simp at hl
  rcases ds with _ | ⟨x4, ds⟩
  · simp at hl
  rcases ds with _ | ⟨x5, ds⟩
  · simp at hl
  rcases ds with _ | ⟨x6, ds⟩
  · simp at hl
  rcases ds with _ | ⟨x7, ds⟩
  · simp at hl
  rcases ds with _ | ⟨x8, ds⟩
  · simp at hl
  rcases ds with _ | ⟨x9, ds⟩
  · simp at hl
  rcases ds with _ | ⟨y, ds⟩
  rotate_left
  · simp at hl
  exact ⟨_, _, _, _, _, _, _, _, _, _, rfl, by simpa using fits_field ty_field203_0 h, by simpa using fits_field ty_field203_1 h⟩
theorem inv205 {ds : List D} (h : FitsT Tryd.prog 205 ds) : ∃ x0 x1 x2 x3 x4 x5 x6 x7 x8, ds = [x0, x1, x2, x3, x4, x5, x6, x7, x8] ∧ FitsT Tryd.prog 9 [x0] ∧ FitsT Tryd.prog 32 [x1] ∧ FitsT Tryd.prog 58 [x2, x3, x4, x5, x6, x7, x8] := by
  have hl := fits_len ty_field205_0 h
  rw [ty_cells205] at hl
  rcases ds with _ | ⟨x0, ds⟩
  · simp at hl
  rcases ds with _ | ⟨x1, ds⟩
  · simp at hl
  rcases ds with _ | ⟨x2, ds⟩
  · simp at hl
  rcases ds with _ | ⟨x3, ds⟩
  · simp at hl
  rcases ds with _ | ⟨x4, ds⟩
  · simp at hl
  rcases ds with _ | ⟨x5, ds⟩
  · simp at hl
  rcases ds with _ | ⟨x6, ds⟩
  · simp at hl
  rcases ds with _ | ⟨x7, ds⟩
  · simp at hl
  rcases ds with _ | ⟨x8, ds⟩
  · simp at hl
  rcases ds with _ | ⟨y, ds⟩
  rotate_left
  · simp at hl
  exact ⟨_, _, _, _, _, _, _, _, _, rfl, by simpa using fits_field ty_field205_0 h, by simpa using fits_field ty_field205_1 h, by simpa using fits_field ty_field205_2 h⟩
theorem inv207 {ds : List D} (h : FitsT Tryd.prog 207 ds) : ∃ x0 x1, ds = [x0, x1] ∧ FitsT Tryd.prog 9 [x0] ∧ FitsT Tryd.prog 9 [x1] := by
  have hl := fits_len ty_field207_0 h
  rw [ty_cells207] at hl
  rcases ds with _ | ⟨x0, ds⟩
  · simp at hl
  rcases ds with _ | ⟨x1, ds⟩
  · simp at hl
  rcases ds with _ | ⟨y, ds⟩
  rotate_left
  · simp at hl
  exact ⟨_, _, rfl, by simpa using fits_field ty_field207_0 h, by simpa using fits_field ty_field207_1 h⟩
theorem inv208 {ds : List D} (h : FitsT Tryd.prog 208 ds) : ∃ x0 x1, ds = [x0, x1] ∧ FitsT Tryd.prog 9 [x0] ∧ FitsT Tryd.prog 74 [x1] := by
  have hl := fits_len ty_field208_0 h
  rw [ty_cells208] at hl
  rcases ds with _ | ⟨x0, ds⟩
  · simp at hl
  rcases ds with _ | ⟨x1, ds⟩
  · simp at hl
  rcases ds with _ | ⟨y, ds⟩
  rotate_left
  · simp at hl
  exact ⟨_, _, rfl, by simpa using fits_field ty_field208_0 h, by simpa using fits_field ty_field208_1 h⟩
theorem inv210 {ds : List D} (h : FitsT Tryd.prog 210 ds) : ∃ x0 x1 x2 x3 x4 x5 x6 x7 x8 x9, ds = [x0, x1, x2, x3, x4, x5, x6, x7, x8, x9] ∧ FitsT Tryd.prog 9 [x0] ∧ FitsT Tryd.prog 39 [x1] ∧ FitsT Tryd.prog 36 [x2, x3, x4, x5] ∧ FitsT Tryd.prog 36 [x6, x7, x8, x9] := by
  have hl := fits_len ty_field210_0 h
  rw [ty_cells210] at hl
  rcases ds with _ | ⟨x0, ds⟩
  · simp at hl
  rcases ds with _ | ⟨x1, ds⟩
  · simp at hl
  rcases ds with _ | ⟨x2, ds⟩
  · simp at hl
  rcases ds with _ | ⟨x3, ds⟩
  · simp at hl
  rcases ds with _ | ⟨x4, ds⟩
  · simp at hl
  rcases ds with _ | ⟨x5, ds⟩
  · simp at hl
  rcases ds with _ | ⟨x6, ds⟩
  · simp at hl
  rcases ds with _ | ⟨x7, ds⟩
  · simp at hl
  rcases ds with _ | ⟨x8, ds⟩
  · simp at hl
  rcases ds with _ | ⟨x9, ds⟩
  · simp at hl
  rcases ds with _ | ⟨y, ds⟩
  rotate_left
  · simp at hl
  exact ⟨_, _, _, _, _, _, _, _, _, _, rfl, by simpa using fits_field ty_field210_0 h, by simpa using fits_field ty_field210_1 h, by simpa using fits_field ty_field210_2 h, by simpa using fits_field ty_field210_3 h⟩
theorem inv212 {ds : List D} (h : FitsT Tryd.prog 212 ds) : ∃ x0 x1 x2, ds = [x0, x1, x2] ∧ FitsT Tryd.prog 9 [x0] ∧ FitsT Tryd.prog 32 [x1] ∧ FitsT Tryd.prog 31 [x2] := by
  have hl := fits_len ty_field212_0 h
  rw [ty_cells212] at hl
  rcases ds with _ | ⟨x0, ds⟩
  · simp at hl
  rcases ds with _ | ⟨x1, ds⟩
  · simp at hl
  rcases ds with _ | ⟨x2, ds⟩
  · simp at hl
  rcases ds with _ | ⟨y, ds⟩
  rotate_left
  · simp at hl
  exact ⟨_, _, _, rfl, by simpa using fits_field ty_field212_0 h, by simpa using fits_field ty_field212_1 h, by simpa using fits_field ty_field212_2 h⟩
theorem inv214 {ds : List D} (h : FitsT Tryd.prog 214 ds) : ∃ x0 x1 x2 x3 x4 x5 x6 x7 x8 x9, ds = [x0, x1, x2, x3, x4, x5, x6, x7, x8, x9] ∧ FitsT Tryd.prog 9 [x0] ∧ FitsT Tryd.prog 38 [x1, x2, x3, x4, x5, x6, x7, x8, x9] := by
  have hl := fits_len ty_field214_0 h
  rw [ty_cells214] at hl
  rcases ds with _ | ⟨x0, ds⟩
  · simp at hl
  rcases ds with _ | ⟨x1, ds⟩
  · simp at hl
  rcases ds with _ | ⟨x2, ds⟩
  · simp at hl
  rcases ds with _ | ⟨x3, ds⟩
  · simp at hl
  rcases ds with _ | ⟨x4, ds⟩
  · simp at hl
  rcases ds with _ | ⟨x5, ds⟩
  · simp at hl
  rcases ds with _ | ⟨x6, ds⟩
  · simp at hl
  rcases ds with _ | ⟨x7, ds⟩
  · simp at hl
  rcases ds with _ | ⟨x8, ds⟩
  · simp at hl
  rcases ds with _ | ⟨x9, ds⟩
  · simp at hl
  rcases ds with _ | ⟨y, ds⟩
  rotate_left
  · simp at hl
  exact ⟨_, _, _, _, _, _, _, _, _, _, rfl, by simpa using fits_field ty_field214_0 h, by simpa using fits_field ty_field214_1 h⟩
theorem inv216 {ds : List D} (h : FitsT Tryd.prog 216 ds) : ∃ x0 x1 x2 x3 x4 x5, ds = [x0, x1, x2, x3, x4, x5] ∧ FitsT Tryd.prog 9 [x0] ∧ FitsT Tryd.prog 32 [x1] ∧ FitsT Tryd.prog 36 [x2, x3, x4, x5] := by
  have hl := fits_len ty_field216_0 h
  rw [ty_cells216] at hl
  rcases ds with _ | ⟨x0, ds⟩
  · simp at hl
  rcases ds with _ | ⟨x1, ds⟩
  · simp at hl
  rcases ds with _ | ⟨x2, ds⟩
  · simp at hl
  rcases ds with _ | ⟨x3, ds⟩
  · simp at hl
  rcases ds with _ | ⟨x4, ds⟩
  · simp at hl
  rcases ds with _ | ⟨x5, ds⟩
  · simp at hl
  rcases ds with _ | ⟨y, ds⟩
  rotate_left
  · simp at hl
  exact ⟨_, _, _, _, _, _, rfl, by simpa using fits_field ty_field216_0 h, by simpa using fits_field ty_field216_1 h, by simpa using fits_field ty_field216_2 h⟩
end Go.Proofs.YtmjpdmkgmlhfaaaDoor
