/- What fits the plain types of this translation, one fact each. By a program of ours. No condition. -/
import Derived.Test.YtbacejmdgfalpaaDoorZ3
import Derived.Test.YtbacejmdgfalpaaDoorTy
set_option linter.unusedVariables false
set_option linter.unusedSimpArgs false
namespace Go.Proofs.YtbacejmdgfalpaaDoor
open Go Go.VM
/-- The types of plain data that come in. -/
def TL : List TypeId := [3, 4, 9, 22, 23, 24, 25, 26, 27, 29, 34, 35, 36, 37, 38, 39, 41, 43, 48, 49, 50, 52, 57, 60, 61, 62, 63, 65, 66, 68, 73, 75, 77, 121, 138, 139, 141, 142, 143, 145, 147, 149, 151, 152, 154, 156, 158, 160]
theorem hplain : plainOk Tryd.prog TL = true := by kernel_rfl
theorem hlo : laidOutB Tryd.prog = true := by kernel_rfl
theorem hmr : mapsRowed Tryd.prog = true := by kernel_rfl
theorem hsf : ((List.range Tryd.prog.types.size).all fun t => match Tryd.prog.underlying t with | some (.slice e) => decide (0 < Tryd.prog.cellsOf e) | _ => true) = true := by kernel_rfl
theorem hown : ownKnob Tryd.prog.godebug = none := by kernel_rfl
theorem tu3 : Tryd.prog.underlying 3 = some (.int .i64) := by kernel_rfl
theorem tu4 : Tryd.prog.underlying 4 = some .bool := by kernel_rfl
theorem tu9 : Tryd.prog.underlying 9 = some .string := by kernel_rfl
theorem tu35 : Tryd.prog.underlying 35 = some (.int .i64) := by kernel_rfl
theorem tu38 : Tryd.prog.underlying 38 = some (.int .i64) := by kernel_rfl
theorem tu60 : Tryd.prog.underlying 60 = some (.int .i64) := by kernel_rfl
theorem tu66 : Tryd.prog.underlying 66 = some (.int .i64) := by kernel_rfl
theorem tu142 : Tryd.prog.underlying 142 = some .string := by kernel_rfl
theorem inv29 {ds : List D} (h : FitsT Tryd.prog 29 ds) : ∃ x0 x1 x2 x3 x4 x5, ds = [x0, x1, x2, x3, x4, x5] ∧ FitsT Tryd.prog 22 [x0] ∧ FitsT Tryd.prog 23 [x1] ∧ FitsT Tryd.prog 24 [x2] ∧ FitsT Tryd.prog 25 [x3] ∧ FitsT Tryd.prog 26 [x4] ∧ FitsT Tryd.prog 27 [x5] := by
  have hl := fits_len ty_field29_0 h
  rw [ty_cells29] at hl
  rcases ds with _ | ⟨x0, ds⟩
  · simp at hl
  rcases ds with _ | ⟨x1, ds⟩
  · simp at hl
  rcases ds with _ | ⟨x2, ds⟩
  · simp at hl
  rcases ds with _ | ⟨x3, ds⟩
  · simp at hl
  rcases ds with _ | ⟨x4, ds⟩
  · simp at hl
  rcases ds with _ | ⟨x5, ds⟩
  · simp at hl
  rcases ds with _ | ⟨y, ds⟩
  rotate_left
  · simp at hl
  exact ⟨_, _, _, _, _, _, rfl, by simpa using fits_field ty_field29_0 h, by simpa using fits_field ty_field29_1 h, by simpa using fits_field ty_field29_2 h, by simpa using fits_field ty_field29_3 h, by simpa using fits_field ty_field29_4 h, by simpa using fits_field ty_field29_5 h⟩
theorem inv41 {ds : List D} (h : FitsT Tryd.prog 41 ds) : ∃ x0 x1 x2 x3, ds = [x0, x1, x2, x3] ∧ FitsT Tryd.prog 38 [x0] ∧ FitsT Tryd.prog 9 [x1] ∧ FitsT Tryd.prog 3 [x2] ∧ FitsT Tryd.prog 39 [x3] := by
  have hl := fits_len ty_field41_0 h
  rw [ty_cells41] at hl
  rcases ds with _ | ⟨x0, ds⟩
  · simp at hl
  rcases ds with _ | ⟨x1, ds⟩
  · simp at hl
  rcases ds with _ | ⟨x2, ds⟩
  · simp at hl
  rcases ds with _ | ⟨x3, ds⟩
  · simp at hl
  rcases ds with _ | ⟨y, ds⟩
  rotate_left
  · simp at hl
  exact ⟨_, _, _, _, rfl, by simpa using fits_field ty_field41_0 h, by simpa using fits_field ty_field41_1 h, by simpa using fits_field ty_field41_2 h, by simpa using fits_field ty_field41_3 h⟩
theorem inv43 {ds : List D} (h : FitsT Tryd.prog 43 ds) : ∃ x0 x1 x2 x3 x4 x5 x6 x7 x8, ds = [x0, x1, x2, x3, x4, x5, x6, x7, x8] ∧ FitsT Tryd.prog 35 [x0] ∧ FitsT Tryd.prog 9 [x1] ∧ FitsT Tryd.prog 36 [x2] ∧ FitsT Tryd.prog 37 [x3] ∧ FitsT Tryd.prog 41 [x4, x5, x6, x7] ∧ FitsT Tryd.prog 39 [x8] := by
  have hl := fits_len ty_field43_0 h
  rw [ty_cells43] at hl
  rcases ds with _ | ⟨x0, ds⟩
  · simp at hl
  rcases ds with _ | ⟨x1, ds⟩
  · simp at hl
  rcases ds with _ | ⟨x2, ds⟩
  · simp at hl
  rcases ds with _ | ⟨x3, ds⟩
  · simp at hl
  rcases ds with _ | ⟨x4, ds⟩
  · simp at hl
  rcases ds with _ | ⟨x5, ds⟩
  · simp at hl
  rcases ds with _ | ⟨x6, ds⟩
  · simp at hl
  rcases ds with _ | ⟨x7, ds⟩
  · simp at hl
  rcases ds with _ | ⟨x8, ds⟩
  · simp at hl
  rcases ds with _ | ⟨y, ds⟩
  rotate_left
  · simp at hl
  exact ⟨_, _, _, _, _, _, _, _, _, rfl, by simpa using fits_field ty_field43_0 h, by simpa using fits_field ty_field43_1 h, by simpa using fits_field ty_field43_2 h, by simpa using fits_field ty_field43_3 h, by simpa using fits_field ty_field43_4 h, by simpa using fits_field ty_field43_5 h⟩
theorem inv48 {ds : List D} (h : FitsT Tryd.prog 48 ds) : ∃ x0 x1, ds = [x0, x1] ∧ FitsT Tryd.prog 9 [x0] ∧ FitsT Tryd.prog 9 [x1] := by
  have hl := fits_len ty_field48_0 h
  rw [ty_cells48] at hl
  rcases ds with _ | ⟨x0, ds⟩
  · simp at hl
  rcases ds with _ | ⟨x1, ds⟩
  · simp at hl
  rcases ds with _ | ⟨y, ds⟩
  rotate_left
  · simp at hl
  exact ⟨_, _, rfl, by simpa using fits_field ty_field48_0 h, by simpa using fits_field ty_field48_1 h⟩
theorem inv52 {ds : List D} (h : FitsT Tryd.prog 52 ds) : ∃ x0 x1 x2 x3 x4 x5 x6 x7 x8 x9 x10 x11 x12 x13, ds = [x0, x1, x2, x3, x4, x5, x6, x7, x8, x9, x10, x11, x12, x13] ∧ FitsT Tryd.prog 37 [x0] ∧ FitsT Tryd.prog 34 [x1] ∧ FitsT Tryd.prog 49 [x2] ∧ FitsT Tryd.prog 50 [x3] ∧ FitsT Tryd.prog 43 [x4, x5, x6, x7, x8, x9, x10, x11, x12] ∧ FitsT Tryd.prog 39 [x13] := by
  have hl := fits_len ty_field52_0 h
  rw [ty_cells52] at hl
  rcases ds with _ | ⟨x0, ds⟩
  · simp at hl
  rcases ds with _ | ⟨x1, ds⟩
  · simp at hl
  rcases ds with _ | ⟨x2, ds⟩
  · simp at hl
  rcases ds with _ | ⟨x3, ds⟩
  · simp at hl
  rcases ds with _ | ⟨x4, ds⟩
  · simp at hl
  rcases ds with _ | ⟨x5, ds⟩
  · simp at hl
  rcases ds with _ | ⟨x6, ds⟩
  · simp at hl
  rcases ds with _ | ⟨x7, ds⟩
  · simp at hl
  rcases ds with _ | ⟨x8, ds⟩
  · simp at hl
  rcases ds with _ | ⟨x9, ds⟩
  · simp at hl
  rcases ds with _ | ⟨x10, ds⟩
  · simp at hl
  rcases ds with _ | ⟨x11, ds⟩
  · simp at hl
  rcases ds with _ | ⟨x12, ds⟩
  · simp at hl
  rcases ds with _ | ⟨x13, ds⟩
  · simp at hl
  rcases ds with _ | ⟨y, ds⟩
  rotate_left
  · simp at hl
  exact ⟨_, _, _, _, _, _, _, _, _, _, _, _, _, _, rfl, by simpa using fits_field ty_field52_0 h, by simpa using fits_field ty_field52_1 h, by simpa using fits_field ty_field52_2 h, by simpa using fits_field ty_field52_3 h, by simpa using fits_field ty_field52_4 h, by simpa using fits_field ty_field52_5 h⟩
theorem inv57 {ds : List D} (h : FitsT Tryd.prog 57 ds) : ∃ x0 x1 x2 x3 x4 x5 x6 x7 x8 x9 x10 x11, ds = [x0, x1, x2, x3, x4, x5, x6, x7, x8, x9, x10, x11] ∧ FitsT Tryd.prog 9 [x0] ∧ FitsT Tryd.prog 43 [x1, x2, x3, x4, x5, x6, x7, x8, x9] ∧ FitsT Tryd.prog 34 [x10] ∧ FitsT Tryd.prog 27 [x11] := by
  have hl := fits_len ty_field57_0 h
  rw [ty_cells57] at hl
  rcases ds with _ | ⟨x0, ds⟩
  · simp at hl
  rcases ds with _ | ⟨x1, ds⟩
  · simp at hl
  rcases ds with _ | ⟨x2, ds⟩
  · simp at hl
  rcases ds with _ | ⟨x3, ds⟩
  · simp at hl
  rcases ds with _ | ⟨x4, ds⟩
  · simp at hl
  rcases ds with _ | ⟨x5, ds⟩
  · simp at hl
  rcases ds with _ | ⟨x6, ds⟩
  · simp at hl
  rcases ds with _ | ⟨x7, ds⟩
  · simp at hl
  rcases ds with _ | ⟨x8, ds⟩
  · simp at hl
  rcases ds with _ | ⟨x9, ds⟩
  · simp at hl
  rcases ds with _ | ⟨x10, ds⟩
  · simp at hl
  rcases ds with _ | ⟨x11, ds⟩
  · simp at hl
  rcases ds with _ | ⟨y, ds⟩
  rotate_left
  · simp at hl
  exact ⟨_, _, _, _, _, _, _, _, _, _, _, _, rfl, by simpa using fits_field ty_field57_0 h, by simpa using fits_field ty_field57_1 h, by simpa using fits_field ty_field57_2 h, by simpa using fits_field ty_field57_3 h⟩
theorem inv65 {ds : List D} (h : FitsT Tryd.prog 65 ds) : ∃ x0 x1 x2 x3 x4 x5 x6, ds = [x0, x1, x2, x3, x4, x5, x6] ∧ FitsT Tryd.prog 60 [x0] ∧ FitsT Tryd.prog 9 [x1] ∧ FitsT Tryd.prog 3 [x2] ∧ FitsT Tryd.prog 61 [x3] ∧ FitsT Tryd.prog 62 [x4] ∧ FitsT Tryd.prog 63 [x5] ∧ FitsT Tryd.prog 36 [x6] := by
  have hl := fits_len ty_field65_0 h
  rw [ty_cells65] at hl
  rcases ds with _ | ⟨x0, ds⟩
  · simp at hl
  rcases ds with _ | ⟨x1, ds⟩
  · simp at hl
  rcases ds with _ | ⟨x2, ds⟩
  · simp at hl
  rcases ds with _ | ⟨x3, ds⟩
  · simp at hl
  rcases ds with _ | ⟨x4, ds⟩
  · simp at hl
  rcases ds with _ | ⟨x5, ds⟩
  · simp at hl
  rcases ds with _ | ⟨x6, ds⟩
  · simp at hl
  rcases ds with _ | ⟨y, ds⟩
  rotate_left
  · simp at hl
  exact ⟨_, _, _, _, _, _, _, rfl, by simpa using fits_field ty_field65_0 h, by simpa using fits_field ty_field65_1 h, by simpa using fits_field ty_field65_2 h, by simpa using fits_field ty_field65_3 h, by simpa using fits_field ty_field65_4 h, by simpa using fits_field ty_field65_5 h, by simpa using fits_field ty_field65_6 h⟩
theorem inv68 {ds : List D} (h : FitsT Tryd.prog 68 ds) : ∃ x0 x1 x2 x3 x4 x5 x6 x7 x8 x9 x10 x11 x12 x13 x14 x15 x16 x17 x18 x19 x20 x21 x22 x23 x24, ds = [x0, x1, x2, x3, x4, x5, x6, x7, x8, x9, x10, x11, x12, x13, x14, x15, x16, x17, x18, x19, x20, x21, x22, x23, x24] ∧ FitsT Tryd.prog 9 [x0] ∧ FitsT Tryd.prog 37 [x1] ∧ FitsT Tryd.prog 65 [x2, x3, x4, x5, x6, x7, x8] ∧ FitsT Tryd.prog 66 [x9] ∧ FitsT Tryd.prog 4 [x10] ∧ FitsT Tryd.prog 52 [x11, x12, x13, x14, x15, x16, x17, x18, x19, x20, x21, x22, x23, x24] := by
  have hl := fits_len ty_field68_0 h
  rw [ty_cells68] at hl
  rcases ds with _ | ⟨x0, ds⟩
  · simp at hl
  rcases ds with _ | ⟨x1, ds⟩
  · simp at hl
  rcases ds with _ | ⟨x2, ds⟩
  · simp at hl
  rcases ds with _ | ⟨x3, ds⟩
  · simp at hl
  rcases ds with _ | ⟨x4, ds⟩
  · simp at hl
  rcases ds with _ | ⟨x5, ds⟩
  · simp at hl
  rcases ds with _ | ⟨x6, ds⟩
  · simp at hl
  rcases ds with _ | ⟨x7, ds⟩
  · simp at hl
  rcases ds with _ | ⟨x8, ds⟩
  · simp at hl
  rcases ds with _ | ⟨x9, ds⟩
  · simp at hl
  rcases ds with _ | ⟨x10, ds⟩
  · simp at hl
  rcases ds with _ | ⟨x11, ds⟩
  · simp at hl
  rcases ds with _ | ⟨x12, ds⟩
  · simp at hl
  rcases ds with _ | ⟨x13, ds⟩
  · simp at hl
  rcases ds with _ | ⟨x14, ds⟩
  · simp at hl
  rcases ds with _ | ⟨x15, ds⟩
  · simp at hl
  rcases ds with _ | ⟨x16, ds⟩
  · simp at hl
  rcases ds with _ | ⟨x17, ds⟩
  · simp at hl
  rcases ds with _ | ⟨x18, ds⟩
  · simp at hl
  rcases ds with _ | ⟨x19, ds⟩
  · simp at hl
  rcases ds with _ | ⟨x20, ds⟩
  · simp at hl
  rcases ds with _ | ⟨x21, ds⟩
  · simp at hl
  rcases ds with _ | ⟨x22, ds⟩
  · simp at hl
  rcases ds with _ | ⟨x23, ds⟩
  · simp at hl
  rcases ds with _ | ⟨x24, ds⟩
  · simp at hl
  rcases ds with _ | ⟨y, ds⟩
  rotate_left
  · simp at hl
  exact ⟨_, _, _, _, _, _, _, _, _, _, _, _, _, _, _, _, _, _, _, _, _, _, _, _, _, rfl, by simpa using fits_field ty_field68_0 h, by simpa using fits_field ty_field68_1 h, by simpa using fits_field ty_field68_2 h, by simpa using fits_field ty_field68_3 h, by simpa using fits_field ty_field68_4 h, by simpa using fits_field ty_field68_5 h⟩
theorem inv75 {ds : List D} (h : FitsT Tryd.prog 75 ds) : ∃ x0 x1 x2, ds = [x0, x1, x2] ∧ FitsT Tryd.prog 9 [x0] ∧ FitsT Tryd.prog 9 [x1] ∧ FitsT Tryd.prog 73 [x2] := by
  have hl := fits_len ty_field75_0 h
  rw [ty_cells75] at hl
  rcases ds with _ | ⟨x0, ds⟩
  · simp at hl
  rcases ds with _ | ⟨x1, ds⟩
  · simp at hl
  rcases ds with _ | ⟨x2, ds⟩
  · simp at hl
  rcases ds with _ | ⟨y, ds⟩
  rotate_left
  · simp at hl
  exact ⟨_, _, _, rfl, by simpa using fits_field ty_field75_0 h, by simpa using fits_field ty_field75_1 h, by simpa using fits_field ty_field75_2 h⟩
theorem inv77 {ds : List D} (h : FitsT Tryd.prog 77 ds) : ∃ x0 x1 x2 x3 x4 x5 x6 x7 x8 x9, ds = [x0, x1, x2, x3, x4, x5, x6, x7, x8, x9] ∧ FitsT Tryd.prog 9 [x0] ∧ FitsT Tryd.prog 43 [x1, x2, x3, x4, x5, x6, x7, x8, x9] := by
  have hl := fits_len ty_field77_0 h
  rw [ty_cells77] at hl
  rcases ds with _ | ⟨x0, ds⟩
  · simp at hl
  rcases ds with _ | ⟨x1, ds⟩
  · simp at hl
  rcases ds with _ | ⟨x2, ds⟩
  · simp at hl
  rcases ds with _ | ⟨x3, ds⟩
  · simp at hl
  rcases ds with _ | ⟨x4, ds⟩
  · simp at hl
  rcases ds with _ | ⟨x5, ds⟩
  · simp at hl
  rcases ds with _ | ⟨x6, ds⟩
  · simp at hl
  rcases ds with _ | ⟨x7, ds⟩
  · simp at hl
  rcases ds with _ | ⟨x8, ds⟩
  · simp at hl
  rcases ds with _ | ⟨x9, ds⟩
  · simp at hl
  rcases ds with _ | ⟨y, ds⟩
  rotate_left
  · simp at hl
  exact ⟨_, _, _, _, _, _, _, _, _, _, rfl, by simpa using fits_field ty_field77_0 h, by simpa using fits_field ty_field77_1 h⟩
theorem inv141 {ds : List D} (h : FitsT Tryd.prog 141 ds) : ∃ x0 x1 x2 x3, ds = [x0, x1, x2, x3] ∧ FitsT Tryd.prog 9 [x0] ∧ FitsT Tryd.prog 37 [x1] ∧ FitsT Tryd.prog 138 [x2] ∧ FitsT Tryd.prog 139 [x3] := by
  have hl := fits_len ty_field141_0 h
  rw [ty_cells141] at hl
  rcases ds with _ | ⟨x0, ds⟩
  · simp at hl
  rcases ds with _ | ⟨x1, ds⟩
  · simp at hl
  rcases ds with _ | ⟨x2, ds⟩
  · simp at hl
  rcases ds with _ | ⟨x3, ds⟩
  · simp at hl
  rcases ds with _ | ⟨y, ds⟩
  rotate_left
  · simp at hl
  exact ⟨_, _, _, _, rfl, by simpa using fits_field ty_field141_0 h, by simpa using fits_field ty_field141_1 h, by simpa using fits_field ty_field141_2 h, by simpa using fits_field ty_field141_3 h⟩
theorem inv145 {ds : List D} (h : FitsT Tryd.prog 145 ds) : ∃ x0 x1 x2 x3 x4 x5 x6 x7, ds = [x0, x1, x2, x3, x4, x5, x6, x7] ∧ FitsT Tryd.prog 9 [x0] ∧ FitsT Tryd.prog 9 [x1] ∧ FitsT Tryd.prog 142 [x2] ∧ FitsT Tryd.prog 143 [x3] ∧ FitsT Tryd.prog 41 [x4, x5, x6, x7] := by
  have hl := fits_len ty_field145_0 h
  rw [ty_cells145] at hl
  rcases ds with _ | ⟨x0, ds⟩
  · simp at hl
  rcases ds with _ | ⟨x1, ds⟩
  · simp at hl
  rcases ds with _ | ⟨x2, ds⟩
  · simp at hl
  rcases ds with _ | ⟨x3, ds⟩
  · simp at hl
  rcases ds with _ | ⟨x4, ds⟩
  · simp at hl
  rcases ds with _ | ⟨x5, ds⟩
  · simp at hl
  rcases ds with _ | ⟨x6, ds⟩
  · simp at hl
  rcases ds with _ | ⟨x7, ds⟩
  · simp at hl
  rcases ds with _ | ⟨y, ds⟩
  rotate_left
  · simp at hl
  exact ⟨_, _, _, _, _, _, _, _, rfl, by simpa using fits_field ty_field145_0 h, by simpa using fits_field ty_field145_1 h, by simpa using fits_field ty_field145_2 h, by simpa using fits_field ty_field145_3 h, by simpa using fits_field ty_field145_4 h⟩
theorem inv147 {ds : List D} (h : FitsT Tryd.prog 147 ds) : ∃ x0 x1 x2 x3 x4 x5, ds = [x0, x1, x2, x3, x4, x5] ∧ FitsT Tryd.prog 9 [x0] ∧ FitsT Tryd.prog 138 [x1] ∧ FitsT Tryd.prog 41 [x2, x3, x4, x5] := by
  have hl := fits_len ty_field147_0 h
  rw [ty_cells147] at hl
  rcases ds with _ | ⟨x0, ds⟩
  · simp at hl
  rcases ds with _ | ⟨x1, ds⟩
  · simp at hl
  rcases ds with _ | ⟨x2, ds⟩
  · simp at hl
  rcases ds with _ | ⟨x3, ds⟩
  · simp at hl
  rcases ds with _ | ⟨x4, ds⟩
  · simp at hl
  rcases ds with _ | ⟨x5, ds⟩
  · simp at hl
  rcases ds with _ | ⟨y, ds⟩
  rotate_left
  · simp at hl
  exact ⟨_, _, _, _, _, _, rfl, by simpa using fits_field ty_field147_0 h, by simpa using fits_field ty_field147_1 h, by simpa using fits_field ty_field147_2 h⟩
theorem inv149 {ds : List D} (h : FitsT Tryd.prog 149 ds) : ∃ x0 x1, ds = [x0, x1] ∧ FitsT Tryd.prog 9 [x0] ∧ FitsT Tryd.prog 142 [x1] := by
  have hl := fits_len ty_field149_0 h
  rw [ty_cells149] at hl
  rcases ds with _ | ⟨x0, ds⟩
  · simp at hl
  rcases ds with _ | ⟨x1, ds⟩
  · simp at hl
  rcases ds with _ | ⟨y, ds⟩
  rotate_left
  · simp at hl
  exact ⟨_, _, rfl, by simpa using fits_field ty_field149_0 h, by simpa using fits_field ty_field149_1 h⟩
theorem inv151 {ds : List D} (h : FitsT Tryd.prog 151 ds) : ∃ x0 x1 x2 x3 x4 x5 x6 x7 x8 x9, ds = [x0, x1, x2, x3, x4, x5, x6, x7, x8, x9] ∧ FitsT Tryd.prog 9 [x0] ∧ FitsT Tryd.prog 138 [x1] ∧ FitsT Tryd.prog 41 [x2, x3, x4, x5] ∧ FitsT Tryd.prog 41 [x6, x7, x8, x9] := by
  have hl := fits_len ty_field151_0 h
  rw [ty_cells151] at hl
  rcases ds with _ | ⟨x0, ds⟩
  · simp at hl
  rcases ds with _ | ⟨x1, ds⟩
  · simp at hl
  rcases ds with _ | ⟨x2, ds⟩
  · simp at hl
  rcases ds with _ | ⟨x3, ds⟩
  · simp at hl
  rcases ds with _ | ⟨x4, ds⟩
  · simp at hl
  rcases ds with _ | ⟨x5, ds⟩
  · simp at hl
  rcases ds with _ | ⟨x6, ds⟩
  · simp at hl
  rcases ds with _ | ⟨x7, ds⟩
  · simp at hl
  rcases ds with _ | ⟨x8, ds⟩
  · simp at hl
  rcases ds with _ | ⟨x9, ds⟩
  · simp at hl
  rcases ds with _ | ⟨y, ds⟩
  rotate_left
  · simp at hl
  exact ⟨_, _, _, _, _, _, _, _, _, _, rfl, by simpa using fits_field ty_field151_0 h, by simpa using fits_field ty_field151_1 h, by simpa using fits_field ty_field151_2 h, by simpa using fits_field ty_field151_3 h⟩
theorem inv152 {ds : List D} (h : FitsT Tryd.prog 152 ds) : ∃ x0 x1 x2 x3 x4 x5 x6 x7 x8 x9, ds = [x0, x1, x2, x3, x4, x5, x6, x7, x8, x9] ∧ FitsT Tryd.prog 9 [x0] ∧ FitsT Tryd.prog 43 [x1, x2, x3, x4, x5, x6, x7, x8, x9] := by
  have hl := fits_len ty_field152_0 h
  rw [ty_cells152] at hl
  rcases ds with _ | ⟨x0, ds⟩
  · simp at hl
  rcases ds with _ | ⟨x1, ds⟩
  · simp at hl
  rcases ds with _ | ⟨x2, ds⟩
  · simp at hl
  rcases ds with _ | ⟨x3, ds⟩
  · simp at hl
  rcases ds with _ | ⟨x4, ds⟩
  · simp at hl
  rcases ds with _ | ⟨x5, ds⟩
  · simp at hl
  rcases ds with _ | ⟨x6, ds⟩
  · simp at hl
  rcases ds with _ | ⟨x7, ds⟩
  · simp at hl
  rcases ds with _ | ⟨x8, ds⟩
  · simp at hl
  rcases ds with _ | ⟨x9, ds⟩
  · simp at hl
  rcases ds with _ | ⟨y, ds⟩
  rotate_left
  · simp at hl
  exact ⟨_, _, _, _, _, _, _, _, _, _, rfl, by simpa using fits_field ty_field152_0 h, by simpa using fits_field ty_field152_1 h⟩
theorem inv154 {ds : List D} (h : FitsT Tryd.prog 154 ds) : ∃ x0 x1 x2 x3 x4 x5 x6 x7 x8, ds = [x0, x1, x2, x3, x4, x5, x6, x7, x8] ∧ FitsT Tryd.prog 9 [x0] ∧ FitsT Tryd.prog 37 [x1] ∧ FitsT Tryd.prog 65 [x2, x3, x4, x5, x6, x7, x8] := by
  have hl := fits_len ty_field154_0 h
  rw [ty_cells154] at hl
  rcases ds with _ | ⟨x0, ds⟩
  · simp at hl
  rcases ds with _ | ⟨x1, ds⟩
  · simp at hl
  rcases ds with _ | ⟨x2, ds⟩
  · simp at hl
  rcases ds with _ | ⟨x3, ds⟩
  · simp at hl
  rcases ds with _ | ⟨x4, ds⟩
  · simp at hl
  rcases ds with _ | ⟨x5, ds⟩
  · simp at hl
  rcases ds with _ | ⟨x6, ds⟩
  · simp at hl
  rcases ds with _ | ⟨x7, ds⟩
  · simp at hl
  rcases ds with _ | ⟨x8, ds⟩
  · simp at hl
  rcases ds with _ | ⟨y, ds⟩
  rotate_left
  · simp at hl
  exact ⟨_, _, _, _, _, _, _, _, _, rfl, by simpa using fits_field ty_field154_0 h, by simpa using fits_field ty_field154_1 h, by simpa using fits_field ty_field154_2 h⟩
theorem inv156 {ds : List D} (h : FitsT Tryd.prog 156 ds) : ∃ x0 x1, ds = [x0, x1] ∧ FitsT Tryd.prog 9 [x0] ∧ FitsT Tryd.prog 142 [x1] := by
  have hl := fits_len ty_field156_0 h
  rw [ty_cells156] at hl
  rcases ds with _ | ⟨x0, ds⟩
  · simp at hl
  rcases ds with _ | ⟨x1, ds⟩
  · simp at hl
  rcases ds with _ | ⟨y, ds⟩
  rotate_left
  · simp at hl
  exact ⟨_, _, rfl, by simpa using fits_field ty_field156_0 h, by simpa using fits_field ty_field156_1 h⟩
theorem inv158 {ds : List D} (h : FitsT Tryd.prog 158 ds) : ∃ x0 x1 x2, ds = [x0, x1, x2] ∧ FitsT Tryd.prog 9 [x0] ∧ FitsT Tryd.prog 37 [x1] ∧ FitsT Tryd.prog 36 [x2] := by
  have hl := fits_len ty_field158_0 h
  rw [ty_cells158] at hl
  rcases ds with _ | ⟨x0, ds⟩
  · simp at hl
  rcases ds with _ | ⟨x1, ds⟩
  · simp at hl
  rcases ds with _ | ⟨x2, ds⟩
  · simp at hl
  rcases ds with _ | ⟨y, ds⟩
  rotate_left
  · simp at hl
  exact ⟨_, _, _, rfl, by simpa using fits_field ty_field158_0 h, by simpa using fits_field ty_field158_1 h, by simpa using fits_field ty_field158_2 h⟩
theorem inv160 {ds : List D} (h : FitsT Tryd.prog 160 ds) : ∃ x0 x1 x2 x3 x4 x5, ds = [x0, x1, x2, x3, x4, x5] ∧ FitsT Tryd.prog 9 [x0] ∧ FitsT Tryd.prog 37 [x1] ∧ FitsT Tryd.prog 41 [x2, x3, x4, x5] := by
  have hl := fits_len ty_field160_0 h
  rw [ty_cells160] at hl
  rcases ds with _ | ⟨x0, ds⟩
  · simp at hl
  rcases ds with _ | ⟨x1, ds⟩
  · simp at hl
  rcases ds with _ | ⟨x2, ds⟩
  · simp at hl
  rcases ds with _ | ⟨x3, ds⟩
  · simp at hl
  rcases ds with _ | ⟨x4, ds⟩
  · simp at hl
  rcases ds with _ | ⟨x5, ds⟩
  · simp at hl
  rcases ds with _ | ⟨y, ds⟩
  rotate_left
  · simp at hl
  exact ⟨_, _, _, _, _, _, rfl, by simpa using fits_field ty_field160_0 h, by simpa using fits_field ty_field160_1 h, by simpa using fits_field ty_field160_2 h⟩
end Go.Proofs.YtbacejmdgfalpaaDoor
