/- What environments come in. No condition. -/
import Derived.Test.YthhfdlhbhfkbdaaDoorSj
import Derived.Test.YthhfdlhbhfkbdaaDoorFit
set_option linter.unusedVariables false
set_option linter.unusedSimpArgs false
set_option linter.unusedSectionVars false
namespace Go.Proofs.YthhfdlhbhfkbdaaDoor
open Go Go.VM
set_option maxRecDepth 100000
set_option maxHeartbeats 8000000
theorem fit_str1 {x : List D} (h : FitsT Tryd.prog 9 x) : ∃ s, x = [.str s] := by
  obtain ⟨s, h1, _⟩ := fits_str tu9 h
  exact ⟨s, h1⟩
theorem fit_sort1 {x : List D} (h : FitsT Tryd.prog 22 x) : ∃ s, x = [.str s] := by
  obtain ⟨s, h1, _⟩ := fits_str tu22 h
  exact ⟨s, h1⟩
theorem fit_var {x : List D} (h : FitsT Tryd.prog 62 x) : ∃ y, x = varC y := by
  obtain ⟨a, b, rfl, h1, h2⟩ := inv62 h
  obtain ⟨s, h1⟩ := fit_str1 h1
  obtain ⟨t, h2⟩ := fit_sort1 h2
  cases h1; cases h2
  exact ⟨(s, t), rfl⟩
theorem fit_vars {x : List D} (h : FitsT Tryd.prog 32 x) : ∃ l, x = [.sl (varsC l)] := by
  obtain ⟨es, rfl, _, h2⟩ := fits_sl ty_elem32 h
  obtain ⟨l, rfl⟩ := exists_map fun y hy => fit_var (h2 y hy)
  exact ⟨l, rfl⟩
theorem fit_sorts {x : List D} (h : FitsT Tryd.prog 23 x) : ∃ l, x = [.sl (strs l)] := by
  obtain ⟨es, rfl, _, h2⟩ := fits_sl ty_elem23 h
  obtain ⟨l, rfl⟩ := exists_map (f := fun s => [D.str s]) fun y hy => fit_sort1 (h2 y hy)
  exact ⟨l, rfl⟩
theorem fit_sym {x : List D} (h : FitsT Tryd.prog 25 x) : ∃ y, x = symC y := by
  obtain ⟨a, b, c, rfl, h1, h2, h3⟩ := inv25 h
  obtain ⟨s, h1⟩ := fit_str1 h1
  obtain ⟨l, h2⟩ := fit_sorts h2
  obtain ⟨r, h3⟩ := fit_sort1 h3
  cases h1; cases h2; cases h3
  exact ⟨⟨s, l, r⟩, rfl⟩
theorem fit_hole {x : List D} (h : FitsT Tryd.prog 44 x) : ∃ y, x = holeC y := by
  obtain ⟨a, b, rfl, h1, h2⟩ := inv44 h
  obtain ⟨s, h1⟩ := fit_str1 h1
  obtain ⟨l, h2⟩ := fit_vars h2
  cases h1; cases h2
  exact ⟨⟨s, l⟩, rfl⟩
theorem fit_syms {x : List D} (h : FitsT Tryd.prog 33 x) : ∃ l, x = [.sl (symsC l)] := by
  obtain ⟨es, rfl, _, h2⟩ := fits_sl ty_elem33 h
  obtain ⟨l, rfl⟩ := exists_map fun y hy => fit_sym (h2 y hy)
  exact ⟨l, rfl⟩
theorem fit_holes {x : List D} (h : FitsT Tryd.prog 34 x) : ∃ l, x = [.sl (holesC l)] := by
  obtain ⟨es, rfl, _, h2⟩ := fits_sl ty_elem34 h
  obtain ⟨l, rfl⟩ := exists_map fun y hy => fit_hole (h2 y hy)
  exact ⟨l, rfl⟩
theorem fit_env {x : List D} (h : FitsT Tryd.prog 36 x) : ∃ y, x = envC y := by
  obtain ⟨a, b, c, rfl, h1, h2, h3⟩ := inv36 h
  obtain ⟨s, h1⟩ := fit_vars h1
  obtain ⟨l, h2⟩ := fit_syms h2
  obtain ⟨r, h3⟩ := fit_holes h3
  cases h1; cases h2; cases h3
  exact ⟨⟨s, l, r⟩, rfl⟩
theorem fitV_env {d : D} (h : FitsV Tryd.prog 36 d) : ∃ y, d = .agg (envC y) := by
  obtain ⟨cs, rfl, hb⟩ := fitsV_agg ty_field36_0 h
  obtain ⟨y, rfl⟩ := fit_env hb
  exact ⟨y, rfl⟩
theorem fitV_var {d : D} (h : FitsV Tryd.prog 62 d) : ∃ y, d = .agg (varC y) := by
  obtain ⟨cs, rfl, hb⟩ := fitsV_agg ty_field62_0 h
  obtain ⟨y, rfl⟩ := fit_var hb
  exact ⟨y, rfl⟩
end Go.Proofs.YthhfdlhbhfkbdaaDoor
