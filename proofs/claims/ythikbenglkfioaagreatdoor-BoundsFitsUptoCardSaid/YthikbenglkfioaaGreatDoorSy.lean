/- What environments come in. No condition. -/
import Derived.Test.YthikbenglkfioaaGreatDoorZA
import Derived.Test.YthikbenglkfioaaGreatDoorFit
set_option linter.unusedVariables false
set_option linter.unusedSimpArgs false
set_option linter.unusedSectionVars false
namespace Go.Proofs.YthikbenglkfioaaGreatDoor
open Go Go.VM
set_option maxRecDepth 100000
set_option maxHeartbeats 8000000
theorem fit_str1 {x : List D} (h : FitsT Tryz.prog 9 x) : ∃ s, x = [.str s] := by
  obtain ⟨s, h1, _⟩ := fits_str tu9 h
  exact ⟨s, h1⟩
theorem fit_sort1 {x : List D} (h : FitsT Tryz.prog 43 x) : ∃ s, x = [.str s] := by
  obtain ⟨s, h1, _⟩ := fits_str tu43 h
  exact ⟨s, h1⟩
theorem fit_var {x : List D} (h : FitsT Tryz.prog 45 x) : ∃ y, x = varC y := by
  obtain ⟨a, b, rfl, h1, h2⟩ := inv45 h
  obtain ⟨s, h1⟩ := fit_str1 h1
  obtain ⟨t, h2⟩ := fit_sort1 h2
  cases h1; cases h2
  exact ⟨(s, t), rfl⟩
theorem fit_vars {x : List D} (h : FitsT Tryz.prog 22 x) : ∃ l, x = [.sl (varsC l)] := by
  obtain ⟨es, rfl, _, h2⟩ := fits_sl ty_elem22 h
  obtain ⟨l, rfl⟩ := exists_map fun y hy => fit_var (h2 y hy)
  exact ⟨l, rfl⟩
theorem fit_sorts {x : List D} (h : FitsT Tryz.prog 79 x) : ∃ l, x = [.sl (strs l)] := by
  obtain ⟨es, rfl, _, h2⟩ := fits_sl ty_elem79 h
  obtain ⟨l, rfl⟩ := exists_map (f := fun s => [D.str s]) fun y hy => fit_sort1 (h2 y hy)
  exact ⟨l, rfl⟩
theorem fit_sym {x : List D} (h : FitsT Tryz.prog 81 x) : ∃ y, x = symC y := by
  obtain ⟨a, b, c, rfl, h1, h2, h3⟩ := inv81 h
  obtain ⟨s, h1⟩ := fit_str1 h1
  obtain ⟨l, h2⟩ := fit_sorts h2
  obtain ⟨r, h3⟩ := fit_sort1 h3
  cases h1; cases h2; cases h3
  exact ⟨⟨s, l, r⟩, rfl⟩
theorem fit_hole {x : List D} (h : FitsT Tryz.prog 122 x) : ∃ y, x = holeC y := by
  obtain ⟨a, b, rfl, h1, h2⟩ := inv122 h
  obtain ⟨s, h1⟩ := fit_str1 h1
  obtain ⟨l, h2⟩ := fit_vars h2
  cases h1; cases h2
  exact ⟨⟨s, l⟩, rfl⟩
theorem fit_syms {x : List D} (h : FitsT Tryz.prog 23 x) : ∃ l, x = [.sl (symsC l)] := by
  obtain ⟨es, rfl, _, h2⟩ := fits_sl ty_elem23 h
  obtain ⟨l, rfl⟩ := exists_map fun y hy => fit_sym (h2 y hy)
  exact ⟨l, rfl⟩
theorem fit_holes {x : List D} (h : FitsT Tryz.prog 24 x) : ∃ l, x = [.sl (holesC l)] := by
  obtain ⟨es, rfl, _, h2⟩ := fits_sl ty_elem24 h
  obtain ⟨l, rfl⟩ := exists_map fun y hy => fit_hole (h2 y hy)
  exact ⟨l, rfl⟩
theorem fit_env {x : List D} (h : FitsT Tryz.prog 26 x) : ∃ y, x = envC y := by
  obtain ⟨a, b, c, rfl, h1, h2, h3⟩ := inv26 h
  obtain ⟨s, h1⟩ := fit_vars h1
  obtain ⟨l, h2⟩ := fit_syms h2
  obtain ⟨r, h3⟩ := fit_holes h3
  cases h1; cases h2; cases h3
  exact ⟨⟨s, l, r⟩, rfl⟩
theorem fitV_env {d : D} (h : FitsV Tryz.prog 26 d) : ∃ y, d = .agg (envC y) := by
  obtain ⟨cs, rfl, hb⟩ := fitsV_agg ty_field26_0 h
  obtain ⟨y, rfl⟩ := fit_env hb
  exact ⟨y, rfl⟩
theorem fitV_var {d : D} (h : FitsV Tryz.prog 45 d) : ∃ y, d = .agg (varC y) := by
  obtain ⟨cs, rfl, hb⟩ := fitsV_agg ty_field45_0 h
  obtain ⟨y, rfl⟩ := fit_var hb
  exact ⟨y, rfl⟩
end Go.Proofs.YthikbenglkfioaaGreatDoor
