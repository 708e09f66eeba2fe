/- The statement SortChecks. No condition. -/
import Derived.Test.YthhfdlhbhfkbdaaDoorSnY
import Derived.Test.YthhfdlhbhfkbdaaDoorSq
import Derived.Test.YthhfdlhbhfkbdaaDoorFit
set_option linter.unusedVariables false
set_option linter.unusedSimpArgs false
set_option linter.unusedSectionVars false
namespace Go.Proofs.YthhfdlhbhfkbdaaDoor
open Go Go.VM
set_option maxRecDepth 100000
set_option maxHeartbeats 8000000
theorem l6_SortChecks_cs (s : List UInt8) (y : SymL) : CS Tryd.prog G0 3 [.str s, .agg (symC y)] (.d (.bool true)) none := by
  refine CS.of_VK Tryd.func3 rfl Tryd.ntmps3 rfl ?_
  simp [symC]
  by_cases h1 : 300 < s.length
  · simp [h1]
    refine callK.mk ent_l6_awake (l6_awake_cs ) ?_
    simp
  simp [h1]
  refine callK.mk ent_l6_shortSym (l6_shortSym_cs _) ?_
  cases h2 : shortY y
  · simp
    refine callK.mk ent_l6_awake (l6_awake_cs ) ?_
    simp
  simp
  refine ⟨lexOk.mk (by kernel_rfl), ?_⟩
  refine callK.mk ent_s_Check (s_Check_cs G0_kw _) ?_
  simp
  refine callK.mk ent_r6_Check (r6_Check_cs _) ?_
  simp
  refine callK.mk ent_s_Sym (s_Sym_cs G0_kw _) ?_
  simp
  refine callK.mk ent_r6_Sym (r6_Sym_cs _) ?_
  simp
  refine callK.mk ent_l6_awake (l6_awake_cs ) ?_
  simp
theorem fit_str1 {x : List D} (h : FitsT Tryd.prog 9 x) : ∃ s, x = [.str s] := by
  obtain ⟨s, h1, _⟩ := fits_str tu9 h
  exact ⟨s, h1⟩
theorem fit_sort1 {x : List D} (h : FitsT Tryd.prog 22 x) : ∃ s, x = [.str s] := by
  obtain ⟨s, h1, _⟩ := fits_str tu22 h
  exact ⟨s, h1⟩
theorem fit_sorts {x : List D} (h : FitsT Tryd.prog 23 x) : ∃ l, x = [.sl (strs l)] := by
  obtain ⟨es, rfl, _, h2⟩ := fits_sl ty_elem23 h
  obtain ⟨l, rfl⟩ := exists_map (f := fun s => [D.str s]) fun y hy => fit_sort1 (h2 y hy)
  exact ⟨l, rfl⟩
theorem fit_sym {x : List D} (h : FitsT Tryd.prog 25 x) : ∃ y, x = symC y := by
  obtain ⟨a, b, c, rfl, h1, h2, h3⟩ := inv25 h
  obtain ⟨s, h1⟩ := fit_str1 h1
  obtain ⟨l, h2⟩ := fit_sorts h2
  obtain ⟨r, h3⟩ := fit_sort1 h3
  cases h1; cases h2; cases h3
  exact ⟨⟨s, l, r⟩, rfl⟩
theorem sortChecks_all (xs : List D) (h : FitsAll Tryd.prog [22, 25] xs) : CS Tryd.prog G0 3 xs (.d (.bool true)) none := by
  match xs, h with
  | [a, b], ⟨h1, h2, _⟩ =>
    obtain ⟨s, rfl, _⟩ := fitsV_str tu22 h1
    obtain ⟨cs, rfl, hb⟩ := fitsV_agg ty_field25_0 h2
    obtain ⟨y, rfl⟩ := fit_sym hb
    exact l6_SortChecks_cs s y
end Go.Proofs.YthhfdlhbhfkbdaaDoor
