/- The statements of sort, for all data that come in. No condition. -/
import Derived.Test.YthhfdlhbhfkbdaaDoorSs
import Derived.Test.YthhfdlhbhfkbdaaDoorFit
namespace Go.Proofs.YthhfdlhbhfkbdaaDoor
open Go Go.VM
theorem fit_str1 {x : List D} (h : FitsT Tryd.prog 9 x) : ∃ s, x = [.str s] := by
  obtain ⟨s, h1, _⟩ := fits_str tu9 h
  exact ⟨s, h1⟩
theorem fit_sort1 {x : List D} (h : FitsT Tryd.prog 22 x) : ∃ s, x = [.str s] := by
  obtain ⟨s, h1, _⟩ := fits_str tu22 h
  exact ⟨s, h1⟩
theorem fit_var {x : List D} (h : FitsT Tryd.prog 62 x) : ∃ y, x = varC y := by
  obtain ⟨a, b, rfl, h1, h2⟩ := inv62 h
  obtain ⟨s, h1⟩ := fit_str1 h1
  obtain ⟨t, h2⟩ := fit_sort1 h2
  cases h1; cases h2
  exact ⟨(s, t), rfl⟩
theorem fit_vars {x : List D} (h : FitsT Tryd.prog 32 x) : ∃ l, x = [.sl (varsC l)] := by
  obtain ⟨es, rfl, _, h2⟩ := fits_sl ty_elem32 h
  obtain ⟨l, rfl⟩ := exists_map fun y hy => fit_var (h2 y hy)
  exact ⟨l, rfl⟩
theorem fit_sorts {x : List D} (h : FitsT Tryd.prog 23 x) : ∃ l, x = [.sl (strs l)] := by
  obtain ⟨es, rfl, _, h2⟩ := fits_sl ty_elem23 h
  obtain ⟨l, rfl⟩ := exists_map (f := fun s => [D.str s]) fun y hy => fit_sort1 (h2 y hy)
  exact ⟨l, rfl⟩
theorem fit_sym {x : List D} (h : FitsT Tryd.prog 25 x) : ∃ y, x = symC y := by
  obtain ⟨a, b, c, rfl, h1, h2, h3⟩ := inv25 h
  obtain ⟨s, h1⟩ := fit_str1 h1
  obtain ⟨l, h2⟩ := fit_sorts h2
  obtain ⟨r, h3⟩ := fit_sort1 h3
  cases h1; cases h2; cases h3
  exact ⟨⟨s, l, r⟩, rfl⟩
theorem fit_hole {x : List D} (h : FitsT Tryd.prog 44 x) : ∃ y, x = holeC y := by
  obtain ⟨a, b, rfl, h1, h2⟩ := inv44 h
  obtain ⟨s, h1⟩ := fit_str1 h1
  obtain ⟨l, h2⟩ := fit_vars h2
  cases h1; cases h2
  exact ⟨⟨s, l⟩, rfl⟩
theorem fit_syms {x : List D} (h : FitsT Tryd.prog 33 x) : ∃ l, x = [.sl (symsC l)] := by
  obtain ⟨es, rfl, _, h2⟩ := fits_sl ty_elem33 h
  obtain ⟨l, rfl⟩ := exists_map fun y hy => fit_sym (h2 y hy)
  exact ⟨l, rfl⟩
theorem fit_holes {x : List D} (h : FitsT Tryd.prog 34 x) : ∃ l, x = [.sl (holesC l)] := by
  obtain ⟨es, rfl, _, h2⟩ := fits_sl ty_elem34 h
  obtain ⟨l, rfl⟩ := exists_map fun y hy => fit_hole (h2 y hy)
  exact ⟨l, rfl⟩
theorem fit_env {x : List D} (h : FitsT Tryd.prog 36 x) : ∃ y, x = envC y := by
  obtain ⟨a, b, c, rfl, h1, h2, h3⟩ := inv36 h
  obtain ⟨s, h1⟩ := fit_vars h1
  obtain ⟨l, h2⟩ := fit_syms h2
  obtain ⟨r, h3⟩ := fit_holes h3
  cases h1; cases h2; cases h3
  exact ⟨⟨s, l, r⟩, rfl⟩
theorem fitV_env {d : D} (h : FitsV Tryd.prog 36 d) : ∃ y, d = .agg (envC y) := by
  obtain ⟨cs, rfl, hb⟩ := fitsV_agg ty_field36_0 h
  obtain ⟨y, rfl⟩ := fit_env hb
  exact ⟨y, rfl⟩
theorem fitV_var {d : D} (h : FitsV Tryd.prog 62 d) : ∃ y, d = .agg (varC y) := by
  obtain ⟨cs, rfl, hb⟩ := fitsV_agg ty_field62_0 h
  obtain ⟨y, rfl⟩ := fit_var hb
  exact ⟨y, rfl⟩
theorem sortChecks_all (xs : List D) (h : FitsAll Tryd.prog [22, 25] xs) : CS Tryd.prog G0 3 xs (.d (.bool true)) none := by
  match xs, h with
  | [a, b], ⟨h1, h2, _⟩ =>
    obtain ⟨s, rfl, _⟩ := fitsV_str tu22 h1
    obtain ⟨cs, rfl, hb⟩ := fitsV_agg ty_field25_0 h2
    obtain ⟨y, rfl⟩ := fit_sym hb
    exact l6_SortChecks_cs s y
theorem sortEnvs_all (xs : List D) (h : FitsAll Tryd.prog [36] xs) : CS Tryd.prog G0 4 xs (.d (.bool true)) none := by
  match xs, h with
  | [a], ⟨h1, _⟩ =>
    obtain ⟨v, rfl⟩ := fitV_env h1
    exact l6_SortEnvs_cs v
theorem sortFinds_all (xs : List D) (h : FitsAll Tryd.prog [36, 9] xs) : CS Tryd.prog G0 5 xs (.d (.bool true)) none := by
  match xs, h with
  | [a, b], ⟨h1, h2, _⟩ =>
    obtain ⟨v, rfl⟩ := fitV_env h1
    obtain ⟨s, rfl, _⟩ := fitsV_str tu9 h2
    exact l6_SortFinds_cs v s
theorem sortWith_all (xs : List D) (h : FitsAll Tryd.prog [36, 62] xs) : CS Tryd.prog G0 7 xs (.d (.bool true)) none := by
  match xs, h with
  | [a, b], ⟨h1, h2, _⟩ =>
    obtain ⟨v, rfl⟩ := fitV_env h1
    obtain ⟨s, rfl⟩ := fitV_var h2
    exact l6_SortWith_cs v s
theorem sortTypes_all (xs : List D) (h : FitsAll Tryd.prog [58] xs) : CS Tryd.prog G0 6 xs (.d (.bool true)) none := by
  match xs, h with
  | [a], ⟨h1, _⟩ =>
    obtain ⟨cs, rfl, hb⟩ := fitsV_agg ty_field58_0 h1
    obtain ⟨x0, x1, x2, x3, x4, x5, x6, x7, x8, rfl, g0, g1, g2, g3, g4, g5⟩ := inv58 hb
    obtain ⟨y0, y1, y2, y3, e, p0, p1, p2, p3⟩ := inv56 g4
    cases e
    obtain ⟨n0, e0, _⟩ := fits_int tu50 g0
    obtain ⟨n1, e1⟩ := fit_str1 g1
    obtain ⟨n2, e2, _, _⟩ := fits_sl ty_elem51 g2
    obtain ⟨n3, e3, _, _⟩ := fits_sl ty_elem52 g3
    obtain ⟨n4, e4, _⟩ := fits_int tu53 p0
    obtain ⟨n5, e5⟩ := fit_str1 p1
    obtain ⟨n6, e6, _⟩ := fits_int tu3 p2
    obtain ⟨n7, e7, _, _⟩ := fits_sl ty_elem54 p3
    obtain ⟨n8, e8, _, _⟩ := fits_sl ty_elem54 g5
    cases e0; cases e1; cases e2; cases e3; cases e4; cases e5; cases e6; cases e7; cases e8
    exact l6_SortTypes_cs _ _ _ _ _ _ _ _ _
end Go.Proofs.YthhfdlhbhfkbdaaDoor
