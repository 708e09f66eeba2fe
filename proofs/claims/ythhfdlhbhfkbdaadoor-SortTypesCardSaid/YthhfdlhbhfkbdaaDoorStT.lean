/- The statement SortTypes. No condition. -/
import Derived.Test.YthhfdlhbhfkbdaaDoorSOf
import Derived.Test.YthhfdlhbhfkbdaaDoorSq
import Derived.Test.YthhfdlhbhfkbdaaDoorFit
set_option linter.unusedVariables false
set_option linter.unusedSimpArgs false
set_option linter.unusedSectionVars false
namespace Go.Proofs.YthhfdlhbhfkbdaaDoor
open Go Go.VM
set_option maxRecDepth 100000
set_option maxHeartbeats 8000000
theorem l6_SortTypes_cs (op : Int) (nm : List UInt8) (args names preds kids : List (List D)) (pop pn : Int) (pnm : List UInt8) : CS Tryd.prog G0 6 [.agg [.int .i64 op, .str nm, .sl args, .sl names, .int .i64 pop, .str pnm, .int .i64 pn, .sl kids, .sl preds]] (.d (.bool true)) none := by
  refine CS.of_VK Tryd.func6 rfl Tryd.ntmps6 rfl ?_
  simp
  by_cases h1 : 300 < nm.length
  · simp [h1]
    refine callK.mk ent_l6_awake (l6_awake_cs ) ?_
    simp
  simp [h1]
  refine callK.mk ent_s_Of (s_Of_cs op nm args names preds kids pop pn pnm) ?_
  simp
  refine callK.mk ent_r6_Of (r6_Of_cs op nm args names preds kids pop pn pnm) ?_
  simp
  refine callK.mk ent_l6_awake (l6_awake_cs ) ?_
  simp
theorem fit_str1 {x : List D} (h : FitsT Tryd.prog 9 x) : ∃ s, x = [.str s] := by
  obtain ⟨s, h1, _⟩ := fits_str tu9 h
  exact ⟨s, h1⟩
theorem sortTypes_all (xs : List D) (h : FitsAll Tryd.prog [58] xs) : CS Tryd.prog G0 6 xs (.d (.bool true)) none := by
  match xs, h with
  | [a], ⟨h1, _⟩ =>
    obtain ⟨cs, rfl, hb⟩ := fitsV_agg ty_field58_0 h1
    obtain ⟨x0, x1, x2, x3, x4, x5, x6, x7, x8, rfl, g0, g1, g2, g3, g4, g5⟩ := inv58 hb
    obtain ⟨y0, y1, y2, y3, e, p0, p1, p2, p3⟩ := inv56 g4
    cases e
    obtain ⟨n0, e0, _⟩ := fits_int tu50 g0
    obtain ⟨n1, e1⟩ := fit_str1 g1
    obtain ⟨n2, e2, _, _⟩ := fits_sl ty_elem51 g2
    obtain ⟨n3, e3, _, _⟩ := fits_sl ty_elem52 g3
    obtain ⟨n4, e4, _⟩ := fits_int tu53 p0
    obtain ⟨n5, e5⟩ := fit_str1 p1
    obtain ⟨n6, e6, _⟩ := fits_int tu3 p2
    obtain ⟨n7, e7, _, _⟩ := fits_sl ty_elem54 p3
    obtain ⟨n8, e8, _, _⟩ := fits_sl ty_elem54 g5
    cases e0; cases e1; cases e2; cases e3; cases e4; cases e5; cases e6; cases e7; cases e8
    exact l6_SortTypes_cs _ _ _ _ _ _ _ _ _
end Go.Proofs.YthhfdlhbhfkbdaaDoor
