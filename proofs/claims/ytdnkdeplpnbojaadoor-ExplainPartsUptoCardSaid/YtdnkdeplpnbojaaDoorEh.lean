/- The statement ExplainReports. No condition. -/
import Derived.Test.YtdnkdeplpnbojaaDoorEe
set_option linter.unusedVariables false
set_option linter.unusedSimpArgs false
set_option linter.unusedSectionVars false
namespace Go.Proofs.YtdnkdeplpnbojaaDoor
open Go Go.VM
set_option maxRecDepth 100000
set_option maxHeartbeats 8000000
theorem fit_str1 {x : List D} (h : FitsT Tryd.prog 9 x) : ∃ s, x = [.str s] := by
  obtain ⟨s, h1, _⟩ := fits_str tu9 h
  exact ⟨s, h1⟩
theorem exists_strs : ∀ {es : List (List D)}, (∀ x ∈ es, ∃ s, x = [D.str s]) → ∃ l, es = strs l
  | [], _ => ⟨[], rfl⟩
  | x :: r, h => by
    obtain ⟨s, rfl⟩ := h x (.head _)
    obtain ⟨l, rfl⟩ := exists_strs fun y hy => h y (.tail _ hy)
    exact ⟨s :: l, rfl⟩
theorem fit_strs {x : List D} (h : FitsT Tryd.prog 35 x) : ∃ l, x = [.sl (strs l)] := by
  obtain ⟨es, rfl, _, h2⟩ := fits_sl ty_elem35 h
  obtain ⟨l, rfl⟩ := exists_strs fun y hy => fit_str1 (h2 y hy)
  exact ⟨l, rfl⟩
theorem l53_ExplainReports_cs (name : List UInt8) (st : Int) (fs : List (List D)) (xs : List (List UInt8)) (tm : D) (c : Int) (hn : name.length ≤ 1048576) (hf : fs.length ≤ 1048576) (ha : szLL (strs xs) ≤ 1048576) : CS Tryd.prog G1 12 [.agg [.str name, .int .i64 st, .sl fs, .sl (strs xs), tm, .int .i64 c]] (.d (.bool true)) none := by
  refine CS.of_VK Tryd.func12 rfl Tryd.ntmps12 rfl ?_
  by_cases hx : 200 < xs.length
  · simp [hx]
    refine ⟨lexOk.mk (by kernel_rfl), ?_⟩
    refine callK.mk ent_l53_alive l53_alive_cs ?_
    simp
  · simp [hx]
    refine ⟨lexOk.mk (by kernel_rfl), ?_⟩
    refine callK.mk ent_e_Report (e_Report_cs G1_pow name st fs xs tm c hn hf ha) ?_
    simp
    refine callK.mk ent_r53_Report (r53_Report_cs G1_pow name st fs xs tm c hn hf ha) ?_
    simp
    refine callK.mk ent_l53_alive l53_alive_cs ?_
    simp
theorem len_le_szLL : ∀ (t : List (List D)), (∀ x ∈ t, 1 ≤ szL x) → t.length ≤ szLL t
  | [], _ => by simp
  | x :: r, h => by
    have h1 := h x (.head _)
    have h2 := len_le_szLL r fun y hy => h y (.tail _ hy)
    simp only [szLL, List.length_cons]
    omega
theorem explainReports_all (xs : List D) (h : FitsAll Tryd.prog [53] xs) (hsz : szL xs ≤ 1048576) : CS Tryd.prog G1 12 xs (.d (.bool true)) none := by
  match xs, h with
  | [a], ⟨h1, _⟩ =>
    obtain ⟨cs, rfl, hb⟩ := fitsV_agg ty_field53_0 h1
    obtain ⟨a, b, c, d, e, f, rfl, h1, h2, h3, h4, h5, h6⟩ := inv53 hb
    obtain ⟨s, h1⟩ := fit_str1 h1
    obtain ⟨n, h2, _⟩ := fits_int tu49 h2
    obtain ⟨fs, h3, _, h3'⟩ := fits_sl ty_elem50 h3
    obtain ⟨l, h4⟩ := fit_strs h4
    obtain ⟨k, h6, _⟩ := fits_int tu3 h6
    cases h1; cases h2; cases h3; cases h4; cases h6
    simp only [szL, szD] at hsz
    have hfs : fs.length ≤ szLL fs := len_le_szLL fs fun x hx => by
      obtain ⟨x0, x1, x2, x3, x4, x5, x6, x7, x8, rfl, q, _⟩ := inv46 (h3' x hx)
      obtain ⟨s, q⟩ := fit_str1 q
      cases q
      simp only [szL, szD]
      omega
    exact l53_ExplainReports_cs s n fs l e k (by omega) (by omega) (by omega)
end Go.Proofs.YtdnkdeplpnbojaaDoor
