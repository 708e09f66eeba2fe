/- Constraints that come in are trees. No condition. -/
import Derived.Test.YthikbenglkfioaaGreatDoorPy
import Derived.Test.YthikbenglkfioaaGreatDoorCa
set_option linter.unusedVariables false
set_option linter.unusedSimpArgs false
set_option linter.unusedSectionVars false
namespace Go.Proofs.YthikbenglkfioaaGreatDoor
open Go Go.VM
set_option maxRecDepth 100000
set_option maxHeartbeats 4000000
theorem fits_cnN (n : Nat) : ∀ ds : List D, szL ds ≤ n → FitsT Tryz.prog 54 ds → ∃ c : Cn, ds = cnC c := by
  induction n using Nat.strongRecOn with
  | ind n ih =>
    intro ds hn h
    obtain ⟨x0, x1, x2, x3, x4, x5, x6, x7, x8, rfl, h0, h1, h2, h3, h7, h8⟩ := inv54 h
    obtain ⟨op, e0, _⟩ := fits_int tu51 h0
    obtain ⟨nm, e1, _⟩ := fits_str tu9 h1
    obtain ⟨s, e2, _⟩ := fits_str tu43 h2
    obtain ⟨p, e3⟩ := fits_pr _ h3
    obtain ⟨t, e7, _⟩ := fits_int tu3 h7
    obtain ⟨es, e8, _, hes⟩ := fits_sl ty_elem52 h8
    rw [prC_eq] at e3
    cases e0; cases e1; cases e2; cases e3; cases e7; cases e8
    simp only [szL, szD] at hn
    obtain ⟨ks, rfl⟩ := ex_map (f := cnC) fun x hx => ih (szL x) (by have := szLL_mem hx; omega) x (Nat.le_refl _) (hes x hx)
    exact ⟨⟨op, nm, s, p, t, ks⟩, by rw [cnC_eq]⟩
theorem fits_cn (ds : List D) (h : FitsT Tryz.prog 54 ds) : ∃ c : Cn, ds = cnC c := fits_cnN _ ds (Nat.le_refl _) h
theorem fitV_cn {d : D} (h : FitsV Tryz.prog 54 d) : ∃ c : Cn, d = .agg (cnC c) := by
  obtain ⟨cs, rfl, hb⟩ := fitsV_agg ty_field54_0 h
  obtain ⟨c, rfl⟩ := fits_cn cs hb
  exact ⟨c, rfl⟩
theorem fitV_cns {d : D} (h : FitsV Tryz.prog 52 d) : ∃ l : List Cn, d = .sl (l.map cnC) := by
  obtain ⟨es, rfl, _, hes⟩ := fitsV_sl ty_elem52 h
  obtain ⟨l, rfl⟩ := ex_map (f := cnC) fun x hx => fits_cn x (hes x hx)
  exact ⟨l, rfl⟩
end Go.Proofs.YthikbenglkfioaaGreatDoor
