/- What bounds come in; their sizes. No condition. -/
import Derived.Test.YthikbenglkfioaaDoorBf
import Derived.Test.YthikbenglkfioaaDoorBe
import Derived.Test.YthikbenglkfioaaDoorPy
set_option linter.unusedVariables false
set_option linter.unusedSimpArgs false
set_option linter.unusedSectionVars false
namespace Go.Proofs.YthikbenglkfioaaDoor
open Go Go.VM
set_option maxRecDepth 100000
set_option maxHeartbeats 8000000
theorem len_szLL {α : Type} {f : α → List D} (hf : ∀ x, 1 ≤ szL (f x)) : ∀ l : List α, l.length ≤ szLL (l.map f)
  | [] => by simp
  | x :: r => by
    have := len_szLL hf r
    have := hf x
    simp only [List.map_cons, szLL, List.length_cons]
    omega
theorem mem_szLL {α : Type} {f : α → List D} {l : List α} {x : α} (h : x ∈ l) : szL (f x) ≤ szLL (l.map f) := szLL_mem (List.mem_map.2 ⟨x, h, rfl⟩)
mutual
theorem nod_sz : ∀ p : Pr, 4 * nodP p ≤ szL (prC p)
  | ⟨op, nm, n, l⟩ => by
    have := nods_sz l
    rw [prC_eq]
    simp only [nodP, szL, szD]
    omega
theorem nods_sz : ∀ l : List Pr, 4 * nodPs l ≤ szLL (l.map prC)
  | [] => by simp [nodPs]
  | t :: r => by
    have h1 := nod_sz t
    have h2 := nods_sz r
    simp only [nodPs, List.map_cons, szLL]
    omega
end
theorem szL_pred (p : Pr) : szL (prC p) = szD (.int .i64 p.op) + (szD (.str p.name) + (szD (.int .i64 p.n) + (szD (.sl (p.kids.map prC)) + 0))) := by
  rw [prC_eq]
  simp only [szL]
theorem bd_sz (b : Bd) : szL (bdC b) = szD (.str b.name) + (szD (.sl (b.vars.map vrC)) + (szL (prC b.hyp) + szL (prC b.goal))) := by
  simp only [bdC, szL, szL_pred]
  omega
theorem fits_bd {x : List D} (h : FitsT Tryd.prog 43 x) : ∃ b : Bd, x = bdC b := by
  obtain ⟨x0, x1, x2, x3, x4, x5, x6, x7, x8, x9, rfl, h0, h1, h2, h3⟩ := inv43 h
  obtain ⟨nm, e0, _⟩ := fits_str tu9 h0
  obtain ⟨es, e1, _, hes⟩ := fits_sl ty_elem38 h1
  obtain ⟨l, rfl⟩ := fits_vrs hes
  obtain ⟨p, e2⟩ := fits_pr _ h2
  obtain ⟨q, e3⟩ := fits_pr _ h3
  rw [prC_eq] at e2 e3
  cases e0; cases e1; cases e2; cases e3
  exact ⟨⟨nm, l, p, q⟩, rfl⟩
theorem fitV_bd {d : D} (h : FitsV Tryd.prog 43 d) : ∃ b : Bd, d = .agg (bdC b) := by
  obtain ⟨cs, rfl, hb⟩ := fitsV_agg ty_field43_0 h
  obtain ⟨b, rfl⟩ := fits_bd hb
  exact ⟨b, rfl⟩
end Go.Proofs.YthikbenglkfioaaDoor
