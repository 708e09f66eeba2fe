/- Predicates that come in are trees; environments' parts. No condition. -/
import Derived.Test.YthikbenglkfioaaDoorPd
import Derived.Test.YthikbenglkfioaaDoorFit
set_option linter.unusedVariables false
set_option linter.unusedSimpArgs false
set_option linter.unusedSectionVars false
namespace Go.Proofs.YthikbenglkfioaaDoor
open Go Go.VM
set_option maxRecDepth 100000
set_option maxHeartbeats 4000000
theorem ex_map {α : Type} {f : α → List D} : ∀ {es : List (List D)}, (∀ x ∈ es, ∃ a, x = f a) → ∃ l : List α, es = l.map f
  | [], _ => ⟨[], rfl⟩
  | x :: r, h => by
    obtain ⟨a, ha⟩ := h x (by simp)
    obtain ⟨l, hl⟩ := ex_map (es := r) (f := f) (fun y hy => h y (by simp [hy]))
    exact ⟨a :: l, by simp [ha, hl]⟩
theorem szLL_mem {x : List D} : ∀ {es : List (List D)}, x ∈ es → szL x ≤ szLL es
  | y :: r, h => by
    simp only [szLL]
    rcases List.mem_cons.1 h with rfl | h
    · omega
    · have := szLL_mem h
      omega
theorem fits_strs {es : List (List D)} (h : ∀ x ∈ es, FitsT Tryd.prog 9 x) : ∃ l : List Nm, es = strs l := by
  obtain ⟨l, hl⟩ := ex_map (f := fun n : Nm => [D.str n]) fun x hx => by
    obtain ⟨s, hs, _⟩ := fits_str tu9 (h x hx)
    exact ⟨s, hs⟩
  exact ⟨l, by rw [hl]; rfl⟩
theorem fits_prN (n : Nat) : ∀ ds : List D, szL ds ≤ n → FitsT Tryd.prog 31 ds → ∃ p : Pr, ds = prC p := by
  induction n using Nat.strongRecOn with
  | ind n ih =>
    intro ds hn h
    obtain ⟨x0, x1, x2, x3, rfl, h0, h1, h2, h3⟩ := inv31 h
    obtain ⟨op, e0, _⟩ := fits_int tu28 h0
    obtain ⟨nm, e1, _⟩ := fits_str tu9 h1
    obtain ⟨k, e2, _⟩ := fits_int tu3 h2
    obtain ⟨es, e3, _, hes⟩ := fits_sl ty_elem29 h3
    cases e0; cases e1; cases e2; cases e3
    simp only [szL, szD] at hn
    obtain ⟨ks, rfl⟩ := ex_map (f := prC) fun x hx => ih (szL x) (by have := szLL_mem hx; omega) x (Nat.le_refl _) (hes x hx)
    exact ⟨⟨op, nm, k, ks⟩, by rw [prC_eq]⟩
theorem fits_pr (ds : List D) (h : FitsT Tryd.prog 31 ds) : ∃ p : Pr, ds = prC p := fits_prN _ ds (Nat.le_refl _) h
theorem fits_prs {es : List (List D)} (h : ∀ x ∈ es, FitsT Tryd.prog 31 x) : ∃ l : List Pr, es = l.map prC := ex_map fun x hx => fits_pr x (h x hx)
theorem fits_vr (ds : List D) (h : FitsT Tryd.prog 79 ds) : ∃ v : Vr, ds = vrC v := by
  obtain ⟨x0, x1, rfl, h0, h1⟩ := inv79 h
  obtain ⟨a, e0, _⟩ := fits_str tu9 h0
  obtain ⟨b, e1, _⟩ := fits_str tu45 h1
  cases e0; cases e1
  exact ⟨(a, b), rfl⟩
theorem fits_vrs {es : List (List D)} (h : ∀ x ∈ es, FitsT Tryd.prog 79 x) : ∃ l : List Vr, es = l.map vrC := ex_map fun x hx => fits_vr x (h x hx)
theorem fits_ho (ds : List D) (h : FitsT Tryd.prog 40 ds) : ∃ v : Ho, ds = hoC v := by
  obtain ⟨x0, x1, rfl, h0, h1⟩ := inv40 h
  obtain ⟨a, e0, _⟩ := fits_str tu9 h0
  obtain ⟨es, e1, _, hes⟩ := fits_sl ty_elem38 h1
  obtain ⟨l, rfl⟩ := fits_vrs hes
  cases e0; cases e1
  exact ⟨(a, l), rfl⟩
theorem fits_so (ds : List D) (h : FitsT Tryd.prog 67 ds) : ∃ v : So, ds = soC v := by
  obtain ⟨x0, x1, x2, x3, x4, rfl, h0, h1⟩ := inv67 h
  obtain ⟨a, e0, _⟩ := fits_str tu9 h0
  obtain ⟨p, e1⟩ := fits_pr _ h1
  rw [prC_eq] at e1
  cases e0; cases e1
  exact ⟨(a, p), rfl⟩
theorem fitV_hos {d : D} (h : FitsV Tryd.prog 36 d) : ∃ l : List Ho, d = .sl (l.map hoC) := by
  obtain ⟨es, rfl, _, hes⟩ := fitsV_sl ty_elem36 h
  obtain ⟨l, rfl⟩ := ex_map (f := hoC) fun x hx => fits_ho x (hes x hx)
  exact ⟨l, rfl⟩
theorem fitV_sos {d : D} (h : FitsV Tryd.prog 65 d) : ∃ l : List So, d = .sl (l.map soC) := by
  obtain ⟨es, rfl, _, hes⟩ := fitsV_sl ty_elem65 h
  obtain ⟨l, rfl⟩ := ex_map (f := soC) fun x hx => fits_so x (hes x hx)
  exact ⟨l, rfl⟩
theorem fitV_pr {d : D} (h : FitsV Tryd.prog 31 d) : ∃ p : Pr, d = .agg (prC p) := by
  obtain ⟨cs, rfl, hb⟩ := fitsV_agg ty_field31_0 h
  obtain ⟨p, rfl⟩ := fits_pr cs hb
  exact ⟨p, rfl⟩
end Go.Proofs.YthikbenglkfioaaDoor
