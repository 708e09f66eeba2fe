/- Template: what comes in, and its size. No condition. -/
import Derived.Test.YtmjpdmkgmlhfaaaDoorMy
import Derived.Test.YtmjpdmkgmlhfaaaDoorFit
set_option linter.unusedVariables false
set_option linter.unusedSimpArgs false
set_option linter.unusedSectionVars false
namespace Go.Proofs.YtmjpdmkgmlhfaaaDoor
open Go Go.VM
set_option maxRecDepth 100000
set_option maxHeartbeats 8000000
theorem ex_map {α : Type} {f : α → List D} : ∀ {es : List (List D)}, (∀ x ∈ es, ∃ a, x = f a) → ∃ l : List α, es = l.map f
  | [], _ => ⟨[], rfl⟩
  | x :: r, h => by
    obtain ⟨a, ha⟩ := h x (by simp)
    obtain ⟨l, hl⟩ := ex_map (es := r) (f := f) (fun y hy => h y (by simp [hy]))
    exact ⟨a :: l, by simp [ha, hl]⟩
theorem szLL_mem {x : List D} : ∀ {es : List (List D)}, x ∈ es → szL x ≤ szLL es
  | y :: r, h => by
    simp only [szLL]
    rcases List.mem_cons.1 h with rfl | h
    · omega
    · have := szLL_mem h
      omega
theorem fits_strs {es : List (List D)} (h : ∀ x ∈ es, FitsT Tryd.prog 9 x) : ∃ l : List Nm, es = strs l := by
  obtain ⟨l, hl⟩ := ex_map (f := fun n : Nm => [D.str n]) fun x hx => by
    obtain ⟨s, hs, _⟩ := fits_str tu9 (h x hx)
    exact ⟨s, hs⟩
  exact ⟨l, by rw [hl]; rfl⟩
theorem fits_prN (n : Nat) : ∀ ds : List D, szL ds ≤ n → FitsT Tryd.prog 36 ds → ∃ p : Pr, ds = prC p := by
  induction n using Nat.strongRecOn with
  | ind n ih =>
    intro ds hn h
    obtain ⟨x0, x1, x2, x3, rfl, h0, h1, h2, h3⟩ := inv36 h
    obtain ⟨op, e0, _⟩ := fits_int tu33 h0
    obtain ⟨nm, e1, _⟩ := fits_str tu9 h1
    obtain ⟨k, e2, _⟩ := fits_int tu3 h2
    obtain ⟨es, e3, _, hes⟩ := fits_sl ty_elem34 h3
    cases e0; cases e1; cases e2; cases e3
    simp only [szL, szD] at hn
    obtain ⟨ks, rfl⟩ := ex_map (f := prC) fun x hx => ih (szL x) (by have := szLL_mem hx; omega) x (Nat.le_refl _) (hes x hx)
    exact ⟨⟨op, nm, k, ks⟩, by rw [prC_eq]⟩
theorem fits_pr (ds : List D) (h : FitsT Tryd.prog 36 ds) : ∃ p : Pr, ds = prC p := fits_prN _ ds (Nat.le_refl _) h
theorem fits_prs {es : List (List D)} (h : ∀ x ∈ es, FitsT Tryd.prog 36 x) : ∃ l : List Pr, es = l.map prC := ex_map fun x hx => fits_pr x (h x hx)
theorem fits_tyN (n : Nat) : ∀ ds : List D, szL ds ≤ n → FitsT Tryd.prog 38 ds → ∃ t : Ty, ds = tyC t := by
  induction n using Nat.strongRecOn with
  | ind n ih =>
    intro ds hn h
    obtain ⟨x0, x1, x2, x3, x4, x5, x6, x7, x8, rfl, h0, h1, h2, h3, h4, h8⟩ := inv38 h
    obtain ⟨op, e0, _⟩ := fits_int tu30 h0
    obtain ⟨nm, e1, _⟩ := fits_str tu9 h1
    obtain ⟨es, e2, _, hes⟩ := fits_sl ty_elem31 h2
    obtain ⟨ns, e3, _, hns⟩ := fits_sl ty_elem32 h3
    obtain ⟨p, e4⟩ := fits_pr _ h4
    obtain ⟨ps, e8, _, hps⟩ := fits_sl ty_elem34 h8
    rw [prC_eq] at e4
    cases e0; cases e1; cases e2; cases e3; cases e4; cases e8
    simp only [szL, szD] at hn
    obtain ⟨l, rfl⟩ := ex_map (f := tyC) fun x hx => ih (szL x) (by have := szLL_mem hx; omega) x (Nat.le_refl _) (hes x hx)
    obtain ⟨nl, rfl⟩ := fits_strs hns
    obtain ⟨pl, rfl⟩ := fits_prs hps
    exact ⟨⟨op, nm, l, nl, p, pl⟩, by rw [tyC_eq]⟩
theorem fits_ty (ds : List D) (h : FitsT Tryd.prog 38 ds) : ∃ t : Ty, ds = tyC t := fits_tyN _ ds (Nat.le_refl _) h
theorem fits_tys {es : List (List D)} (h : ∀ x ∈ es, FitsT Tryd.prog 38 x) : ∃ l : List Ty, es = l.map tyC := ex_map fun x hx => fits_ty x (h x hx)
theorem fits_vr (ds : List D) (h : FitsT Tryd.prog 76 ds) : ∃ v : Vr, ds = vrC v := by
  obtain ⟨x0, x1, rfl, h0, h1⟩ := inv76 h
  obtain ⟨a, e0, _⟩ := fits_str tu9 h0
  obtain ⟨b, e1, _⟩ := fits_str tu74 h1
  cases e0; cases e1
  exact ⟨(a, b), rfl⟩
theorem fits_vrs {es : List (List D)} (h : ∀ x ∈ es, FitsT Tryd.prog 76 x) : ∃ l : List Vr, es = l.map vrC := ex_map fun x hx => fits_vr x (h x hx)
theorem fitV_ty {d : D} (h : FitsV Tryd.prog 38 d) : ∃ t : Ty, d = .agg (tyD t) := by
  obtain ⟨cs, rfl, hb⟩ := fitsV_agg ty_field38_0 h
  obtain ⟨t, rfl⟩ := fits_ty cs hb
  exact ⟨t, by rw [tyC_eq]⟩
theorem fitV_vrs {d : D} (h : FitsV Tryd.prog 39 d) : ∃ l : List Vr, d = .sl (l.map vrC) := by
  obtain ⟨es, rfl, _, hes⟩ := fitsV_sl ty_elem39 h
  obtain ⟨l, rfl⟩ := fits_vrs hes
  exact ⟨l, rfl⟩
theorem fits_da (ds : List D) (h : FitsT Tryd.prog 88 ds) : ∃ d : Da, ds = daC d := by
  obtain ⟨x0, x1, x2, x3, rfl, h0, h1, h2, h3⟩ := inv88 h
  obtain ⟨s, e0, _⟩ := fits_str tu9 h0
  obtain ⟨es, e2, _, hes⟩ := fits_sl ty_elem39 h2
  obtain ⟨l, rfl⟩ := fits_vrs hes
  cases e0; cases e2
  exact ⟨⟨s, x1, l, x3⟩, rfl⟩
theorem fitV_mt {d : D} (h : FitsV Tryd.prog 29 d) : ∃ m : Mt, d = .agg (mtC m) := by
  obtain ⟨cs, rfl, hb⟩ := fitsV_agg ty_field29_0 h
  obtain ⟨x0, x1, x2, x3, x4, x5, rfl, h0, h1, h2, h3, h4, h5⟩ := inv29 hb
  obtain ⟨es, e0, _, hes⟩ := fits_sl ty_elem22 h0
  obtain ⟨l, rfl⟩ := ex_map (f := daC) fun x hx => fits_da x (hes x hx)
  cases e0
  exact ⟨⟨l, x1, x2, x3, x4, x5⟩, rfl⟩
/-- A prefix and a scope. -/
def plC (pre : Nm) (sc : List Vr) : List D := [.str pre, .sl (sc.map vrC)]
theorem fitV_pl {d : D} (h : FitsV Tryd.prog 41 d) : ∃ (pre : Nm) (sc : List Vr), d = .agg (plC pre sc) := by
  obtain ⟨cs, rfl, hb⟩ := fitsV_agg ty_field41_0 h
  obtain ⟨x0, x1, rfl, h0, h1⟩ := inv41 hb
  obtain ⟨s, e0, _⟩ := fits_str tu9 h0
  obtain ⟨es, e1, _, hes⟩ := fits_sl ty_elem39 h1
  obtain ⟨l, rfl⟩ := fits_vrs hes
  cases e0; cases e1
  exact ⟨s, l, rfl⟩
theorem fitV_dx {d : D} (h : FitsV Tryd.prog 66 d) : ∃ x : Dx, d = .agg (dxC x) := by
  obtain ⟨cs, rfl, hb⟩ := fitsV_agg ty_field66_0 h
  obtain ⟨x0, x1, x2, x3, x4, x5, x6, x7, x8, x9, x10, x11, x12, x13, x14, x15, x16, x17, x18, x19, x20, x21, x22, x23, x24, rfl, h0, h1, _, _, h4, h5⟩ := inv66 hb
  obtain ⟨s, e0, _⟩ := fits_str tu9 h0
  obtain ⟨es, e1, _, hes⟩ := fits_sl ty_elem32 h1
  obtain ⟨l, rfl⟩ := fits_strs hes
  obtain ⟨bo, e4⟩ := fits_bool tu4 h4
  obtain ⟨y0, y1, y2, y3, y4, y5, y6, y7, y8, y9, y10, y11, y12, y13, e5, g0, g1, g2, g3, g4, g5⟩ := inv64 h5
  obtain ⟨s0, q0, _, _⟩ := fits_sl ty_elem32 g0
  obtain ⟨s1, q1, _, _⟩ := fits_sl ty_elem60 g1
  obtain ⟨s2, q2, _, _⟩ := fits_sl ty_elem61 g2
  obtain ⟨s3, q3, _, _⟩ := fits_sl ty_elem62 g3
  obtain ⟨t, q4⟩ := fits_ty _ g4
  obtain ⟨s5, q5, _, _⟩ := fits_sl ty_elem34 g5
  rw [tyC_eq] at q4
  cases e0; cases e1; cases e4; cases q0; cases q1; cases q2; cases q3; cases q4; cases q5
  simp only [List.cons.injEq, and_true] at e5
  obtain ⟨rfl, rfl, rfl, rfl, rfl, rfl, rfl, rfl, rfl, rfl, rfl, rfl, rfl, rfl⟩ := e5
  exact ⟨⟨s, l, x2, x3, x4, x5, x6, x7, x8, x9, bo, ⟨s0, s1, s2, s3, t, s5⟩⟩, rfl⟩
/-! ### Sizes -/
theorem len_szLL {α : Type} {f : α → List D} (hf : ∀ x, 1 ≤ szL (f x)) : ∀ l : List α, l.length ≤ szLL (l.map f)
  | [] => by simp
  | x :: r => by
    have := len_szLL hf r
    have := hf x
    simp only [List.map_cons, szLL, List.length_cons]
    omega
theorem strs_szA (l : List Nm) : l.length ≤ szLL (strs l) := by
  unfold strs
  exact len_szLL (fun x => by simp only [szL, szD]; omega) l
mutual
theorem nodP_szA : ∀ p : Pr, nodP p ≤ szL (prC p)
  | ⟨op, nm, n, l⟩ => by
    have := nodPs_szA l
    rw [prC_eq]
    simp only [nodP, szL, szD]
    omega
theorem nodPs_szA : ∀ l : List Pr, nodPs l ≤ szLL (l.map prC)
  | [] => by simp [nodPs]
  | t :: r => by
    have h1 := nodP_szA t
    have h2 := nodPs_szA r
    simp only [nodPs, List.map_cons, szLL]
    omega
end
theorem prs_len_szA (l : List Pr) : l.length ≤ szLL (l.map prC) := len_szLL (fun x => by rw [prC_eq]; simp only [szL, szD]; omega) l
theorem vrs_len_szA (l : List Vr) : l.length ≤ szLL (l.map vrC) := len_szLL (fun x => by simp only [vrC_eq, szL, szD]; omega) l
theorem nodP_eqA (p : Pr) : nodP p = 1 + nodPs p.kids := by cases p; rfl
mutual
theorem nodT_szA : ∀ t : Ty, nodT t ≤ szL (tyC t)
  | ⟨op, nm, l, ns, p, ps⟩ => by
    have := nodTs_szA l
    rw [tyC_eq]
    simp only [nodT, szL, szD]
    omega
theorem nodTs_szA : ∀ l : List Ty, nodTs l ≤ szLL (l.map tyC)
  | [] => by simp [nodTs]
  | t :: r => by
    have h1 := nodT_szA t
    have h2 := nodTs_szA r
    simp only [nodTs, List.map_cons, szLL]
    omega
end
theorem WB_sz {B : Nat} : ∀ t : Ty, szL (tyC t) ≤ B → WB B t := by
  refine Ty.ind fun t ih => ?_
  obtain ⟨op, nm, l, ns, p, ps⟩ := t
  simp only at ih
  intro h
  rw [tyC_eq] at h
  simp only [szL, szD] at h
  have h1 := strs_szA ns
  have h2 := nodPs_szA p.kids
  have h3 := nodP_eqA p
  have h4 := prs_len_szA ps
  have h5 := len_le_nodTs l
  have h6 := nodTs_szA l
  refine .mk _ _ _ _ _ _ (by omega) (by omega) (by omega) (by omega) (fun q hq => ?_) fun k hk => ih k hk ?_
  · have h7 := nodP_szA q
    have h8 := szLL_mem (List.mem_map.2 ⟨q, hq, rfl⟩ : prC q ∈ ps.map prC)
    omega
  · have h8 := szLL_mem (List.mem_map.2 ⟨k, hk, rfl⟩ : tyC k ∈ l.map tyC)
    omega
theorem mt_sz (m : Mt) : m.datas.length ≤ szL (mtC m) ∧ ∀ d ∈ m.datas, d.preds.length ≤ szL (mtC m) := by
  have hd : ∀ d : Da, 1 ≤ szL (daC d) ∧ d.preds.length ≤ szL (daC d) := fun d => by
    have := vrs_len_szA d.preds
    simp only [daC, szL, szD]
    omega
  have h1 := len_szLL (fun d => (hd d).1) m.datas
  refine ⟨?_, fun d hm => ?_⟩
  · simp only [mtC, szL, szD]
    omega
  · have h2 := szLL_mem (List.mem_map.2 ⟨d, hm, rfl⟩ : daC d ∈ m.datas.map daC)
    have h3 := (hd d).2
    simp only [mtC, szL, szD]
    omega
theorem tyD_sz (t : Ty) : nodT t ≤ szL (tyD t) := by
  have := nodT_szA t
  rwa [tyC_eq] at this
end Go.Proofs.YtmjpdmkgmlhfaaaDoor
