/- Modules that come in. No condition. -/
import Derived.Test.YtbacejmdgfalpaaDoorKa
import Derived.Test.YtbacejmdgfalpaaDoorZ9
set_option linter.unusedVariables false
set_option linter.unusedSimpArgs false
set_option linter.unusedSectionVars false
namespace Go.Proofs.YtbacejmdgfalpaaDoor
open Go Go.VM
set_option maxRecDepth 100000
set_option maxHeartbeats 8000000
theorem fits_nd {ds : List D} (h : FitsT Tryd.prog 48 ds) : ∃ n, ds = ndC n := by
  obtain ⟨x0, x1, rfl, h0, h1⟩ := inv48 h
  obtain ⟨s, e0, _⟩ := fits_str tu9 h0
  obtain ⟨t, e1, _⟩ := fits_str tu9 h1
  cases e0; cases e1
  exact ⟨(s, t), rfl⟩
theorem fits_nds {es : List (List D)} (h : ∀ x ∈ es, FitsT Tryd.prog 48 x) : ∃ l : List Nd, es = l.map ndC := ex_map fun x hx => fits_nd (h x hx)
theorem fits_md {ds : List D} (h : FitsT Tryd.prog 77 ds) : ∃ m, ds = mdC m := by
  obtain ⟨x0, x1, x2, x3, x4, x5, x6, x7, x8, x9, rfl, h0, h1⟩ := inv77 h
  obtain ⟨s, e0, _⟩ := fits_str tu9 h0
  obtain ⟨t, e1⟩ := fits_ty _ h1
  rw [tyC_eq] at e1
  cases e0; cases e1
  exact ⟨⟨s, t⟩, rfl⟩
theorem fits_mds {es : List (List D)} (h : ∀ x ∈ es, FitsT Tryd.prog 77 x) : ∃ l : List Md, es = l.map mdC := ex_map fun x hx => fits_md (h x hx)
theorem fits_cl {ds : List D} (h : FitsT Tryd.prog 75 ds) : ∃ m, ds = clC m := by
  obtain ⟨x0, x1, x2, rfl, h0, h1, h2⟩ := inv75 h
  obtain ⟨s, e0, _⟩ := fits_str tu9 h0
  obtain ⟨t, e1, _⟩ := fits_str tu9 h1
  obtain ⟨es, e2, _, hes⟩ := fits_sl ty_elem73 h2
  obtain ⟨l, rfl⟩ := fits_mds hes
  cases e0; cases e1; cases e2
  exact ⟨⟨s, t, l⟩, rfl⟩
theorem fits_cls {es : List (List D)} (h : ∀ x ∈ es, FitsT Tryd.prog 75 x) : ∃ l : List Cl, es = l.map clC := ex_map fun x hx => fits_cl (h x hx)
theorem fits_df {ds : List D} (h : FitsT Tryd.prog 68 ds) : ∃ m, ds = dfC m := by
  obtain ⟨x0, x1, x2, x3, x4, x5, x6, x7, x8, x9, x10, x11, x12, x13, x14, x15, x16, x17, x18, x19, x20, x21, x22, x23, x24, rfl, h0, h1, _, _, _, h5⟩ := inv68 h
  obtain ⟨s, e0, _⟩ := fits_str tu9 h0
  obtain ⟨es, e1, _, hes⟩ := fits_sl ty_elem37 h1
  obtain ⟨l, rfl⟩ := fits_strs hes
  obtain ⟨y0, y1, y2, y3, y4, y5, y6, y7, y8, y9, y10, y11, y12, y13, e5, _, g1, _, _, g4, _⟩ := inv52 h5
  obtain ⟨ns, q1, _, hns⟩ := fits_sl ty_elem34 g1
  obtain ⟨nl, rfl⟩ := fits_nds hns
  obtain ⟨t, e4⟩ := fits_ty _ g4
  rw [tyC_eq] at e4
  cases e0; cases e1; cases q1; cases e4
  simp only [List.cons.injEq, and_true] at e5
  obtain ⟨rfl, rfl, rfl, rfl, rfl, rfl, rfl, rfl, rfl, rfl, rfl, rfl, rfl, rfl⟩ := e5
  exact ⟨⟨s, l, x2, x3, x4, x5, x6, x7, x8, x9, x10, _, nl, _, _, t, _⟩, rfl⟩
theorem fits_dfs {es : List (List D)} (h : ∀ x ∈ es, FitsT Tryd.prog 68 x) : ∃ l : List Df, es = l.map dfC := ex_map fun x hx => fits_df (h x hx)
theorem fits_in {ds : List D} (h : FitsT Tryd.prog 57 ds) : ∃ m, ds = inC m := by
  obtain ⟨x0, x1, x2, x3, x4, x5, x6, x7, x8, x9, x10, x11, rfl, h0, h1, h2, h3⟩ := inv57 h
  obtain ⟨s, e0, _⟩ := fits_str tu9 h0
  obtain ⟨t, e1⟩ := fits_ty _ h1
  obtain ⟨ns, q1, _, hns⟩ := fits_sl ty_elem34 h2
  obtain ⟨nl, rfl⟩ := fits_nds hns
  obtain ⟨es, e3, _, hes⟩ := fits_sl ty_elem27 h3
  obtain ⟨l, rfl⟩ := fits_dfs hes
  rw [tyC_eq] at e1
  cases e0; cases e1; cases q1; cases e3
  exact ⟨⟨s, t, nl, l⟩, rfl⟩
theorem fits_ins {es : List (List D)} (h : ∀ x ∈ es, FitsT Tryd.prog 57 x) : ∃ l : List In, es = l.map inC := ex_map fun x hx => fits_in (h x hx)
theorem fits_mo {ds : List D} (h : FitsT Tryd.prog 29 ds) : ∃ m, ds = moC m := by
  obtain ⟨x0, x1, x2, x3, x4, x5, rfl, h0, h1, h2, h3, h4, h5⟩ := inv29 h
  obtain ⟨cs, q1, _, hcs⟩ := fits_sl ty_elem23 h1
  obtain ⟨cl, rfl⟩ := fits_cls hcs
  obtain ⟨is, q2, _, his⟩ := fits_sl ty_elem24 h2
  obtain ⟨il, rfl⟩ := fits_ins his
  obtain ⟨es, q3, _, hes⟩ := fits_sl ty_elem27 h5
  obtain ⟨l, rfl⟩ := fits_dfs hes
  cases q1; cases q2; cases q3
  exact ⟨⟨x0, cl, il, x3, x4, l⟩, rfl⟩
theorem fitV_mo {d : D} (h : FitsV Tryd.prog 29 d) : ∃ m, d = .agg (moC m) := by
  obtain ⟨cs, rfl, hb⟩ := fitsV_agg ty_field29_0 h
  obtain ⟨m, rfl⟩ := fits_mo hb
  exact ⟨m, rfl⟩
/-! ### Sizes -/
theorem len_szLL {α : Type} (f : α → List D) (h : ∀ a, 1 ≤ szL (f a)) : ∀ l : List α, l.length ≤ szLL (l.map f)
  | [] => by simp [szLL]
  | a :: r => by
    have h1 := h a
    have h2 := len_szLL f h r
    simp only [List.map_cons, szLL, List.length_cons]
    omega
theorem mem_szLL {α : Type} (f : α → List D) {l : List α} {a : α} (h : a ∈ l) : szL (f a) ≤ szLL (l.map f) := szLL_mem (List.mem_map_of_mem h)
theorem ndC_sz (n : Nd) : 1 ≤ szL (ndC n) := by simp [ndC, szL, szD]; omega
theorem mdC_sz (n : Md) : 1 ≤ szL (mdC n) := by simp [mdC, szL, szD]; omega
theorem clC_sz (n : Cl) : 1 ≤ szL (clC n) := by simp [clC, szL, szD]; omega
theorem dfC_sz (n : Df) : 1 ≤ szL (dfC n) := by simp [dfC, szL, szD]; omega
theorem inC_sz (n : In) : 1 ≤ szL (inC n) := by simp [inC, szL, szD]; omega
end Go.Proofs.YtbacejmdgfalpaaDoor
