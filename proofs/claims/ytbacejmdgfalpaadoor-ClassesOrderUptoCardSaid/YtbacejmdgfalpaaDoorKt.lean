/- Sizes of modules that come in. No condition. -/
import Derived.Test.YtbacejmdgfalpaaDoorKs
import Derived.Test.YtbacejmdgfalpaaDoorKn
import Derived.Test.YtbacejmdgfalpaaDoorKb
set_option linter.unusedVariables false
set_option linter.unusedSimpArgs false
set_option linter.unusedSectionVars false
namespace Go.Proofs.YtbacejmdgfalpaaDoor
open Go Go.VM
set_option maxRecDepth 100000
set_option maxHeartbeats 8000000
/-! ### Sizes -/
theorem md_ty (x : Md) : nodT x.ty ≤ szL (mdC x) ∧ allT x.ty ≤ szL (mdC x) := by
  have h1 := nodT_sz x.ty
  have h2 := allT_sz x.ty
  rw [tyC_eq] at h1 h2
  simp only [mdC, szL, szD] at h1 h2 ⊢
  omega
theorem in_ty (x : In) : nodT x.ty ≤ szL (inC x) ∧ allT x.ty ≤ szL (inC x) := by
  have h1 := nodT_sz x.ty
  have h2 := allT_sz x.ty
  rw [tyC_eq] at h1 h2
  simp only [inC, szL, szD] at h1 h2 ⊢
  omega
theorem sl_mem {es : List (List D)} : ∀ {l : List D}, D.sl es ∈ l → szLL es ≤ szL l
  | d :: r, h => by
    rcases List.mem_cons.1 h with h | h
    · subst h
      show szLL es ≤ (szLL es + 1) + szL r
      exact Nat.le_trans (Nat.le_add_right _ 1) (Nat.le_add_right _ _)
    · exact Nat.le_trans (sl_mem h) (Nat.le_add_left _ _)
theorem cl_sl (c : Cl) : szLL (c.mds.map mdC) ≤ szL (clC c) := sl_mem (by unfold clC; exact .tail _ (.tail _ (.head _)))
theorem in_ns (x : In) : szLL (x.needs.map ndC) ≤ szL (inC x) := sl_mem (by unfold inC; exact .tail _ (.tail _ (.tail _ (.tail _ (.tail _ (.tail _ (.tail _ (.tail _ (.tail _ (.tail _ (.head _)))))))))))
theorem in_ds (x : In) : szLL (x.defs.map dfC) ≤ szL (inC x) := sl_mem (by unfold inC; exact .tail _ (.tail _ (.tail _ (.tail _ (.tail _ (.tail _ (.tail _ (.tail _ (.tail _ (.tail _ (.tail _ (.head _))))))))))))
theorem df_ps (d : Df) : szLL (strs d.params) ≤ szL (dfC d) := sl_mem (by unfold dfC; exact .tail _ (.head _))
theorem df_ns (d : Df) : szLL (d.needs.map ndC) ≤ szL (dfC d) := sl_mem (by unfold dfC; exact .tail _ (.tail _ (.tail _ (.tail _ (.tail _ (.tail _ (.tail _ (.tail _ (.tail _ (.tail _ (.tail _ (.tail _ (.head _)))))))))))))
theorem mo_cls (m : Mo) : szLL (m.cls.map clC) ≤ szL (moC m) := sl_mem (by unfold moC; exact .tail _ (.head _))
theorem mo_ins (m : Mo) : szLL (m.ins.map inC) ≤ szL (moC m) := sl_mem (by unfold moC; exact .tail _ (.tail _ (.head _)))
theorem mo_dfs (m : Mo) : szLL (m.defs.map dfC) ≤ szL (moC m) := sl_mem (by unfold moC; exact .tail _ (.tail _ (.tail _ (.tail _ (.tail _ (.head _))))))
theorem cl_len (c : Cl) : c.mds.length ≤ szL (clC c) := Nat.le_trans (len_szLL mdC mdC_sz c.mds) (cl_sl c)
theorem cl_md {c : Cl} {x : Md} (h : x ∈ c.mds) : szL (mdC x) ≤ szL (clC c) := Nat.le_trans (mem_szLL mdC h) (cl_sl c)
theorem in_nd (x : In) : x.needs.length ≤ szL (inC x) := Nat.le_trans (len_szLL ndC ndC_sz x.needs) (in_ns x)
theorem in_dl (x : In) : x.defs.length ≤ szL (inC x) := Nat.le_trans (len_szLL dfC dfC_sz x.defs) (in_ds x)
theorem in_df {x : In} {d : Df} (h : d ∈ x.defs) : szL (dfC d) ≤ szL (inC x) := Nat.le_trans (mem_szLL dfC h) (in_ds x)
theorem df_par (d : Df) : d.params.length ≤ szL (dfC d) := Nat.le_trans (strs_sz d.params) (df_ps d)
theorem df_nd (d : Df) : d.needs.length ≤ szL (dfC d) := Nat.le_trans (len_szLL ndC ndC_sz d.needs) (df_ns d)
theorem big {a b : Nat} (h : a ≤ b) (hb : b ≤ 1048576) : a ≤ 900000000 := by omega
theorem df_ok {d : Df} (h : szL (dfC d) ≤ 1048576) : okDf d := ⟨big (df_par d) h, big (df_nd d) h⟩
section
variable {m : Mo} (hs : szL (moC m) ≤ 1048576)
include hs
theorem c_sz {c : Cl} (hc : c ∈ m.cls) : szL (clC c) ≤ 1048576 := Nat.le_trans (mem_szLL clC hc) (Nat.le_trans (mo_cls m) hs)
theorem i_sz {c : In} (hc : c ∈ m.ins) : szL (inC c) ≤ 1048576 := Nat.le_trans (mem_szLL inC hc) (Nat.le_trans (mo_ins m) hs)
theorem d_sz {c : Df} (hc : c ∈ m.defs) : szL (dfC c) ≤ 1048576 := Nat.le_trans (mem_szLL dfC hc) (Nat.le_trans (mo_dfs m) hs)
theorem mo_len : lenMo m :=
  ⟨⟨big (Nat.le_trans (len_szLL clC clC_sz m.cls) (mo_cls m)) hs, big (Nat.le_trans (len_szLL inC inC_sz m.ins) (mo_ins m)) hs, big (Nat.le_trans (len_szLL dfC dfC_sz m.defs) (mo_dfs m)) hs⟩,
    fun c hc => ⟨big (cl_len c) (c_sz hs hc), fun x hx => big (Nat.le_trans (md_ty x).1 (cl_md hx)) (c_sz hs hc)⟩,
    fun x hx => ⟨big (in_ty x).1 (i_sz hs hx), big (in_nd x) (i_sz hs hx), big (in_dl x) (i_sz hs hx)⟩,
    fun d hd => big (df_nd d) (d_sz hs hd)⟩
theorem mo_allC : ∀ c ∈ m.cls, c.mds.length ≤ 900000000 ∧ ∀ x ∈ c.mds, allT x.ty ≤ 900000000 := fun c hc => ⟨big (cl_len c) (c_sz hs hc), fun x hx => big (Nat.le_trans (md_ty x).2 (cl_md hx)) (c_sz hs hc)⟩
theorem mo_allI : ∀ x ∈ m.ins, allT x.ty ≤ 900000000 := fun x hx => big (in_ty x).2 (i_sz hs hx)
theorem mil {a : Nat} (h : a ≤ 20) : a ≤ 1000000 := by omega
theorem few_ok (hf : fewMo m) : okMo m :=
  ⟨(mo_len hs).1, fun c h => ⟨big (cl_len c) (c_sz hs h), fun x hx => mil hs ((hf.1.1 c h).2 x hx)⟩, fun x h => ⟨big (in_nd x) (i_sz hs h), big (in_dl x) (i_sz hs h), mil hs (hf.1.2.1 x h).1, fun d hd => df_ok (Nat.le_trans (in_df hd) (i_sz hs h))⟩, fun d hd => df_ok (d_sz hs hd)⟩
end
theorem few_ex (m : Mo) : ∃ B : Bool, B = true ↔ fewMo m := by
  by_cases h : fewMo m
  · exact ⟨true, by simp [h]⟩
  · exact ⟨false, by simp [h]⟩
end Go.Proofs.YtbacejmdgfalpaaDoor
