/- The checks of instances and modules in the program; the walks. No condition. -/
import Derived.Test.YtbacejmdgfalpaaDoorKd
set_option linter.unusedVariables false
set_option linter.unusedSimpArgs false
set_option linter.unusedSectionVars false
namespace Go.Proofs.YtbacejmdgfalpaaDoor
open Go Go.VM
set_option maxRecDepth 100000
set_option maxHeartbeats 8000000
variable {G : GT}
theorem lackE_step {l : List Df} {k : List Md} {i : Nat} (h : i < k.length) : lackE l (k.drop i) = if k[i].name ∈ l.map (·.name) then lackE l (k.drop (i + 1)) else 5 := by
  rw [List.drop_eq_getElem_cons h, lackE]
theorem dfE_step {c : Cl} {l : List Df} {i : Nat} (h : i < l.length) : dfE c (l.take i) (l.drop i) = if mdHas c.mds l[i].name = false then 5 else if l[i].name ∈ (l.take i).map (·.name) then 4 else if (l[i].params.length : Int) ≠ parN (mdOf c.mds l[i].name).ty then 13 else dfE c (l.take (i + 1)) (l.drop (i + 1)) := by
  rw [List.drop_eq_getElem_cons h, dfE, List.take_succ_eq_append_getElem h]
theorem getD_mem {c : Cl} {nm : Nm} {M : Md → Prop} (h : ∀ x ∈ c.mds, M x) (h0 : M ⟨[], zeroTy⟩) : M (mdOf c.mds nm) := by
  unfold mdOf
  cases hf : c.mds.find? fun c => decide (c.name = nm) with
  | none => exact h0
  | some x => exact h x (List.mem_of_find?_eq_some hf)
theorem clOf_mem {l : List Cl} {nm : Nm} {M : Cl → Prop} (h : ∀ x ∈ l, M x) (h0 : M ⟨[], [], []⟩) : M (clOf l nm) := by
  unfold clOf
  cases hf : l.find? fun c => decide (c.name = nm) with
  | none => exact h0
  | some x => exact h x (List.mem_of_find?_eq_some hf)
/-- Lists that are not too long. -/
def okCl (c : Cl) : Prop := c.mds.length ≤ 900000000 ∧ ∀ x ∈ c.mds, nodT x.ty ≤ 1000000
def okDf (d : Df) : Prop := d.params.length ≤ 900000000 ∧ d.needs.length ≤ 900000000
def okIn (x : In) : Prop := x.needs.length ≤ 900000000 ∧ x.defs.length ≤ 900000000 ∧ nodT x.ty ≤ 1000000 ∧ ∀ d ∈ x.defs, okDf d
def okMo (m : Mo) : Prop := (m.cls.length ≤ 900000000 ∧ m.ins.length ≤ 900000000 ∧ m.defs.length ≤ 900000000) ∧ (∀ c ∈ m.cls, okCl c) ∧ (∀ x ∈ m.ins, okIn x) ∧ ∀ d ∈ m.defs, okDf d
theorem okCl0 : okCl ⟨[], [], []⟩ := ⟨by simp, by simp⟩
theorem args_le (t : Ty) : t.args.length ≤ nodT t := by
  have h1 := nodT_args t
  have h2 := len_le_nodTs t.args
  omega
theorem ent_defs : Enters Tryd.prog 40 := Enters.mk Tryd.func40 rfl
theorem defs_cs (m : Mo) (x : In) (c : Cl) (hx : okIn x) (hc : okCl c) : CS Tryd.prog G 40 [.agg (moC m), .agg (inC x), .agg (clC c)] (.d (.int .i64 (defsE c x.defs))) none := by
  obtain ⟨E, hE⟩ : ∃ E, dfE c [] x.defs = E := ⟨_, rfl⟩
  obtain ⟨L, hL⟩ : ∃ L, lackE x.defs c.mds = L := ⟨_, rfl⟩
  unfold defsE
  rw [hE, hL]
  obtain ⟨hn, hl, _, hd⟩ := hx
  obtain ⟨hk, hm⟩ := hc
  refine CS.of_VK Tryd.func40 rfl Tryd.ntmps40 rfl ?_
  simp
  refine SW.loopF (ι := { i : Nat // i ≤ x.defs.length ∧ dfE c (x.defs.take i) (x.defs.drop i) = E }) (fun i => [(16, .d (.int .i64 i.1))]) (fun _ => [(3, .cells ((moC m).map .d)), (4, .cells ((inC x).map .d)), (5, .cells ((clC c).map .d))]) (fun _ => []) (fun i => x.defs.length - i.1) ⟨0, by simp [hE]⟩ (by simp) ?_
  rintro ⟨i, hi, hR⟩
  try simp only at hi hR
  by_cases hlt : i < x.defs.length
  · have hg := dfs_get hlt
    have hw := wrap64s (show i < 9223372036854775807 by omega)
    have hmd := classes_method_cs (G := G) c x.defs[i].name hk
    have hpar := classes_params_cs (G := G) (mdOf c.mds x.defs[i].name).ty (getD_mem (M := fun y => y.ty.args.length ≤ 900000000) (fun y hy => by have := hm y hy; have := args_le y.ty; omega) (by simp [zeroTy]))
    obtain ⟨b, hb⟩ : ∃ b, decide (x.defs[i].name ∈ (x.defs.take i).map (·.name)) = b := ⟨_, rfl⟩
    have hco := coDf1_ch (G := G) (x.defs.take i) x.defs[i] b hb (by simp; omega)
    rw [dfE_step hlt] at hR
    simp at hmd hco
    simp [hlt]
    refine callK.mk ent_classes_method hmd ?_
    cases hh : mdHas c.mds x.defs[i].name with
    | false =>
      rw [if_pos hh] at hR
      simp [← hR]
    | true =>
      rw [if_neg (by simp [hh])] at hR
      simp [hi]
      refine callHK.ro ent_coDf hco [(100000, 8)] (by simp) (by simp) (by simp) (by simp) (by simp) ?_
      cases b with
      | true =>
        rw [if_pos (of_decide_eq_true hb)] at hR
        simp [← hR]
      | false =>
        rw [if_neg (of_decide_eq_false hb)] at hR
        simp
        refine ⟨lexOk.mk (by kernel_rfl), ?_⟩
        try simp
        refine callK.mk ent_classes_params hpar ?_
        by_cases hp : (x.defs[i].params.length : Int) = parN (mdOf c.mds x.defs[i].name).ty
        · rw [if_neg (by simp [hp])] at hR
          simp [hp]
          exact Again.mk ⟨i + 1, hlt, hR⟩ (by simp [hw]) (by simp; omega)
        · rw [if_pos hp] at hR
          simp [hp, ← hR]
  · have hil : i = x.defs.length := by omega
    subst hil
    rw [List.drop_length, dfE] at hR
    subst hR
    simp
    refine SW.loopF (ι := { i : Nat // i ≤ c.mds.length ∧ lackE x.defs (c.mds.drop i) = L }) (fun i => [(47, .d (.int .i64 i.1))]) (fun _ => [(3, .cells ((moC m).map .d)), (4, .cells ((inC x).map .d)), (5, .cells ((clC c).map .d))]) (fun _ => []) (fun i => c.mds.length - i.1) ⟨0, by simp [hL]⟩ (by simp) ?_
    rintro ⟨i, hi2, hR⟩
    try simp only at hi2 hR
    by_cases hlt : i < c.mds.length
    · have hg := mds_get hlt
      have hw := wrap64s (show i < 9223372036854775807 by omega)
      obtain ⟨b, hb⟩ : ∃ b, decide (c.mds[i].name ∈ x.defs.map (·.name)) = b := ⟨_, rfl⟩
      have hco := coDf2_ch (G := G) x.defs c.mds[i] b hb hl
      rw [lackE_step hlt] at hR
      simp at hco
      simp [hlt]
      refine callHK.ro ent_coDf hco [(100000, 12)] (by simp) (by simp) (by simp) (by simp) (by simp) ?_
      cases b with
      | true =>
        rw [if_pos (of_decide_eq_true hb)] at hR
        simp
        exact Again.mk ⟨i + 1, hlt, hR⟩ (by simp [hw]) (by simp; omega)
      | false =>
        rw [if_neg (of_decide_eq_false hb)] at hR
        simp [← hR]
    · have hil : i = c.mds.length := by omega
      subst hil
      rw [List.drop_length, lackE] at hR
      simp [← hR]
end Go.Proofs.YtbacejmdgfalpaaDoor
