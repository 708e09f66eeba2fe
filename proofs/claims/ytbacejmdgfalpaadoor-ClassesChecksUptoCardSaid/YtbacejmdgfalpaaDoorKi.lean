/- Methods and needs; the statements' own tests; the walks. No condition. -/
import Derived.Test.YtbacejmdgfalpaaDoorKh
set_option linter.unusedVariables false
set_option linter.unusedSimpArgs false
set_option linter.unusedSectionVars false
namespace Go.Proofs.YtbacejmdgfalpaaDoor
open Go Go.VM
set_option maxRecDepth 100000
set_option maxHeartbeats 8000000
variable {G : GT}
/-! ### A method -/
def methF : List Cl → Nm → Option (Nm × Ty)
  | [], _ => none
  | c :: r, nm => if mdHas c.mds nm = true then some (c.name, (mdOf c.mds nm).ty) else methF r nm
def methR : Option (Nm × Ty) → DV
  | some p => .tup [.str p.1, .agg (tyD p.2), .bool true]
  | none => .tup [.str [], .agg (tyD zeroTy), .bool false]
theorem methR_keyless (o : Option (Nm × Ty)) : keyless (methR o) = true := by cases o <;> rfl
theorem methF_step {l : List Cl} {nm : Nm} {i : Nat} (h : i < l.length) : methF (l.drop i) nm = if mdHas l[i].mds nm = true then some (l[i].name, (mdOf l[i].mds nm).ty) else methF (l.drop (i + 1)) nm := by
  rw [List.drop_eq_getElem_cons h, methF]
theorem ent_classes_Method : VM.Enters Tryd.prog 10 := VM.Enters.mk Tryd.func10 rfl
theorem classes_Method_cs (m : Mo) (nm : Nm) (hl : m.cls.length ≤ 900000000) (hc : ∀ c ∈ m.cls, c.mds.length ≤ 900000000 ∧ ∀ x ∈ c.mds, allT x.ty ≤ 900000000) : CS Tryd.prog G 10 [.agg (moC m), .str nm] (methR (methF m.cls nm)) none := by
  obtain ⟨o, ho⟩ : ∃ o, methF m.cls nm = o := ⟨_, rfl⟩
  rw [ho]
  have hsub : ∀ t : Ty, allT t ≤ 900000000 → CS Tryd.prog G 32 [.agg (tyD t), .nils, .nils] (.d (.agg (tyD t))) none := fun t h => by
    have := types_Subst_nil (G := G) t h
    rw [subT_nil] at this
    exact this
  refine CS.of_VK Tryd.func10 rfl Tryd.ntmps10 rfl ?_
  simp
  refine SW.loopF (ι := { i : Nat // i ≤ m.cls.length ∧ methF (m.cls.drop i) nm = o }) (fun i => [(14, .d (.int .i64 i.1))]) (fun _ => [(2, .cells ((moC m).map .d)), (5, tyB zeroTy)]) (fun _ => []) (fun i => m.cls.length - i.1) ⟨0, by simp [ho]⟩ (by simp) ?_
  rintro ⟨i, hi, hR⟩
  try simp only at hi hR
  by_cases hlt : i < m.cls.length
  · have hw := wrap64s (show i < 9223372036854775807 by omega)
    obtain ⟨c, hcx⟩ : ∃ c, m.cls[i] = c := ⟨_, rfl⟩
    obtain ⟨q1, q2⟩ := hc m.cls[i] (List.getElem_mem hlt)
    rw [methF_step hlt] at hR
    rw [hcx] at hR q1 q2
    have hmd := classes_method_cs (G := G) c nm q1
    have hall := getD_mem (c := c) (nm := nm) (M := fun y => allT y.ty ≤ 900000000) q2 (by simp [zeroTy, allT, allTs, nodPs, nodP])
    simp at hmd
    simp [hlt, hcx]
    refine callK.mk ent_classes_method hmd ?_
    cases hh : mdHas c.mds nm with
    | false =>
      rw [if_neg (by simp [hh])] at hR
      simp
      exact Again.mk ⟨i + 1, hlt, hR⟩ (by simp [hw]) (by simp; omega)
    | true =>
      rw [if_pos hh] at hR
      subst hR
      simp
      refine ⟨lexOk.mk (by kernel_rfl), ?_⟩
      refine callK.mk ent_types_Subst (hsub _ hall) ?_
      simp [methR]
  · have : i = m.cls.length := by omega
    subst this
    rw [List.drop_length, methF] at hR
    subst hR
    simp [methR]
theorem ent_r25_Method : VM.Enters Tryd.prog 11 := VM.Enters.mk Tryd.func11 rfl
theorem r25_Method_cs (m : Mo) (nm : Nm) (hl : m.cls.length ≤ 900000000) (hc : ∀ c ∈ m.cls, c.mds.length ≤ 900000000 ∧ ∀ x ∈ c.mds, allT x.ty ≤ 900000000) : CS Tryd.prog G 11 [.agg (moC m), .str nm] (methR (methF m.cls nm)) none := by
  obtain ⟨o, ho⟩ : ∃ o, methF m.cls nm = o := ⟨_, rfl⟩
  rw [ho]
  refine CS.of_VK Tryd.func11 rfl Tryd.ntmps11 rfl ?_
  simp
  refine SW.loopF (ι := { i : Nat // i ≤ m.cls.length ∧ methF (m.cls.drop i) nm = o }) (fun i => [(14, .d (.int .i64 i.1))]) (fun _ => [(2, .cells ((moC m).map .d)), (5, tyB zeroTy)]) (fun _ => []) (fun i => m.cls.length - i.1) ⟨0, by simp [ho]⟩ (by simp) ?_
  rintro ⟨i, hi, hR⟩
  try simp only at hi hR
  by_cases hlt : i < m.cls.length
  · have hw := wrap64s (show i < 9223372036854775807 by omega)
    obtain ⟨c, hcx⟩ : ∃ c, m.cls[i] = c := ⟨_, rfl⟩
    obtain ⟨q1, q2⟩ := hc m.cls[i] (List.getElem_mem hlt)
    rw [methF_step hlt] at hR
    rw [hcx] at hR q1 q2
    have hmd := r25_method_cs (G := G) c nm q1
    have hall := getD_mem (c := c) (nm := nm) (M := fun y => allT y.ty ≤ 900000000) q2 (by simp [zeroTy, allT, allTs, nodPs, nodP])
    simp at hmd
    simp [hlt, hcx]
    refine callK.mk ent_r25_method hmd ?_
    cases hh : mdHas c.mds nm with
    | false =>
      rw [if_neg (by simp [hh])] at hR
      simp
      exact Again.mk ⟨i + 1, hlt, hR⟩ (by simp [hw]) (by simp; omega)
    | true =>
      rw [if_pos hh] at hR
      subst hR
      simp
      refine ⟨lexOk.mk (by kernel_rfl), ?_⟩
      skip
      simp [methR]
  · have : i = m.cls.length := by omega
    subst this
    rw [List.drop_length, methF] at hR
    subst hR
    simp [methR]
/-! ### Needs -/
def ndI (n : Nd) : List Nd → Nat → Int
  | [], _ => -1
  | k :: r, i => if n = k then (i : Int) else ndI n r (i + 1)
theorem ndI_step {n : Nd} {l : List Nd} {i j : Nat} (h : i < l.length) : ndI n (l.drop i) j = if n = l[i] then (j : Int) else ndI n (l.drop (i + 1)) (j + 1) := by
  rw [List.drop_eq_getElem_cons h, ndI]
theorem ndI_in (n : Nd) : ∀ (l : List Nd) (i : Nat), (0 ≤ ndI n l i) ↔ n ∈ l
  | [], i => by simp [ndI]
  | k :: r, i => by
    rw [ndI]
    by_cases h : n = k
    · simp [h]
    · rw [if_neg h, ndI_in n r (i + 1)]
      simp [h]
theorem nd_eq {a b : Nd} : (a.1 = b.1 ∧ a.2 = b.2) ↔ a = b := by
  constructor
  · rintro ⟨h1, h2⟩; exact Prod.ext h1 h2
  · rintro rfl; exact ⟨rfl, rfl⟩
theorem ent_ixNd : VM.Enters Tryd.prog 48 := VM.Enters.mk Tryd.func48 rfl
theorem ixNd_cs (l : List Nd) (n : Nd) (hl : l.length ≤ 900000000) : CS Tryd.prog G 48 [.sl (l.map ndC), .agg (ndC n)] (.d (.int .i64 (ndI n l 0))) none := by
  obtain ⟨r, hr⟩ : ∃ r, ndI n l 0 = r := ⟨_, rfl⟩
  rw [hr]
  refine CS.of_VK Tryd.func48 rfl Tryd.ntmps48 rfl ?_
  simp
  refine SW.loopF (ι := { i : Nat // i ≤ l.length ∧ ndI n (l.drop i) i = r }) (fun i => [(8, .d (.int .i64 i.1))]) (fun _ => [(3, .cells [.d (.str n.1), .d (.str n.2)])]) (fun _ => []) (fun i => l.length - i.1) ⟨0, by simp [hr]⟩ (by simp) ?_
  rintro ⟨i, hi, hR⟩
  try simp only at hi hR
  by_cases hlt : i < l.length
  · have hw := wrap64s (show i < 9223372036854775807 by omega)
    obtain ⟨k, hkx⟩ : ∃ k, l[i] = k := ⟨_, rfl⟩
    rw [ndI_step hlt, hkx] at hR
    have hne := @nd_eq n k
    simp [hlt, hkx]
    refine ⟨lexOk.mk (by kernel_rfl), ?_⟩
    by_cases h1 : n = k
    · rw [if_pos h1] at hR
      subst h1
      simp [← hR]
    · rw [if_neg h1] at hR
      by_cases h2 : n.1 = k.1
      · have h3 : ¬ n.2 = k.2 := fun e => h1 (hne.1 ⟨h2, e⟩)
        simp [h2, h3]
        exact Again.mk ⟨i + 1, hlt, hR⟩ (by simp [hw]) (by simp; omega)
      · simp [h2]
        exact Again.mk ⟨i + 1, hlt, hR⟩ (by simp [hw]) (by simp; omega)
  · have : i = l.length := by omega
    subst this
    rw [List.drop_length, ndI] at hR
    simp [← hR]
theorem ent_coNd : VM.Enters Tryd.prog 34 := VM.Enters.mk Tryd.func34 rfl
theorem coNd_cs (l : List Nd) (n : Nd) (b : Bool) (hb : decide (n ∈ l) = b) (hl : l.length ≤ 900000000) : CS Tryd.prog G 34 [.sl (l.map ndC), .agg (ndC n)] (.d (.bool b)) none := by
  have hi := ndI_in n l 0
  have hx := ixNd_cs (G := G) l n hl
  refine CS.of_VK Tryd.func34 rfl Tryd.ntmps34 rfl ?_
  simp at hx
  simp
  refine callK.mk ent_ixNd hx ?_
  cases b with
  | true =>
    have := hi.2 (of_decide_eq_true hb)
    simp [this]
  | false =>
    have : ¬ 0 ≤ ndI n l 0 := fun h => of_decide_eq_false hb (hi.1 h)
    simp [this]
/-- A signature of which the needs are known. -/
abbrev sgD (v : D) (l : List Nd) (a b t0 t1 t2 t3 t4 t5 t6 t7 t8 mt : D) : List D := [v, .sl (l.map ndC), a, b, t0, t1, t2, t3, t4, t5, t6, t7, t8, mt]
theorem ent_classes_Needs : VM.Enters Tryd.prog 13 := VM.Enters.mk Tryd.func13 rfl
theorem classes_Needs_cs (m : Mo) (l : List Nd) (n : Nd) (bb : Bool) (hb : decide (n ∈ l) = bb) (hl : l.length ≤ 900000000) (v a b t0 t1 t2 t3 t4 t5 t6 t7 t8 mt : D) :
    CS Tryd.prog G 13 [.agg (moC m), .agg (sgD v l a b t0 t1 t2 t3 t4 t5 t6 t7 t8 mt), .agg (ndC n)] (.d (.bool bb)) none := by
  have hx := coNd_cs (G := G) l n bb hb hl
  refine CS.of_VK Tryd.func13 rfl Tryd.ntmps13 rfl ?_
  simp at hx
  simp
  refine callK.mk ent_coNd hx ?_
  simp
theorem ent_r25_Needs : VM.Enters Tryd.prog 14 := VM.Enters.mk Tryd.func14 rfl
theorem r25_Needs_cs (m : Mo) (l : List Nd) (n : Nd) (bb : Bool) (hb : decide (n ∈ l) = bb) (hl : l.length ≤ 900000000) (v a b t0 t1 t2 t3 t4 t5 t6 t7 t8 mt : D) :
    CS Tryd.prog G 14 [.agg (moC m), .agg (sgD v l a b t0 t1 t2 t3 t4 t5 t6 t7 t8 mt), .agg (ndC n)] (.d (.bool bb)) none := by
  refine CS.of_VK Tryd.func14 rfl Tryd.ntmps14 rfl ?_
  simp
  refine SW.loopF (ι := { i : Nat // i ≤ l.length ∧ ∀ y ∈ l.take i, ¬ y = n }) (fun i => [(12, .d (.int .i64 i.1))]) (fun _ => [(3, .cells ((moC m).map .d)), (4, .cells ((sgD v l a b t0 t1 t2 t3 t4 t5 t6 t7 t8 mt).map .d)), (5, .cells [.d (.str n.1), .d (.str n.2)])]) (fun _ => []) (fun i => l.length - i.1) ⟨0, by simp⟩ (by simp) ?_
  rintro ⟨i, hi, hn⟩
  try simp only at hi hn
  by_cases hlt : i < l.length
  · have hw := wrap64s (show i < 9223372036854775807 by omega)
    have hne := @nd_eq l[i] n
    simp [hlt]
    by_cases h1 : l[i] = n
    · have hin : n ∈ l := h1 ▸ List.getElem_mem hlt
      rw [decide_eq_true hin] at hb
      subst hb
      simp [h1]
    · by_cases h2 : l[i].1 = n.1
      · have h3 : ¬ l[i].2 = n.2 := fun e => h1 (hne.1 ⟨h2, e⟩)
        simp [h2, h3]
        exact Again.mk ⟨i + 1, hlt, take_no (M := fun y : Nd => y = n) hlt hn h1⟩ (by simp [hw]) (by simp; omega)
      · simp [h2]
        exact Again.mk ⟨i + 1, hlt, take_no (M := fun y : Nd => y = n) hlt hn h1⟩ (by simp [hw]) (by simp; omega)
  · have : i = l.length := by omega
    subst this
    rw [List.take_length] at hn
    have hno : ¬ n ∈ l := fun h => hn n h rfl
    rw [decide_eq_false hno] at hb
    subst hb
    simp
end Go.Proofs.YtbacejmdgfalpaaDoor
