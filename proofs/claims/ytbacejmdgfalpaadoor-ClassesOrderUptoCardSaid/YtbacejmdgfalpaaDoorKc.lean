/- Classes and methods that are looked for; the walks. No condition. -/
import Derived.Test.YtbacejmdgfalpaaDoorKa
set_option linter.unusedVariables false
set_option linter.unusedSimpArgs false
set_option linter.unusedSectionVars false
namespace Go.Proofs.YtbacejmdgfalpaaDoor
open Go Go.VM
set_option maxRecDepth 100000
set_option maxHeartbeats 8000000
variable {G : GT}
theorem wrap64n {i : Nat} (h : i < 9223372036854775807) : IntKind.i64.wrap ((i : Int) + 1) = ((i + 1 : Nat) : Int) := wrap64s h
theorem ent_class : VM.Enters Tryd.prog 24 := VM.Enters.mk Tryd.func24 rfl
theorem class_cs (m : Mo) (nm : Nm) (hl : m.cls.length ≤ 900000000) : CS Tryd.prog G 24 [.agg (moC m), .str nm] (.tup [.agg (clC (clOf m.cls nm)), .bool (clHas m.cls nm)]) none := by
  unfold clOf clHas
  obtain ⟨o, ho⟩ : ∃ o, m.cls.find? (fun c => decide (c.name = nm)) = o := ⟨_, rfl⟩
  rw [ho]
  refine CS.of_VK Tryd.func24 rfl Tryd.ntmps24 rfl ?_
  simp
  refine SW.loopF (ι := { i : Nat // i ≤ (m.cls).length ∧ ((m.cls).drop i).find? (fun c => decide (c.name = nm)) = o }) (fun i => [(12, .d (.int .i64 i.1))]) (fun _ => [(2, .cells ((moC m).map .d)), (4, .cells [.d (.str []), .d (.str []), .d .nils])]) (fun _ => []) (fun i => (m.cls).length - i.1) ⟨0, by simp [ho]⟩ (by simp) ?_
  rintro ⟨i, hi, hR⟩
  try simp only at hi hR
  by_cases hlt : i < (m.cls).length
  · have hg := cls_get hlt
    have hw := wrap64s (show i < 9223372036854775807 by omega)
    rw [cl_step hlt] at hR
    simp at hg
    simp [hlt, hg]
    by_cases he : (m.cls)[i].name = nm
    · rw [if_pos he] at hR
      subst hR
      simp [he]
    · rw [if_neg he] at hR
      simp [he]
      exact Again.mk ⟨i + 1, hlt, hR⟩ (by simp [hw]) (by simp; omega)
  · have : i = (m.cls).length := by omega
    subst this
    rw [List.drop_length, List.find?_nil] at hR
    subst hR
    simp
theorem ent_r25_class : VM.Enters Tryd.prog 41 := VM.Enters.mk Tryd.func41 rfl
theorem r25_class_cs (m : Mo) (nm : Nm) (hl : m.cls.length ≤ 900000000) : CS Tryd.prog G 41 [.agg (moC m), .str nm] (.tup [.agg (clC (clOf m.cls nm)), .bool (clHas m.cls nm)]) none := by
  unfold clOf clHas
  obtain ⟨o, ho⟩ : ∃ o, m.cls.find? (fun c => decide (c.name = nm)) = o := ⟨_, rfl⟩
  rw [ho]
  refine CS.of_VK Tryd.func41 rfl Tryd.ntmps41 rfl ?_
  simp
  refine SW.loopF (ι := { i : Nat // i ≤ (m.cls).length ∧ ((m.cls).drop i).find? (fun c => decide (c.name = nm)) = o }) (fun i => [(11, .d (.int .i64 i.1))]) (fun _ => [(2, .cells ((moC m).map .d)), (4, .cells [.d (.str []), .d (.str []), .d .nils])]) (fun _ => []) (fun i => (m.cls).length - i.1) ⟨0, by simp [ho]⟩ (by simp) ?_
  rintro ⟨i, hi, hR⟩
  try simp only at hi hR
  by_cases hlt : i < (m.cls).length
  · have hg := cls_get hlt
    have hw := wrap64s (show i < 9223372036854775807 by omega)
    rw [cl_step hlt] at hR
    simp at hg
    simp [hlt, hg]
    by_cases he : (m.cls)[i].name = nm
    · rw [if_pos he] at hR
      subst hR
      simp [he]
    · rw [if_neg he] at hR
      simp [he]
      exact Again.mk ⟨i + 1, hlt, hR⟩ (by simp [hw]) (by simp; omega)
  · have : i = (m.cls).length := by omega
    subst this
    rw [List.drop_length, List.find?_nil] at hR
    subst hR
    simp
theorem ent_classes_method : VM.Enters Tryd.prog 31 := VM.Enters.mk Tryd.func31 rfl
theorem classes_method_cs (c : Cl) (nm : Nm) (hl : c.mds.length ≤ 900000000) : CS Tryd.prog G 31 [.agg (clC c), .str nm] (.tup [.agg (mdC (mdOf c.mds nm)), .bool (mdHas c.mds nm)]) none := by
  unfold mdOf mdHas
  obtain ⟨o, ho⟩ : ∃ o, c.mds.find? (fun c => decide (c.name = nm)) = o := ⟨_, rfl⟩
  rw [ho]
  refine CS.of_VK Tryd.func31 rfl Tryd.ntmps31 rfl ?_
  simp
  refine SW.loopF (ι := { i : Nat // i ≤ (c.mds).length ∧ ((c.mds).drop i).find? (fun c => decide (c.name = nm)) = o }) (fun i => [(11, .d (.int .i64 i.1))]) (fun _ => [(2, .cells ((clC c).map .d)), (4, .cells [.d (.str []), .d (.int .i64 0), .d (.str []), .d .nils, .d .nils, .d (.int .i64 0), .d (.str []), .d (.int .i64 0), .d .nils, .d .nils])]) (fun _ => []) (fun i => (c.mds).length - i.1) ⟨0, by simp [ho]⟩ (by simp) ?_
  rintro ⟨i, hi, hR⟩
  try simp only at hi hR
  by_cases hlt : i < (c.mds).length
  · have hg := mds_get hlt
    have hw := wrap64s (show i < 9223372036854775807 by omega)
    rw [md_step hlt] at hR
    simp at hg
    simp [hlt, hg]
    by_cases he : (c.mds)[i].name = nm
    · rw [if_pos he] at hR
      subst hR
      simp [he]
    · rw [if_neg he] at hR
      simp [he]
      exact Again.mk ⟨i + 1, hlt, hR⟩ (by simp [hw]) (by simp; omega)
  · have : i = (c.mds).length := by omega
    subst this
    rw [List.drop_length, List.find?_nil] at hR
    subst hR
    simp
theorem ent_r25_method : VM.Enters Tryd.prog 33 := VM.Enters.mk Tryd.func33 rfl
theorem r25_method_cs (c : Cl) (nm : Nm) (hl : c.mds.length ≤ 900000000) : CS Tryd.prog G 33 [.agg (clC c), .str nm] (.tup [.agg (mdC (mdOf c.mds nm)), .bool (mdHas c.mds nm)]) none := by
  unfold mdOf mdHas
  obtain ⟨o, ho⟩ : ∃ o, c.mds.find? (fun c => decide (c.name = nm)) = o := ⟨_, rfl⟩
  rw [ho]
  refine CS.of_VK Tryd.func33 rfl Tryd.ntmps33 rfl ?_
  simp
  refine SW.loopF (ι := { i : Nat // i ≤ (c.mds).length ∧ ((c.mds).drop i).find? (fun c => decide (c.name = nm)) = o }) (fun i => [(11, .d (.int .i64 i.1))]) (fun _ => [(2, .cells ((clC c).map .d)), (4, .cells [.d (.str []), .d (.int .i64 0), .d (.str []), .d .nils, .d .nils, .d (.int .i64 0), .d (.str []), .d (.int .i64 0), .d .nils, .d .nils])]) (fun _ => []) (fun i => (c.mds).length - i.1) ⟨0, by simp [ho]⟩ (by simp) ?_
  rintro ⟨i, hi, hR⟩
  try simp only at hi hR
  by_cases hlt : i < (c.mds).length
  · have hg := mds_get hlt
    have hw := wrap64s (show i < 9223372036854775807 by omega)
    rw [md_step hlt] at hR
    simp at hg
    simp [hlt, hg]
    by_cases he : (c.mds)[i].name = nm
    · rw [if_pos he] at hR
      subst hR
      simp [he]
    · rw [if_neg he] at hR
      simp [he]
      exact Again.mk ⟨i + 1, hlt, hR⟩ (by simp [hw]) (by simp; omega)
  · have : i = (c.mds).length := by omega
    subst this
    rw [List.drop_length, List.find?_nil] at hR
    subst hR
    simp
theorem ent_r25_known : VM.Enters Tryd.prog 27 := VM.Enters.mk Tryd.func27 rfl
theorem r25_known_cs (m : Mo) (nm : Nm) (hl : m.cls.length ≤ 900000000) : CS Tryd.prog G 27 [.agg (moC m), .str nm] (.d (.bool (clHas m.cls nm))) none := by
  refine CS.of_VK Tryd.func27 rfl Tryd.ntmps27 rfl ?_
  simp
  have h := r25_class_cs (G := G) m nm hl
  simp at h
  refine callK.mk ent_r25_class h ?_
  simp
theorem ent_classes_params : VM.Enters Tryd.prog 53 := VM.Enters.mk Tryd.func53 rfl
theorem classes_params_cs (t : Ty) (hl : t.args.length ≤ 900000000) : CS Tryd.prog G 53 [.agg (tyD t)] (.d (.int .i64 (parN t))) none := by
  have hw : IntKind.i64.wrap ((t.args.length : Int) - 1) = (t.args.length : Int) - 1 := wrap64 (by omega)
  refine CS.of_VK Tryd.func53 rfl Tryd.ntmps53 rfl ?_
  by_cases h6 : t.op = 6
  · simp [h6, hw, parN]
  · simp [h6, parN]
theorem ent_r25_params : VM.Enters Tryd.prog 55 := VM.Enters.mk Tryd.func55 rfl
theorem r25_params_cs (t : Ty) (hl : t.args.length ≤ 900000000) : CS Tryd.prog G 55 [.agg (tyD t)] (.d (.int .i64 (parN t))) none := by
  have hw : IntKind.i64.wrap ((t.args.length : Int) - 1) = (t.args.length : Int) - 1 := wrap64 (by omega)
  refine CS.of_VK Tryd.func55 rfl Tryd.ntmps55 rfl ?_
  by_cases h6 : t.op = 6
  · simp [h6, hw, parN]
    by_cases h0 : 0 < (t.args.length : Int) - 1
    · have h1 : ¬ (t.args.length : Int) - 1 < 0 := by omega
      simp [h0, h1]
      omega
    · by_cases h1 : (t.args.length : Int) - 1 < 0
      · simp [h0, h1]
        omega
      · have : (t.args.length : Int) - 1 = 0 := by omega
        simp [this]
  · simp [h6, parN]
end Go.Proofs.YtbacejmdgfalpaaDoor
