/- The statements' own tests: how many types, classes, instances there are; the walks. No condition. -/
import Derived.Test.YtbacejmdgfalpaaDoorKi
set_option linter.unusedVariables false
set_option linter.unusedSimpArgs false
set_option linter.unusedSectionVars false
namespace Go.Proofs.YtbacejmdgfalpaaDoor
open Go Go.VM
set_option maxRecDepth 100000
set_option maxHeartbeats 8000000
variable {G : GT}
def fewCl (c : Cl) : Prop := c.mds.length ≤ 10 ∧ ∀ x ∈ c.mds, nodT x.ty ≤ 20
def fewIn (x : In) : Prop := nodT x.ty ≤ 20 ∧ x.needs.length ≤ 10 ∧ x.defs.length ≤ 10
def fewMo (m : Mo) : Prop := ((∀ c ∈ m.cls, fewCl c) ∧ (∀ x ∈ m.ins, fewIn x) ∧ ∀ d ∈ m.defs, d.needs.length ≤ 10) ∧ m.cls.length ≤ 10 ∧ m.ins.length ≤ 10 ∧ m.defs.length ≤ 10
/-- Lists that are not too long, whatever the test says. -/
def lenMo (m : Mo) : Prop := (m.cls.length ≤ 900000000 ∧ m.ins.length ≤ 900000000 ∧ m.defs.length ≤ 900000000) ∧ (∀ c ∈ m.cls, c.mds.length ≤ 900000000 ∧ ∀ x ∈ c.mds, nodT x.ty ≤ 900000000) ∧ (∀ x ∈ m.ins, nodT x.ty ≤ 900000000 ∧ x.needs.length ≤ 900000000 ∧ x.defs.length ≤ 900000000) ∧ ∀ d ∈ m.defs, d.needs.length ≤ 900000000
theorem take_all {α : Type} {M : α → Prop} {l : List α} {j : Nat} (h : j < l.length) (hn : ∀ y ∈ l.take j, M y) (h1 : M l[j]) : ∀ y ∈ l.take (j + 1), M y := by
  intro y hy
  rw [List.take_succ_eq_append_getElem h] at hy
  rcases List.mem_append.1 hy with hy | hy
  · exact hn y hy
  · rw [List.mem_singleton.1 hy]; exact h1
theorem ent_l25_few : VM.Enters Tryd.prog 6 := VM.Enters.mk Tryd.func6 rfl
theorem l25_few_cs (m : Mo) (B : Bool) (hB : B = true ↔ fewMo m) (hm : lenMo m) : CS Tryd.prog G 6 [.agg (moC m)] (.d (.bool B)) none := by
  obtain ⟨⟨hc, hi, hd⟩, hcl, hio, hdo⟩ := hm
  have no : ¬ fewMo m → B = false := fun h => by
    cases B with
    | false => rfl
    | true => exact absurd (hB.1 rfl) h
  have yes : fewMo m → B = true := hB.2
  refine CS.of_VK Tryd.func6 rfl Tryd.ntmps6 rfl ?_
  simp
  refine SW.loopF (ι := { i : Nat // i ≤ m.cls.length ∧ ∀ c ∈ m.cls.take i, fewCl c }) (fun i => [(14, .d (.int .i64 i.1))]) (fun _ => [(1, .cells ((moC m).map .d))]) (fun _ => []) (fun i => m.cls.length - i.1) ⟨0, by simp⟩ (by simp) ?_
  rintro ⟨i, hi1, hF1⟩
  try simp only at hi1 hF1
  by_cases hlt : i < m.cls.length
  · have hw := wrap64s (show i < 9223372036854775807 by omega)
    have hmem := List.getElem_mem hlt
    obtain ⟨c, hcx⟩ : ∃ c, m.cls[i] = c := ⟨_, rfl⟩
    obtain ⟨q1, q2⟩ := hcl m.cls[i] hmem
    rw [hcx] at q1 q2 hmem
    simp [hlt, hcx]
    by_cases h10 : 10 < c.mds.length
    · have h10' : (10 : Int) < c.mds.length := by omega
      have := no fun h => by have := (h.1.1 c hmem).1; omega
      simp [h10, h10', this]
    have h10' : ¬ (10 : Int) < c.mds.length := by omega
    simp [h10, h10']
    refine SW.loopF (ι := { k : Nat // k ≤ c.mds.length ∧ ∀ y ∈ c.mds.take k, nodT y.ty ≤ 20 }) (fun k => [(25, .d (.int .i64 k.1))]) (fun _ => [(1, .cells ((moC m).map .d)), (4, .cells ((clC c).map .d))]) (fun _ => []) (fun k => c.mds.length - k.1) ⟨0, by simp⟩ (by simp) ?_
    rintro ⟨k, hk, hn⟩
    try simp only at hk hn
    by_cases hkl : k < c.mds.length
    · have hwk := wrap64s (show k < 9223372036854775807 by omega)
      have hym := List.getElem_mem hkl
      have hct := l25_count_cs (G := G) c.mds[k].ty (q2 _ hym)
      simp [hkl]
      refine callK.mk ent_l25_count hct ?_
      by_cases h20 : 20 < nodT c.mds[k].ty
      · have h20' : (20 : Int) < nodT c.mds[k].ty := by omega
        have := no fun h => by have := (h.1.1 c hmem).2 _ hym; omega
        simp [h20, h20', this]
      · have h20' : ¬ (20 : Int) < nodT c.mds[k].ty := by omega
        simp [h20, h20']
        exact Again.mk ⟨k + 1, hkl, take_all (M := fun y : Md => nodT y.ty ≤ 20) hkl hn (by omega)⟩ (by simp [hwk]) (by simp; omega)
    · have hkk : k = c.mds.length := by omega
      subst hkk
      rw [List.take_length] at hn
      simp
      exact Again.mk ⟨i + 1, hlt, take_all hlt hF1 (by rw [hcx]; exact ⟨by omega, hn⟩)⟩ (by simp [hw]) (by simp; omega)
  have hil : i = m.cls.length := by omega
  subst hil
  rw [List.take_length] at hF1
  simp
  refine SW.loopF (ι := { i : Nat // i ≤ m.ins.length ∧ ∀ c ∈ m.ins.take i, fewIn c }) (fun i => [(38, .d (.int .i64 i.1))]) (fun _ => [(1, .cells ((moC m).map .d))]) (fun _ => []) (fun i => m.ins.length - i.1) ⟨0, by simp⟩ (by simp) ?_
  rintro ⟨i, hi2, hF2⟩
  try simp only at hi2 hF2
  by_cases hlt : i < m.ins.length
  · have hw := wrap64s (show i < 9223372036854775807 by omega)
    have hmem := List.getElem_mem hlt
    obtain ⟨x, hx⟩ : ∃ x, m.ins[i] = x := ⟨_, rfl⟩
    obtain ⟨q1, q2, q3⟩ := hio m.ins[i] hmem
    rw [hx] at q1 q2 q3 hmem
    have hct := l25_count_cs (G := G) x.ty q1
    simp [hlt, hx]
    refine callK.mk ent_l25_count hct ?_
    by_cases h20 : 20 < nodT x.ty
    · have h20' : (20 : Int) < nodT x.ty := by omega
      have := no fun h => by have := (h.1.2.1 x hmem).1; omega
      simp [h20, h20', this]
    have h20' : ¬ (20 : Int) < nodT x.ty := by omega
    simp [h20, h20']
    by_cases h10 : 10 < x.needs.length
    · have h10' : (10 : Int) < x.needs.length := by omega
      have := no fun h => by have := (h.1.2.1 x hmem).2.1; omega
      simp [h10, h10', this]
    have h10' : ¬ (10 : Int) < x.needs.length := by omega
    simp [h10, h10']
    by_cases hd10 : 10 < x.defs.length
    · have hd10' : (10 : Int) < x.defs.length := by omega
      have := no fun h => by have := (h.1.2.1 x hmem).2.2; omega
      simp [hd10, hd10', this]
    have hd10' : ¬ (10 : Int) < x.defs.length := by omega
    simp [hd10, hd10']
    exact Again.mk ⟨i + 1, hlt, take_all hlt hF2 (by rw [hx]; exact ⟨by omega, by omega, by omega⟩)⟩ (by simp [hw]) (by simp; omega)
  have hil : i = m.ins.length := by omega
  subst hil
  rw [List.take_length] at hF2
  simp
  refine SW.loopF (ι := { i : Nat // i ≤ m.defs.length ∧ ∀ c ∈ m.defs.take i, c.needs.length ≤ 10 }) (fun i => [(62, .d (.int .i64 i.1))]) (fun _ => [(1, .cells ((moC m).map .d))]) (fun _ => []) (fun i => m.defs.length - i.1) ⟨0, by simp⟩ (by simp) ?_
  rintro ⟨i, hi3, hF3⟩
  try simp only at hi3 hF3
  by_cases hlt : i < m.defs.length
  · have hw := wrap64s (show i < 9223372036854775807 by omega)
    have hmem := List.getElem_mem hlt
    obtain ⟨x, hx⟩ : ∃ x, m.defs[i] = x := ⟨_, rfl⟩
    have q1 := hdo m.defs[i] hmem
    rw [hx] at q1 hmem
    simp [hlt, hx]
    by_cases h10 : 10 < x.needs.length
    · have h10' : (10 : Int) < x.needs.length := by omega
      have := no fun h => by have := h.1.2.2 x hmem; omega
      simp [h10, h10', this]
    have h10' : ¬ (10 : Int) < x.needs.length := by omega
    simp [h10, h10']
    exact Again.mk ⟨i + 1, hlt, take_all (M := fun y : Df => y.needs.length ≤ 10) hlt hF3 (by rw [hx]; omega)⟩ (by simp [hw]) (by simp; omega)
  have hil : i = m.defs.length := by omega
  subst hil
  rw [List.take_length] at hF3
  by_cases e1 : m.cls.length ≤ 10
  rotate_left
  · have e1' : ¬ (m.cls.length : Int) ≤ 10 := by omega
    have := no fun h => e1 h.2.1
    simp [e1, e1', this]
  have e1' : (m.cls.length : Int) ≤ 10 := by omega
  by_cases e2 : m.ins.length ≤ 10
  rotate_left
  · have e2' : ¬ (m.ins.length : Int) ≤ 10 := by omega
    have := no fun h => e2 h.2.2.1
    simp [e1, e1', e2, e2', this]
  have e2' : (m.ins.length : Int) ≤ 10 := by omega
  by_cases e3 : m.defs.length ≤ 10
  rotate_left
  · have e3' : ¬ (m.defs.length : Int) ≤ 10 := by omega
    have := no fun h => e3 h.2.2.2
    simp [e1, e1', e2, e2', e3, e3', this]
  have e3' : (m.defs.length : Int) ≤ 10 := by omega
  have := yes ⟨⟨hF1, hF2, hF3⟩, e1, e2, e3⟩
  simp [e1, e1', e2, e2', e3, e3', this]
def thinM (m : Mo) (t : Ty) : Prop := (∀ x ∈ m.ins, x.needs.length ≤ 2) ∧ depT t ≤ 6 ∧ nodT t ≤ 20
theorem ent_l25_thin : VM.Enters Tryd.prog 15 := VM.Enters.mk Tryd.func15 rfl
theorem l25_thin_cs (m : Mo) (t : Ty) (B : Bool) (hB : B = true ↔ thinM m t) (hm : lenMo m) (ht : nodT t ≤ 900000000) : CS Tryd.prog G 15 [.agg (moC m), .agg (tyD t)] (.d (.bool B)) none := by
  obtain ⟨⟨hc, hi, hd⟩, hcl, hio, hdo⟩ := hm
  have no : ¬ thinM m t → B = false := fun h => by
    cases B with
    | false => rfl
    | true => exact absurd (hB.1 rfl) h
  have yes : thinM m t → B = true := hB.2
  have hct := l25_count_cs (G := G) t ht
  have hdp := r19_Depth_cs (G := G) t ht
  refine CS.of_VK Tryd.func15 rfl Tryd.ntmps15 rfl ?_
  simp
  refine SW.loopF (ι := { i : Nat // i ≤ m.ins.length ∧ ∀ c ∈ m.ins.take i, c.needs.length ≤ 2 }) (fun i => [(10, .d (.int .i64 i.1))]) (fun _ => [(2, .cells ((moC m).map .d)), (3, tyB t)]) (fun _ => []) (fun i => m.ins.length - i.1) ⟨0, by simp⟩ (by simp) ?_
  rintro ⟨i, hi2, hF2⟩
  try simp only at hi2 hF2
  by_cases hlt : i < m.ins.length
  · have hw := wrap64s (show i < 9223372036854775807 by omega)
    have hmem := List.getElem_mem hlt
    obtain ⟨x, hx⟩ : ∃ x, m.ins[i] = x := ⟨_, rfl⟩
    obtain ⟨q1, q2, q3⟩ := hio m.ins[i] hmem
    rw [hx] at q1 q2 q3 hmem
    simp [hlt, hx]
    by_cases h10 : 2 < x.needs.length
    · have h10' : (2 : Int) < x.needs.length := by omega
      have := no fun h => by have := h.1 x hmem; omega
      simp [h10, h10', this]
    have h10' : ¬ (2 : Int) < x.needs.length := by omega
    simp [h10, h10']
    exact Again.mk ⟨i + 1, hlt, take_all (M := fun y : In => y.needs.length ≤ 2) hlt hF2 (by rw [hx]; omega)⟩ (by simp [hw]) (by simp; omega)
  have hil : i = m.ins.length := by omega
  subst hil
  rw [List.take_length] at hF2
  simp
  refine callK.mk ent_r19_Depth hdp ?_
  by_cases e1 : depT t ≤ 6
  rotate_left
  · have e1' : ¬ (depT t : Int) ≤ 6 := by omega
    have := no fun h => e1 h.2.1
    simp [e1, e1', this]
  have e1' : (depT t : Int) ≤ 6 := by omega
  simp [e1, e1']
  refine callK.mk ent_l25_count hct ?_
  by_cases e2 : nodT t ≤ 20
  · have e2' : (nodT t : Int) ≤ 20 := by omega
    have := yes ⟨hF2, e1, e2⟩
    simp [e2, e2', this]
  · have e2' : ¬ (nodT t : Int) ≤ 20 := by omega
    have := no fun h => e2 h.2.2
    simp [e2, e2', this]
end Go.Proofs.YtbacejmdgfalpaaDoor
