/- Predicates: the walks of taking apart and filling, in the program and in the reference; levels. No condition. -/
import Derived.Test.YtmjpdmkgmlhfaaaDoorPb
set_option linter.unusedVariables false
set_option linter.unusedSimpArgs false
set_option linter.unusedSectionVars false
namespace Go.Proofs.YtmjpdmkgmlhfaaaDoor
open Go Go.VM
set_option maxRecDepth 100000
set_option maxHeartbeats 8000000
variable {G : GT}
/-! ### Taking apart -/
theorem void_not {p : Pr} (h : p.op = 15 ∧ p.kids.length = 2) : voidP p = false := by
  cases hv : voidP p with
  | false => rfl
  | true => have := void_kids hv; rw [this] at h; simp at h
theorem two_of {l : List Pr} (h : l.length = 2) : ∃ a b, l = [a, b] := by
  match l, h with
  | [a, b], _ => exact ⟨a, b, rfl⟩
theorem ent_r7_Split : VM.Enters Tryd.prog 70 := VM.Enters.mk Tryd.func70 rfl
theorem r7_Split_cs : ∀ p : Pr, nodP p ≤ 900000000 → CS Tryd.prog G 70 [.agg (prD p)] (.d (.sl ((splitP p).map prC))) (some 36) := by
  refine Pr.ind fun p ih => ?_
  obtain ⟨op, nm, n, l⟩ := p
  intro hN
  simp only at ih
  have hn := nodP_kids ⟨op, nm, n, l⟩
  simp only at hn
  refine CS.of_VK Tryd.func70 rfl Tryd.ntmps70 rfl ?_
  by_cases h : op = 15 ∧ l.length = 2
  · obtain ⟨h15, h2⟩ := h
    obtain ⟨a, b, rfl⟩ := two_of h2
    simp only [nodPs] at hn
    have hs := splitP_and nm n a b
    have s1 := split_len a
    have s2 := split_len b
    subst h15
    simp
    refine callK.mk ent_r7_Split (ih a (by simp) (by omega)) ?_
    simp
    refine stepK_len (by omega) ?_
    simp
    refine callK.mk ent_r7_Split (ih b (by simp) (by omega)) ?_
    simp
    refine stepK_len (by omega) ?_
    simp [hs]
  · have hs := splitP_other (p := ⟨op, nm, n, l⟩) h
    have hv := r7_Void_cs (G := G) ⟨op, nm, n, l⟩ hN
    by_cases h15 : op = 15
    · have h2 : ¬ l.length = 2 := fun e => h ⟨h15, e⟩
      simp [h15, h2]
      rw [h15] at hv hs
      refine callK.mk ent_r7_Void hv ?_
      cases hz : voidP ⟨15, nm, n, l⟩
      · rw [hz] at hs
        simp [hs]
      · rw [hz] at hs
        simp [hs]
    · simp [h15]
      refine callK.mk ent_r7_Void hv ?_
      cases hz : voidP ⟨op, nm, n, l⟩
      · rw [hz] at hs
        simp [hs]
      · rw [hz] at hs
        simp [hs]
/-! ### Replacing, in the reference -/
theorem ent_r7_with : VM.Enters Tryd.prog 106 := VM.Enters.mk Tryd.func106 rfl
theorem r7_with_cs (p : Pr) (l : List Pr) : CS Tryd.prog G 106 [.agg (prD p), .sl (l.map prC)] (.d (.agg (prD ⟨p.op, p.name, p.n, l⟩))) none := by
  refine CS.of_VK Tryd.func106 rfl Tryd.ntmps106 rfl ?_
  simp
theorem ent_r7_SubstAll : VM.Enters Tryd.prog 127 := VM.Enters.mk Tryd.func127 rfl
theorem r7_SubstAll_cs (ns : List Nm) (bys : List Pr) (h1 : ns.length ≤ 1000000) (h2 : bys.length ≤ 900000000) : ∀ p : Pr, nodP p ≤ 900000000 → CS Tryd.prog G 127 [.agg (prD p), .sl (strs ns), .sl (bys.map prC)] (.d (.agg (prD (substP ns bys p)))) none := by
  refine Pr.ind fun p ih => ?_
  obtain ⟨op, nm, n, l⟩ := p
  intro hN
  simp only at ih
  have hn := nodP_kids ⟨op, nm, n, l⟩
  have hm := substP_eq ns bys ⟨op, nm, n, l⟩
  simp only at hn hm
  have hl := len_le_nodPs l
  refine CS.of_VK Tryd.func127 rfl Tryd.ntmps127 rfl ?_
  by_cases h5 : op = 3
  · subst h5
    simp
    refine callK.mk ent_r4_Find (r4_Find_cs ns nm h1) ?_
    rcases find_range nm ns with hf | ⟨hf0, hf1⟩
    · have hge : ¬ 0 ≤ findI nm ns 0 := by omega
      rw [pickP_none (by omega)] at hm
      simp only at hm
      simp [hge]
      refine SW.loopF (ι := { i : Nat // i ≤ l.length }) (fun i => [(8, .d (.sl ((l.take i.1).map (prC ∘ substP ns bys)))), (33, .d (.int .i64 i.1))]) (fun _ => [(3, prO 3 nm n (.sl (l.map prC))), (6, prO 0 [] 0 .nils)]) (fun _ => [(36, [.t 8])]) (fun i => l.length - i.1) ⟨0, by simp⟩ (by simp) ?_
      rintro ⟨i, hi⟩
      by_cases hlt : i < l.length
      · have hg := prs_get hlt
        have hw := wrap64s (show i < 9223372036854775807 by omega)
        have hs2 := map_stepC (prC ∘ substP ns bys) hlt
        simp at hs2
        have h4 : ∀ (x : List D), x ∈ List.take i (List.map (prC ∘ substP ns bys) l) → x.length = 4 := len_mem (by simp)
        have hb2 := nodPs_step hlt
        have hb3 := nodPs_take_le l (i + 1)
        simp [hlt, hg]
        refine callK.mk ent_r7_SubstAll (ih l[i] (List.getElem_mem hlt) (by omega)) ?_
        simp
        refine stepK_len ⟨h4, by omega⟩ ?_
        simp
        exact Again.mk ⟨i + 1, hlt⟩ (by simp [hw, hs2]) (by simp; omega)
      · have : i = l.length := by omega
        subst this
        simp
        have hwi := r7_with_cs (G := G) ⟨3, nm, n, l⟩ (l.map (substP ns bys))
        simp at hwi
        refine callK.mk ent_r7_with hwi ?_
        simp [hm]
    · obtain ⟨k, hk⟩ : ∃ k : Nat, findI nm ns 0 = (k : Int) := ⟨(findI nm ns 0).toNat, by omega⟩
      rw [pickP_at hk] at hm
      by_cases hkl : k < bys.length
      · rw [List.getElem?_eq_getElem hkl] at hm
        simp only at hm
        have hg := prs_get hkl
        simp [hk, hkl, hg, hm]
      · rw [List.getElem?_eq_none (by omega)] at hm
        simp only at hm
        simp [hk, hkl]
        refine SW.loopF (ι := { i : Nat // i ≤ l.length }) (fun i => [(8, .d (.sl ((l.take i.1).map (prC ∘ substP ns bys)))), (33, .d (.int .i64 i.1))]) (fun _ => [(3, prO 3 nm n (.sl (l.map prC))), (6, prO 0 [] 0 .nils)]) (fun _ => [(36, [.t 8])]) (fun i => l.length - i.1) ⟨0, by simp⟩ (by simp) ?_
        rintro ⟨i, hi⟩
        by_cases hlt : i < l.length
        · have hg := prs_get hlt
          have hw := wrap64s (show i < 9223372036854775807 by omega)
          have hs2 := map_stepC (prC ∘ substP ns bys) hlt
          simp at hs2
          have h4 : ∀ (x : List D), x ∈ List.take i (List.map (prC ∘ substP ns bys) l) → x.length = 4 := len_mem (by simp)
          have hb2 := nodPs_step hlt
          have hb3 := nodPs_take_le l (i + 1)
          simp [hlt, hg]
          refine callK.mk ent_r7_SubstAll (ih l[i] (List.getElem_mem hlt) (by omega)) ?_
          simp
          refine stepK_len ⟨h4, by omega⟩ ?_
          simp
          exact Again.mk ⟨i + 1, hlt⟩ (by simp [hw, hs2]) (by simp; omega)
        · have : i = l.length := by omega
          subst this
          simp
          have hwi := r7_with_cs (G := G) ⟨3, nm, n, l⟩ (l.map (substP ns bys))
          simp at hwi
          refine callK.mk ent_r7_with hwi ?_
          simp [hm]
  · rw [pickP_none (by omega)] at hm
    simp only at hm
    simp [h5]
    refine SW.loopF (ι := { i : Nat // i ≤ l.length }) (fun i => [(8, .d (.sl ((l.take i.1).map (prC ∘ substP ns bys)))), (33, .d (.int .i64 i.1))]) (fun _ => [(3, prO op nm n (.sl (l.map prC))), (6, prO 0 [] 0 .nils)]) (fun _ => [(36, [.t 8])]) (fun i => l.length - i.1) ⟨0, by simp⟩ (by simp) ?_
    rintro ⟨i, hi⟩
    by_cases hlt : i < l.length
    · have hg := prs_get hlt
      have hw := wrap64s (show i < 9223372036854775807 by omega)
      have hs2 := map_stepC (prC ∘ substP ns bys) hlt
      simp at hs2
      have h4 : ∀ (x : List D), x ∈ List.take i (List.map (prC ∘ substP ns bys) l) → x.length = 4 := len_mem (by simp)
      have hb2 := nodPs_step hlt
      have hb3 := nodPs_take_le l (i + 1)
      simp [hlt, hg]
      refine callK.mk ent_r7_SubstAll (ih l[i] (List.getElem_mem hlt) (by omega)) ?_
      simp
      refine stepK_len ⟨h4, by omega⟩ ?_
      simp
      exact Again.mk ⟨i + 1, hlt⟩ (by simp [hw, hs2]) (by simp; omega)
    · have : i = l.length := by omega
      subst this
      simp
      have hwi := r7_with_cs (G := G) ⟨op, nm, n, l⟩ (l.map (substP ns bys))
      simp at hwi
      refine callK.mk ent_r7_with hwi ?_
      simp [hm]
/-! ### Levels -/
theorem ent_r7_Depth : VM.Enters Tryd.prog 132 := VM.Enters.mk Tryd.func132 rfl
theorem r7_Depth_cs (p : Pr) : nodP p ≤ 900000000 → CS Tryd.prog G 132 [.agg (prD p)] (.d (.int .i64 (depP p))) none := by
  revert p
  refine Pr.ind fun p ih => ?_
  obtain ⟨op, nm, n, l⟩ := p
  intro hN
  simp only at ih
  have hn := nodP_kids ⟨op, nm, n, l⟩
  have hd := depP_eq ⟨op, nm, n, l⟩
  simp only at hn hd
  have hl := len_le_nodPs l
  have hle := depPs_le l 0
  refine CS.of_VK Tryd.func132 rfl Tryd.ntmps132 rfl ?_
  simp
  refine SW.loopF (ι := { i : Nat // i ≤ l.length }) (fun i => [(3, .d (.int .i64 (depPs (l.take i.1) 0))), (9, .d (.int .i64 i.1))]) (fun _ => [(1, prO op nm n (.sl (l.map prC)))]) (fun _ => []) (fun i => l.length - i.1) ⟨0, by simp⟩ (by simp [depPs]) ?_
  rintro ⟨i, hi⟩
  by_cases hlt : i < l.length
  · have hg := prs_get hlt
    have hw := wrap64s (show i < 9223372036854775807 by omega)
    have hs := depPs_step hlt 0
    have hb2 := nodPs_step hlt
    have hb3 := nodPs_take_le l (i + 1)
    simp [hlt, hg]
    refine callK.mk ent_r7_Depth (ih l[i] (List.getElem_mem hlt) (by omega)) ?_
    simp
    exact Again.mk ⟨i + 1, hlt⟩ (by simp [hw, hs]; split <;> omega) (by simp; omega)
  · have : i = l.length := by omega
    subst this
    have hw : IntKind.i64.wrap ((depPs l 0 : Int) + 1) = ((depPs l 0 + 1 : Nat) : Int) := wrap64s (by omega)
    simp [hw, hd]
end Go.Proofs.YtmjpdmkgmlhfaaaDoor
