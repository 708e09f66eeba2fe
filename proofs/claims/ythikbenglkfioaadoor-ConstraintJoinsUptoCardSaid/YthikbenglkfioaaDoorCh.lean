/- The statements ConstraintFlats, ConstraintParts. No condition. -/
import Derived.Test.YthikbenglkfioaaDoorCb
import Derived.Test.YthikbenglkfioaaDoorCg
import Derived.Test.YthikbenglkfioaaDoorCy
import Derived.Test.YthikbenglkfioaaDoorZ9
set_option linter.unusedVariables false
set_option linter.unusedSimpArgs false
set_option linter.unusedSectionVars false
namespace Go.Proofs.YthikbenglkfioaaDoor
open Go Go.VM
set_option maxRecDepth 100000
set_option maxHeartbeats 8000000
theorem fewB_one (c : Cn) : fewB [c] = fewC c := by simp [fewB, fewCs]
mutual
theorem few_wt : ∀ c : Cn, fewC c = true → wtC c ≤ nodC c * 61
  | ⟨op, nm, s, p, t, l⟩, h => by
    simp only [fewC, Bool.and_eq_true, decide_eq_true_eq] at h
    have := fews_wt l h.2.2.1
    simp only [wtC, nodC, Nat.add_mul]
    omega
theorem fews_wt : ∀ l : List Cn, fewCs l = true → wtCs l ≤ nodCs l * 61
  | [], _ => by simp [wtCs]
  | c :: r, h => by
    simp only [fewCs, Bool.and_eq_true] at h
    have h1 := few_wt c h.1
    have h2 := fews_wt r h.2
    simp only [wtCs, nodCs, Nat.add_mul]
    omega
end
theorem few_small {c : Cn} (h : fewC c = true) : nodC c ≤ 60 ∧ wtC c ≤ 3660 := by
  have h1 := few_wt c h
  rw [fewC_eq] at h
  simp only [Bool.and_eq_true, decide_eq_true_eq] at h
  omega
theorem fews_mem : ∀ {l : List Cn} {c : Cn}, fewCs l = true → c ∈ l → fewC c = true
  | d :: r, c, h, hc => by
    simp only [fewCs, Bool.and_eq_true] at h
    rcases List.mem_cons.1 hc with rfl | hc
    · exact h.1
    · exact fews_mem h.2 hc
theorem l38_ConstraintFlats_cs (c : Cn) (hs : szL (cnC c) ≤ 1048576) : CS Tryd.prog G0 4 [.agg (cnD c)] (.d (.bool true)) none := by
  have hw := wtC_sz c
  have hn := nodC_wt c
  have hf := l38_few_cs (G := G0) (wtCs [c]) [c] (Nat.le_refl _) (by simp [wtCs]; omega)
  have hl := flatC_len c [] []
  have hnl := namesC_len c []
  simp only [List.length_nil, Nat.zero_add] at hnl
  have e1 := r38_SameClauses_cs (G := G0) (flatC c [] []) (flatC c [] []) (by omega) (flat_OkL (by omega))
  have e2 := r4_Same_cs (G := G0) (namesC c []) (namesC c []) (by omega)
  rw [fewB_one] at hf
  simp at hf e1 e2
  refine CS.of_VK Tryd.func4 rfl Tryd.ntmps4 rfl ?_
  simp
  refine ⟨lexOk.mk (by kernel_rfl), ?_⟩
  refine callK.mk ent_l38_few hf ?_
  cases hfw : fewC c
  · simp
    refine callK.mk ent_l38_alive (l38_alive_cs ) ?_
    simp
  simp
  refine callK.mk ent_constraint_Flat (constraint_Flat_cs c (by omega)) ?_
  simp
  refine callK.mk ent_r38_Flat (r38_Flat_cs c (by omega)) ?_
  simp
  refine callK.mk ent_r38_SameClauses e1 ?_
  simp
  refine callK.mk ent_constraint_Heads (constraint_Heads_cs c (by omega)) ?_
  simp
  refine callK.mk ent_r38_Heads (r38_Heads_cs c (by omega)) ?_
  simp
  have hsm := few_small hfw
  refine callK.mk ent_constraint_Names (constraint_Names_cs c (by omega)) ?_
  simp
  refine callK.mk ent_r38_Names (r38_Names_cs c (by omega)) ?_
  simp
  refine callK.mk ent_r4_Same e2 ?_
  simp
  refine callK.mk ent_l38_alive (l38_alive_cs ) ?_
  simp
theorem constraintFlats_all (xs : List D) (h : FitsAll Tryd.prog [48] xs) (hsz : szL xs ≤ 1048576) : CS Tryd.prog G0 4 xs (.d (.bool true)) none := by
  match xs, h with
  | [a], ⟨h1, _⟩ =>
    obtain ⟨c, rfl⟩ := fitV_cn h1
    simp only [szL, szD] at hsz
    have := l38_ConstraintFlats_cs c (by omega)
    rw [cnC_eq]
    exact this
theorem l38_ConstraintParts_cs (l : List Cn) (hs : szLL (l.map cnC) ≤ 1048576) : CS Tryd.prog G0 5 [.sl (l.map cnC)] (.d (.bool true)) none := by
  have hw := wtCs_sz l
  have hf := l38_few_cs (G := G0) (wtCs l) l (Nat.le_refl _) (by omega)
  have hll := len_le_wtCs l
  refine CS.of_VK Tryd.func5 rfl Tryd.ntmps5 rfl ?_
  simp
  refine callK.mk ent_l38_few hf ?_
  cases hfw : fewB l
  · simp
    refine callK.mk ent_l38_alive (l38_alive_cs ) ?_
    simp
  by_cases h10 : 10 < l.length
  · simp [h10]
    refine callK.mk ent_l38_alive (l38_alive_cs ) ?_
    simp
  simp [h10]
  refine SW.loopF (ι := { i : Nat // i ≤ l.length }) (fun i => [(3, .d (.sl ((flatCs (l.take i.1) [] []).map clC))), (4, .d (.int .i64 (headsCs (l.take i.1)))), (19, .d (.int .i64 i.1))]) (fun _ => []) (fun _ => [(73, [.t 3])]) (fun i => l.length - i.1) ⟨0, by simp⟩ (by simp [flatCs, headsCs]) ?_
  rintro ⟨i, hi⟩
  by_cases hlt : i < l.length
  · have hg := cns_get hlt
    have hw := wrap64s (show i < 9223372036854775807 by omega)
    have hsx := flatCs_step hlt [] []
    have hb := flatCs_len (l.take i) [] []
    have hb1 := flatC_len l[i] [] []
    have hs := headsCs_step hlt
    have hb2 := wtCs_step hlt
    have hb3 := wtCs_take_le l (i + 1)
    have hb4 := headsCs_le (l.take (i + 1))
    have hw2 : IntKind.i64.wrap (((headsCs (l.take i) : Nat) : Int) + (headsC l[i] : Int)) = ((headsCs (l.take (i + 1)) : Nat) : Int) := by rw [wrap64 (by omega), hs]; omega
    simp [hlt, hg]
    refine callK.mk ent_constraint_Flat (constraint_Flat_cs l[i] (by omega)) ?_
    simp
    refine stepK_len (by omega) ?_
    simp
    refine callK.mk ent_constraint_Heads (constraint_Heads_cs l[i] (by omega)) ?_
    simp
    exact Again.mk ⟨i + 1, hlt⟩ (by simp [hw, hw2, hsx]) (by simp; omega)
  · have : i = l.length := by omega
    subst this
    have ha := constraint_And_cs (G := G0) (wtCs l) l (Nat.le_refl _) (by omega)
    have hwa : wtC ⟨1, [], [], zerP, 0, andCs l⟩ ≤ 900000000 := by
      have := andCs_wt l
      simp only [wtC, zerP, nodP, nodPs]
      omega
    have hfl : flatC ⟨1, [], [], zerP, 0, andCs l⟩ [] [] = flatCs l [] [] := by
      rw [flatC_eq]
      simp [varsC2, hypsC2, flats_and]
    have hhe : headsC ⟨1, [], [], zerP, 0, andCs l⟩ = headsCs l := by
      rw [headsC_eq]
      simp [headss_and]
    have hFl := constraint_Flat_cs (G := G0) ⟨1, [], [], zerP, 0, andCs l⟩ hwa
    have hHe := constraint_Heads_cs (G := G0) ⟨1, [], [], zerP, 0, andCs l⟩ hwa
    have hok := flat_OkL hwa
    have hln := flatC_len ⟨1, [], [], zerP, 0, andCs l⟩ [] []
    rw [hfl] at hFl hok hln
    rw [hhe] at hHe
    have e1 := r38_SameClauses_cs (G := G0) (flatCs l [] []) (flatCs l [] []) (by omega) hok
    simp at e1
    simp
    refine callK.mk ent_constraint_And ha ?_
    simp
    refine callK.mk ent_constraint_Flat hFl ?_
    simp
    refine callK.mk ent_r38_SameClauses e1 ?_
    simp
    refine callK.mk ent_constraint_Heads hHe ?_
    simp
    refine callK.mk ent_l38_alive (l38_alive_cs ) ?_
    simp
theorem constraintParts_all (xs : List D) (h : FitsAll Tryd.prog [46] xs) (hsz : szL xs ≤ 1048576) : CS Tryd.prog G0 5 xs (.d (.bool true)) none := by
  match xs, h with
  | [a], ⟨h1, _⟩ =>
    obtain ⟨l, rfl⟩ := fitV_cns h1
    simp only [szL, szD] at hsz
    exact l38_ConstraintParts_cs l (by omega)
end Go.Proofs.YthikbenglkfioaaDoor
