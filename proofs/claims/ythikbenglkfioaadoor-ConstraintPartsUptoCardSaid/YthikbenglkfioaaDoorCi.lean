/- The statements ConstraintJoins, ConstraintFills. No condition. -/
import Derived.Test.YthikbenglkfioaaDoorCh
set_option linter.unusedVariables false
set_option linter.unusedSimpArgs false
set_option linter.unusedSectionVars false
namespace Go.Proofs.YthikbenglkfioaaDoor
open Go Go.VM
set_option maxRecDepth 100000
set_option maxHeartbeats 8000000
theorem ho_sz (H : List Ho) : H.length ≤ szLL (H.map hoC) ∧ ∀ h ∈ H, h.2.length * 2 ≤ szLL (H.map hoC) := by
  induction H with
  | nil => simp [szLL]
  | cons x r ih =>
    have hv : ∀ m : List Vr, m.length * 2 ≤ szLL (m.map vrC) := fun m => by
      induction m with
      | nil => simp [szLL]
      | cons v m ihm => simp only [List.length_cons, List.map_cons, szLL, vrC, szL, szD]; omega
    have h2 := hv x.2
    obtain ⟨i1, i2⟩ := ih
    simp only [List.map_cons, szLL, hoC_eq, szL, szD, List.length_cons]
    refine ⟨by omega, fun h hh => ?_⟩
    rcases List.mem_cons.1 hh with rfl | hh
    · omega
    · have := i2 h hh
      omega
theorem so_sz (S : List So) : S.length ≤ szLL (S.map soC) ∧ ∀ s ∈ S, nodP s.2 ≤ szLL (S.map soC) := by
  induction S with
  | nil => simp [szLL]
  | cons x r ih =>
    have h1 := nodPs_sz x.2.kids
    have h2 := nodP_kids x.2
    obtain ⟨i1, i2⟩ := ih
    simp only [List.map_cons, szLL, soC_eq, szL, szD, List.length_cons]
    refine ⟨by omega, fun h hh => ?_⟩
    rcases List.mem_cons.1 hh with rfl | hh
    · omega
    · have := i2 h hh
      omega
theorem pow5 {d : Nat} (h : d ≤ 5) : 10 ^ d ≤ 100000 := by
  have : 10 ^ d ≤ 10 ^ 5 := Nat.pow_le_pow_right (by omega) h
  simpa using this
theorem small_pow {p : Pr} (h1 : nodP p ≤ 60) (h2 : depP p ≤ 5) : nodP p * 10 ^ depP p ≤ 6000000 := Nat.le_trans (Nat.mul_le_mul h1 (pow5 h2)) (by omega)
mutual
theorem lv_of : ∀ c : Cn, fewC c = true → shC c = true → LvC c
  | ⟨op, nm, s, p, t, l⟩, h1, h2 => by
    simp only [fewC, shC, Bool.and_eq_true, decide_eq_true_eq] at h1 h2
    exact ⟨Nat.le_trans (small_pow h1.2.1 h2.2) (by omega), lvs_of l h1.2.2.1 h2.1⟩
theorem lvs_of : ∀ l : List Cn, fewCs l = true → shCs l = true → LvCs l
  | [], _, _ => trivial
  | c :: r, h1, h2 => by
    simp only [fewCs, shCs, Bool.and_eq_true] at h1 h2
    exact ⟨lv_of c h1.1 h2.1, lvs_of r h1.2 h2.2⟩
end
mutual
theorem wt_fill {H : List (Nm × List Nm)} {S : List (Nm × Pr)} (hS : ∀ s ∈ S, nodP s.2 ≤ 10) : ∀ c : Cn, shC c = true → wtC (fillC H S c) ≤ wtC c * 100000
  | ⟨op, nm, s, p, t, l⟩, h => by
    simp only [shC, Bool.and_eq_true, decide_eq_true_eq] at h
    have h1 := nod_fill (H := H) hS p
    have h2 : nodP p * 10 ^ depP p ≤ nodP p * 100000 := Nat.mul_le_mul_left _ (pow5 h.2)
    have h3 := wts_fill (H := H) hS l h.1
    simp only [fillC, fill_zero, wtC, Nat.add_mul]
    omega
theorem wts_fill {H : List (Nm × List Nm)} {S : List (Nm × Pr)} (hS : ∀ s ∈ S, nodP s.2 ≤ 10) : ∀ l : List Cn, shCs l = true → wtCs (fillCs H S l) ≤ wtCs l * 100000
  | [], _ => by simp [fillCs, wtCs]
  | c :: r, h => by
    simp only [shCs, Bool.and_eq_true] at h
    have h1 := wt_fill (H := H) hS c h.1
    have h2 := wts_fill (H := H) hS r h.2
    simp only [fillCs, wtCs, Nat.add_mul]
    omega
end
theorem take_all {α : Type} {P : α → Prop} {l : List α} {i : Nat} (hlt : i < l.length) (h : ∀ s ∈ l.take i, P s) (h1 : P l[i]) : ∀ s ∈ l.take (i + 1), P s := fun s hs => by
  rw [List.take_succ_eq_append_getElem hlt] at hs
  rcases List.mem_append.1 hs with hs | hs
  · exact h s hs
  · rw [List.mem_singleton] at hs
    rw [hs]; exact h1
theorem l38_ConstraintJoins_cs (l : List Cn) (H : List Ho) (S : List So) (hs : szLL (l.map cnC) + (szLL (H.map hoC) + szLL (S.map soC)) ≤ 1048576) : CS Tryd.prog G0 6 [.sl (l.map cnC), .sl (H.map hoC), .sl (S.map soC)] (.d (.bool true)) none := by
  have hw := wtCs_sz l
  have hf := l38_few_cs (G := G0) (wtCs l) l (Nat.le_refl _) (by omega)
  have hll := len_le_wtCs l
  obtain ⟨hH1, hH2⟩ := ho_sz H
  obtain ⟨hS1, hS2⟩ := so_sz S
  refine CS.of_VK Tryd.func6 rfl Tryd.ntmps6 rfl ?_
  simp
  refine callK.mk ent_l38_few hf ?_
  cases hfw : fewB l
  · simp
    refine callK.mk ent_l38_alive (l38_alive_cs ) ?_
    simp
  by_cases h10 : 10 < l.length
  · simp [h10]
    refine callK.mk ent_l38_alive (l38_alive_cs ) ?_
    simp
  by_cases hH8 : 8 < H.length
  · simp [h10, hH8]
    refine callK.mk ent_l38_alive (l38_alive_cs ) ?_
    simp
  by_cases hS8 : 8 < S.length
  · simp [h10, hH8, hS8]
    refine callK.mk ent_l38_alive (l38_alive_cs ) ?_
    simp
  simp [h10, hH8, hS8]
  refine SW.loopF (ι := { i : Nat // i ≤ S.length ∧ ∀ s ∈ S.take i, nodP s.2 ≤ 10 }) (fun i => [(33, .d (.int .i64 i.1))]) (fun _ => []) (fun _ => []) (fun i => S.length - i.1) ⟨0, by simp⟩ (by simp) ?_
  rintro ⟨i, hi, hT⟩
  try simp only at hi hT
  by_cases hlt : i < S.length
  · have hg := sos_get hlt
    have hw := wrap64s (show i < 9223372036854775807 by omega)
    have hn := r7_Nodes_cs (G := G0) S[i].2 (by have := hS2 _ (List.getElem_mem hlt); omega)
    simp [hlt, hg]
    refine callK.mk ent_r7_Nodes hn ?_
    by_cases hb : 10 < nodP S[i].2
    · simp [hb]
      refine callK.mk ent_l38_alive (l38_alive_cs ) ?_
      simp
    · simp [hb]
      exact Again.mk ⟨i + 1, hlt, take_all hlt hT (by omega)⟩ (by simp [hw]) (by simp; omega)
  have : i = S.length := by omega
  subst this
  rw [List.take_length] at hT
  have ha := constraint_And_cs (G := G0) (wtCs l) l (Nat.le_refl _) (by omega)
  have hra := r38_And_cs (G := G0) (wtCs l) l (Nat.le_refl _) (by omega)
  have hwa : wtC ⟨1, [], [], zerP, 0, andCs l⟩ ≤ 900000000 := by
    have := andCs_wt l
    simp only [wtC, zerP, nodP, nodPs]
    omega
  have hsm := r38_Same_cs (G := G0) ⟨1, [], [], zerP, 0, andCs l⟩ ⟨1, [], [], zerP, 0, andCs l⟩ hwa
  rw [samC_refl] at hsm
  simp
  refine callK.mk ent_constraint_And ha ?_
  simp
  refine ⟨lexOk.mk (by kernel_rfl), ?_⟩
  refine callK.mk ent_r38_And hra ?_
  simp
  refine callK.mk ent_r38_Same hsm ?_
  simp
  refine SW.loopF (ι := { i : Nat // i ≤ l.length }) (fun i => [(52, .d (.int .i64 i.1))]) (fun _ => []) (fun _ => []) (fun i => l.length - i.1) ⟨0, by simp⟩ (by simp) ?_
  rintro ⟨i, hi⟩
  by_cases hlt : i < l.length
  · have hg := cns_get hlt
    have hwr := wrap64s (show i < 9223372036854775807 by omega)
    have hm := wtCs_mem (List.getElem_mem hlt)
    have hfl := l38_flat_cs (G := G0) l[i] (by omega)
    simp [hlt, hg]
    refine callK.mk ent_l38_flat hfl ?_
    cases hsh : shC l[i]
    · simp
      refine callK.mk ent_l38_alive (l38_alive_cs ) ?_
      simp
    simp
    refine callK.mk ent_l38_params (l38_params_cs H (by omega)) ?_
    by_cases h20 : 20 < (H.flatMap (·.2)).length
    · simp at h20
      simp [h20]
      refine callK.mk ent_l38_alive (l38_alive_cs ) ?_
      simp
    simp at h20
    have h20' : ¬ 20 < (List.map (fun a => a.snd.length) H).sum := by omega
    have hfi : fewC l[i] = true := by
      simp only [fewB, Bool.and_eq_true] at hfw
      exact fews_mem hfw.1 (List.getElem_mem hlt)
    have hq := few_small hfi
    have hlv := lv_of l[i] hfi hsh
    have hF := constraint_Fill_cs (G := G0) H S (by omega) (fun h hh => by have := hH2 h hh; omega) (by omega) hT l[i] (by omega) hlv
    have hR := r38_Fill_cs (G := G0) H S (by omega) (fun h hh => by have := hH2 h hh; omega) (by omega) hT l[i] (by omega) hlv
    have hwf := wt_fill (H := hoN H) hT l[i] hsh
    have hsm := r38_Same_cs (G := G0) (fillC (hoN H) S l[i]) (fillC (hoN H) S l[i]) (by omega)
    rw [samC_refl] at hsm
    simp [h20']
    refine ⟨lexOk.mk (by kernel_rfl), ?_⟩
    refine callK.mk ent_constraint_Fill hF ?_
    simp
    refine callK.mk ent_r38_Fill hR ?_
    simp
    refine callK.mk ent_r38_Same hsm ?_
    simp
    exact Again.mk ⟨i + 1, hlt⟩ (by simp [hwr]) (by simp; omega)
  · have : i = l.length := by omega
    subst this
    simp
    refine callK.mk ent_l38_alive (l38_alive_cs ) ?_
    simp
theorem constraintJoins_all (xs : List D) (h : FitsAll Tryd.prog [46, 36, 65] xs) (hsz : szL xs ≤ 1048576) : CS Tryd.prog G0 6 xs (.d (.bool true)) none := by
  match xs, h with
  | [a, b, c], ⟨h1, h2, h3, _⟩ =>
    obtain ⟨l, rfl⟩ := fitV_cns h1
    obtain ⟨H, rfl⟩ := fitV_hos h2
    obtain ⟨S, rfl⟩ := fitV_sos h3
    simp only [szL, szD] at hsz
    exact l38_ConstraintJoins_cs l H S (by omega)
/-! ### Filling and flattening -/
mutual
theorem split_dep : ∀ (p q : Pr), q ∈ splitP p → depP q ≤ depP p
  | ⟨op, nm, n, l⟩, q, h => by
    by_cases hh : op = 15 ∧ l.length = 2
    · match l, hh with
      | [a, b], ⟨h15, _⟩ =>
        subst h15
        rw [splitP_and] at h
        simp only [depP, depPs]
        rcases List.mem_append.1 h with h | h
        · have := split_dep a q h
          omega
        · have := split_dep b q h
          omega
    · rw [splitP_other (p := ⟨op, nm, n, l⟩) hh] at h
      split at h
      · simp at h
      · simp at h
        subst h
        exact Nat.le_refl _
end
def Sml (p : Pr) : Prop := nodP p ≤ 60 ∧ depP p ≤ 5
theorem split_sml {p q : Pr} (h : Sml p) (hq : q ∈ splitP p) : Sml q := by
  have h1 := split_nod p q hq
  have h2 := split_dep p q hq
  exact ⟨Nat.le_trans h1 h.1, Nat.le_trans h2 h.2⟩
mutual
theorem flat_sml : ∀ (c : Cn) (vs : List Vr) (hs : List Pr), fewC c = true → shC c = true → (∀ h ∈ hs, Sml h) → ∀ x ∈ flatC c vs hs, (∀ h ∈ x.hyps, Sml h) ∧ Sml x.head
  | ⟨op, nm, s, p, t, l⟩, vs, hs, h1, h2, h3 => by
    simp only [fewC, shC, Bool.and_eq_true, decide_eq_true_eq] at h1 h2
    have hp : Sml p := ⟨h1.2.1, h2.2⟩
    intro x hx
    simp only [flatC] at hx
    split at hx
    · obtain ⟨q, hq, rfl⟩ := List.mem_map.1 hx
      exact ⟨h3, split_sml hp hq⟩
    · refine flats_sml l _ _ h1.2.2.1 h2.1 (fun h hh => ?_) x hx
      unfold hypsC2 at hh
      split at hh
      · rcases List.mem_append.1 hh with hh | hh
        · exact h3 h hh
        · exact split_sml hp hh
      · exact h3 h hh
theorem flats_sml : ∀ (l : List Cn) (vs : List Vr) (hs : List Pr), fewCs l = true → shCs l = true → (∀ h ∈ hs, Sml h) → ∀ x ∈ flatCs l vs hs, (∀ h ∈ x.hyps, Sml h) ∧ Sml x.head
  | [], vs, hs, _, _, _ => by simp [flatCs]
  | c :: r, vs, hs, h1, h2, h3 => by
    simp only [fewCs, shCs, Bool.and_eq_true] at h1 h2
    intro x hx
    simp only [flatCs] at hx
    rcases List.mem_append.1 hx with hx | hx
    · exact flat_sml c vs hs h1.1 h2.1 h3 x hx
    · exact flats_sml r vs hs h1.2 h2.2 h3 x hx
end
theorem flatMap_len {α β : Type} {f : α → List β} {B : Nat} : ∀ {l : List α}, (∀ x ∈ l, (f x).length ≤ B) → (l.flatMap f).length ≤ B * l.length
  | [], _ => by simp
  | x :: r, h => by
    have h1 := h x (.head _)
    have h2 := flatMap_len (l := r) fun y hy => h y (.tail _ hy)
    simp only [List.flatMap_cons, List.length_append, List.length_cons, Nat.mul_add]
    omega
theorem flatMap_step {α β : Type} (f : α → List β) {l : List α} {i : Nat} (h : i < l.length) : (l.take (i + 1)).flatMap f = (l.take i).flatMap f ++ f l[i] := by
  rw [List.take_succ_eq_append_getElem h, List.flatMap_append]
  simp
theorem flatMap_pre {α β : Type} (f : α → List β) (l : List α) (i : Nat) : ((l.take i).flatMap f).length ≤ (l.flatMap f).length := by
  conv => rhs; rw [← List.take_append_drop i l, List.flatMap_append, List.length_append]
  omega
theorem l38_ConstraintFills_cs (c : Cn) (H : List Ho) (S : List So) (hs : szL (cnC c) + (szLL (H.map hoC) + szLL (S.map soC)) ≤ 1048576) : CS Tryd.prog G0 7 [.agg (cnD c), .sl (H.map hoC), .sl (S.map soC)] (.d (.bool true)) none := by
  have hw := wtC_sz c
  have hf := l38_few_cs (G := G0) (wtCs [c]) [c] (Nat.le_refl _) (by simp [wtCs]; omega)
  have hfl := l38_flat_cs (G := G0) c (by omega)
  obtain ⟨hH1, hH2⟩ := ho_sz H
  obtain ⟨hS1, hS2⟩ := so_sz S
  rw [fewB_one] at hf
  simp at hf
  refine CS.of_VK Tryd.func7 rfl Tryd.ntmps7 rfl ?_
  simp
  refine callK.mk ent_l38_few hf ?_
  cases hfw : fewC c
  · simp
    refine callK.mk ent_l38_alive (l38_alive_cs ) ?_
    simp
  simp
  refine callK.mk ent_l38_flat hfl ?_
  cases hsh : shC c
  · simp
    refine callK.mk ent_l38_alive (l38_alive_cs ) ?_
    simp
  by_cases hH8 : 8 < H.length
  · simp [hH8]
    refine callK.mk ent_l38_alive (l38_alive_cs ) ?_
    simp
  by_cases hS8 : 8 < S.length
  · simp [hH8, hS8]
    refine callK.mk ent_l38_alive (l38_alive_cs ) ?_
    simp
  simp [hH8, hS8]
  refine callK.mk ent_l38_params (l38_params_cs H (by omega)) ?_
  by_cases h20 : 20 < (H.flatMap (·.2)).length
  · simp at h20
    simp [h20]
    refine callK.mk ent_l38_alive (l38_alive_cs ) ?_
    simp
  simp at h20
  have h20' : ¬ 20 < (List.map (fun a => a.snd.length) H).sum := by omega
  simp [h20']
  refine SW.loopF (ι := { i : Nat // i ≤ S.length ∧ ∀ s ∈ S.take i, nodP s.2 ≤ 10 }) (fun i => [(45, .d (.int .i64 i.1))]) (fun _ => [(3, cnO c.op c.name c.sort c.pred c.tag (.sl (c.kids.map cnC)))]) (fun _ => []) (fun i => S.length - i.1) ⟨0, by simp⟩ (by simp) ?_
  rintro ⟨i, hi, hT⟩
  try simp only at hi hT
  by_cases hlt : i < S.length
  · have hg := sos_get hlt
    have hw := wrap64s (show i < 9223372036854775807 by omega)
    have hn := r7_Nodes_cs (G := G0) S[i].2 (by have := hS2 _ (List.getElem_mem hlt); omega)
    simp [hlt, hg]
    refine callK.mk ent_r7_Nodes hn ?_
    by_cases hb : 10 < nodP S[i].2
    · simp [hb]
      refine callK.mk ent_l38_alive (l38_alive_cs ) ?_
      simp
    · simp [hb]
      exact Again.mk ⟨i + 1, hlt, take_all hlt hT (by omega)⟩ (by simp [hw]) (by simp; omega)
  have : i = S.length := by omega
  subst this
  rw [List.take_length] at hT
  have hq := few_small hfw
  have hlv := lv_of c hfw hsh
  have hwf := wt_fill (H := hoN H) hT c hsh
  have hFi := constraint_Fill_cs (G := G0) H S (by omega) (fun h hh => by have := hH2 h hh; omega) (by omega) hT c (by omega) hlv
  have hFl := constraint_Flat_cs (G := G0) (fillC (hoN H) S c) (by omega)
  have hff := flat_fill (hoN H) S c [] []
  simp only [List.flatMap_nil] at hff
  have hln := flatC_len (fillC (hoN H) S c) [] []
  have hok := flat_OkL (c := fillC (hoN H) S c) (by omega)
  have e1 := r38_SameClauses_cs (G := G0) (flatC (fillC (hoN H) S c) [] []) (flatC (fillC (hoN H) S c) [] []) (by omega) hok
  rw [hff] at hln e1 hFl
  have hsml := flat_sml c [] [] hfw hsh (by simp)
  have hfok := flat_ok c [] []
  have hfln := flatC_len c [] []
  obtain ⟨ks, hks⟩ : ∃ ks, flatC c [] [] = ks := ⟨_, rfl⟩
  have hFc := constraint_Flat_cs (G := G0) c (by omega)
  rw [hks] at hln e1 hFl hsml hFc hfok hfln
  simp at e1
  simp
  refine callK.mk ent_constraint_Flat hFc ?_
  simp
  refine SW.loopF (ι := { i : Nat // i ≤ ks.length }) (fun i => [(9, .d (.sl (((ks.take i.1).flatMap (fillL (hoN H) S)).map clC))), (58, .d (.int .i64 i.1))]) (fun _ => [(3, cnO c.op c.name c.sort c.pred c.tag (.sl (c.kids.map cnC)))]) (fun _ => [(73, [.t 9])]) (fun i => ks.length - i.1) ⟨0, by simp⟩ (by simp) ?_
  rintro ⟨i, hi⟩
  by_cases hlt : i < ks.length
  · have hg := cls_get hlt
    have hwr := wrap64s (show i < 9223372036854775807 by omega)
    have hst := flatMap_step (fillL (hoN H) S) hlt
    have hpre := flatMap_pre (fillL (hoN H) S) ks (i + 1)
    obtain ⟨k, hk⟩ : ∃ k, ks[i] = k := ⟨_, rfl⟩
    obtain ⟨m1, m2⟩ := hsml ks[i] (List.getElem_mem hlt)
    obtain ⟨m3, m4, m5⟩ := hfok ks[i] (List.getElem_mem hlt)
    rw [hk] at hg hst m1 m2 m3 m4 m5
    have hkl := len_le_nodPs k.hyps
    obtain ⟨W, hW⟩ : ∃ W, (ks.take i).flatMap (fillL (hoN H) S) = W := ⟨_, rfl⟩
    rw [hW] at hst
    rw [hst, List.length_append] at hpre
    simp only [List.length_nil, nodPs, Nat.zero_add] at m3 m4
    simp [hlt, hg, hk, hW]
    refine SW.loopF (ι := { j : Nat // j ≤ k.hyps.length }) (fun j => [(12, .d (.sl (((k.hyps.take j.1).flatMap fun h => splitP (fillP (hoN H) S h)).map prC))), (65, .d (.int .i64 j.1))]) (fun _ => [(3, cnO c.op c.name c.sort c.pred c.tag (.sl (c.kids.map cnC))), (11, clO k)]) (fun _ => [(73, [.t 9]), (31, [.t 12])]) (fun j => k.hyps.length - j.1) ⟨0, by simp⟩ (by simp) ?_
    rintro ⟨j, hj⟩
    by_cases hltj : j < k.hyps.length
    · have hgj := prs_get hltj
      have hwj := wrap64s (show j < 9223372036854775807 by omega)
      have hsj := flatMap_step (fun h => splitP (fillP (hoN H) S h)) hltj
      have hsm := m1 _ (List.getElem_mem hltj)
      have hpw := small_pow hsm.1 hsm.2
      have hnf := nod_fill (H := hoN H) hT k.hyps[j]
      have hF := r7_Fill_cs (G := G0) H S (by omega) (fun h hh => by have := hH2 h hh; omega) (by omega) hT k.hyps[j] (by omega)
      have hSp := r7_Split_cs (G := G0) (fillP (hoN H) S k.hyps[j]) (by omega)
      have hl1 := split_len (fillP (hoN H) S k.hyps[j])
      have hl2 : ((k.hyps.take j).flatMap fun h => splitP (fillP (hoN H) S h)).length ≤ 6000000 * (k.hyps.take j).length := flatMap_len fun h hh => by
        have hsm := m1 h (List.mem_of_mem_take hh)
        have := small_pow hsm.1 hsm.2
        have := nod_fill (H := hoN H) hT h
        have := split_len (fillP (hoN H) S h)
        omega
      have hl3 : (k.hyps.take j).length = j := by simp; omega
      rw [hl3] at hl2
      obtain ⟨Z, hZ⟩ : ∃ Z, ((k.hyps.take j).flatMap fun h => splitP (fillP (hoN H) S h)) = Z := ⟨_, rfl⟩
      rw [hZ] at hsj hl2
      simp [hltj, hgj, hZ]
      refine callK.mk ent_r7_Fill hF ?_
      simp
      refine callK.mk ent_r7_Split hSp ?_
      simp
      refine stepK_len (by omega) ?_
      simp
      exact Again.mk ⟨j + 1, hltj⟩ (by simp [hwj, hsj]) (by simp; omega)
    · have : j = k.hyps.length := by omega
      subst this
      have hpw := small_pow m2.1 m2.2
      have hnf := nod_fill (H := hoN H) hT k.head
      have hF := r7_Fill_cs (G := G0) H S (by omega) (fun h hh => by have := hH2 h hh; omega) (by omega) hT k.head (by omega)
      have hSp := r7_Split_cs (G := G0) (fillP (hoN H) S k.head) (by omega)
      have hl1 := split_len (fillP (hoN H) S k.head)
      obtain ⟨qs, hqs⟩ : ∃ qs, splitP (fillP (hoN H) S k.head) = qs := ⟨_, rfl⟩
      obtain ⟨Z, hZ⟩ : ∃ Z, (k.hyps.flatMap fun h => splitP (fillP (hoN H) S h)) = Z := ⟨_, rfl⟩
      have hfl : fillL (hoN H) S k = qs.map fun q => (⟨k.vars, Z, q, k.tag⟩ : Cl) := by rw [fillL, hqs, hZ]
      rw [hqs] at hSp hl1
      rw [hfl, List.length_map] at hpre
      rw [hfl] at hst
      simp [hZ]
      refine callK.mk ent_r7_Fill hF ?_
      simp
      refine callK.mk ent_r7_Split hSp ?_
      simp
      refine SW.loopF (ι := { j : Nat // j ≤ qs.length }) (fun j => [(9, .d (.sl ((W ++ (qs.take j.1).map fun q => (⟨k.vars, Z, q, k.tag⟩ : Cl)).map clC))), (84, .d (.int .i64 j.1))]) (fun _ => [(3, cnO c.op c.name c.sort c.pred c.tag (.sl (c.kids.map cnC))), (11, clO k)]) (fun _ => [(73, [.t 9])]) (fun j => qs.length - j.1) ⟨0, by simp⟩ (by simp) ?_
      rintro ⟨j, hj⟩
      by_cases hltj : j < qs.length
      · have hgj := prs_get hltj
        have hwj := wrap64s (show j < 9223372036854775807 by omega)
        have hsj := map_stepC (clC ∘ fun q => (⟨k.vars, Z, q, k.tag⟩ : Cl)) hltj
        have h7 : ∀ (x : List D), x ∈ List.take j (List.map (clC ∘ fun q => (⟨k.vars, Z, q, k.tag⟩ : Cl)) qs) → x.length = 7 := len_mem (by simp)
        have hmin : min j qs.length = j := by omega
        simp [hltj, hgj]
        simp at hsj h7
        refine stepK_len ⟨h7, by omega⟩ ?_
        simp
        exact Again.mk ⟨j + 1, hltj⟩ (by simp [hwj, hsj]) (by simp; omega)
      · have : j = qs.length := by omega
        subst this
        simp
        exact Again.mk ⟨i + 1, hlt⟩ (by simp [hwr, hst]) (by simp; omega)
  · have : i = ks.length := by omega
    subst this
    simp
    refine callK.mk ent_constraint_Fill hFi ?_
    simp
    refine callK.mk ent_constraint_Flat hFl ?_
    simp
    refine callK.mk ent_r38_SameClauses e1 ?_
    simp
    refine callK.mk ent_l38_alive (l38_alive_cs ) ?_
    simp
theorem constraintFills_all (xs : List D) (h : FitsAll Tryd.prog [48, 36, 65] xs) (hsz : szL xs ≤ 1048576) : CS Tryd.prog G0 7 xs (.d (.bool true)) none := by
  match xs, h with
  | [a, b, c], ⟨h1, h2, h3, _⟩ =>
    obtain ⟨c, rfl⟩ := fitV_cn h1
    obtain ⟨H, rfl⟩ := fitV_hos h2
    obtain ⟨S, rfl⟩ := fitV_sos h3
    simp only [szL, szD] at hsz
    have := l38_ConstraintFills_cs c H S (by omega)
    rw [cnC_eq]
    exact this
end Go.Proofs.YthikbenglkfioaaDoor
