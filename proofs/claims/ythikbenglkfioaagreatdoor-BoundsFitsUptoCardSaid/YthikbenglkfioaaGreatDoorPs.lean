/- The sorts of predicates: the walks of the reference's Of and Bool. No condition. -/
import Derived.Test.YthikbenglkfioaaGreatDoorPo
import Derived.Test.YthikbenglkfioaaGreatDoorPr
import Derived.Test.YthikbenglkfioaaGreatDoorZA
set_option linter.unusedVariables false
set_option linter.unusedSimpArgs false
set_option linter.unusedSectionVars false
namespace Go.Proofs.YthikbenglkfioaaGreatDoor
open Go Go.VM
set_option maxRecDepth 100000
set_option maxHeartbeats 8000000
variable {G : GT}
theorem ent_r9_Zero : VM.Enters Tryz.prog 44 := VM.Enters.mk Tryz.func44 rfl
theorem r9_Zero_cs (p : Pr) (hl : p.kids.length ≤ 900000000) : CS Tryz.prog G 44 [.agg (prD p)] (.d (.bool (decide (p = zerP)))) none := by
  obtain ⟨op, nm, n, l⟩ := p
  simp only at hl
  refine CS.of_VK Tryz.func44 rfl Tryz.ntmps44 rfl ?_
  by_cases h1 : op = 0
  rotate_left
  · simp [h1, zerP]
  by_cases h2 : nm = []
  rotate_left
  · have h2' : nm.isEmpty = false := by cases nm <;> simp at h2 ⊢
    simp [h1, h2, h2', zerP]
  by_cases h3 : n = 0
  rotate_left
  · simp [h1, h2, h3, zerP]
  cases l with
  | nil => simp [h1, h2, h3, zerP]
  | cons a r =>
    have : ¬ ((r.length : Int) + 1 = 0) := by omega
    simp [h1, h2, h3, zerP, this]
theorem ent_r9_all : VM.Enters Tryz.prog 161 := VM.Enters.mk Tryz.func161 rfl
theorem r9_all_cs (ks : List Nm) (s : Nm) (hk : ks.length ≤ 900000000) : CS Tryz.prog G 161 [.sl (strs ks), .str s] (.d (.bool (allS s ks))) none := by
  refine CS.of_VK Tryz.func161 rfl Tryz.ntmps161 rfl ?_
  simp
  refine SW.loopF (ι := { i : Nat // i ≤ ks.length ∧ allS s (ks.drop i) = allS s ks }) (fun i => [(5, .d (.int .i64 i.1))]) (fun _ => []) (fun _ => []) (fun i => ks.length - i.1) ⟨0, by simp⟩ (by simp) ?_
  rintro ⟨i, hi, hR⟩
  try simp only at hi hR
  by_cases hlt : i < ks.length
  · have hg := strs_get hlt
    have hw := wrap64s (show i < 9223372036854775807 by omega)
    have hd : allS s (ks.drop i) = (decide (ks[i] = s) && allS s (ks.drop (i + 1))) := by
      rw [List.drop_eq_getElem_cons hlt]
      rfl
    rw [hd] at hR
    by_cases hs : ks[i] = s
    · simp only [hs, decide_true, Bool.true_and] at hR
      simp [hlt, hg, hs]
      exact Again.mk ⟨i + 1, hlt, hR⟩ (by simp [hw]) (by simp; omega)
    · simp only [hs, decide_false, Bool.false_and] at hR
      simp [hlt, hg, hs, ← hR]
  · have : i = ks.length := by omega
    subst this
    have : allS s ks = true := by rw [← hR]; simp [allS]
    simp [this]
theorem ent_r9_app : VM.Enters Tryz.prog 135 := VM.Enters.mk Tryz.func135 rfl
theorem r9_app_cs (v : EnvL) (hv : FitE v) (nm : Nm) (ks : List Nm) (hk : ks.length ≤ 2000000) : CS Tryz.prog G 135 [.agg (envC v), .str nm, .sl (strs ks)] (.tup [.str (appS v nm ks).1, .int .i64 (appS v nm ks).2]) none := by
  have hF := r6_Find_cs (G := G) v nm hv.syms
  have hm : appS v nm ks = if (symR nm v.syms).2 = false then ([], 5)
    else if nm = [116, 97, 103] then (if ks.length ≠ 1 then ([], 13) else if plainS (ks.headD []) then ([], 11) else ((symR nm v.syms).1.res, 0))
    else if ks.length ≠ (symR nm v.syms).1.args.length then ([], 13) else if ks = (symR nm v.syms).1.args then ((symR nm v.syms).1.res, 0) else ([], 11) := rfl
  have htag : nm = [116, 97, 103] → (symR nm v.syms).1.res = [73, 110, 116] := by
    intro h
    subst h
    simp [symR]
  obtain ⟨⟨y, ok⟩, hy⟩ : ∃ y, symR nm v.syms = y := ⟨_, rfl⟩
  rw [hy] at hm hF htag
  simp only [envC, symC] at hF hm htag ⊢
  refine CS.of_VK Tryz.func135 rfl Tryz.ntmps135 rfl ?_
  simp
  refine callK.mk ent_r6_Find hF ?_
  cases ok
  · simp at hm
    simp [hm]
  simp at hm
  by_cases ht : nm = [116, 97, 103]
  · have hres := htag ht
    simp [ht] at hm
    by_cases h1 : ks.length = 1
    · obtain ⟨a, rfl⟩ := List.length_eq_one_iff.1 h1
      simp only [List.length_singleton, not_true_eq_false, if_false, List.headD_cons] at hm
      by_cases b1 : a = [73, 110, 116]
      · simp [b1, plainS] at hm
        simp [ht, strs, b1, hm]
      by_cases b2 : a = [66, 111, 111, 108]
      · simp [b2, plainS] at hm
        simp [ht, strs, b2, hm]
      by_cases b3 : a = [67, 101, 108, 108]
      · simp [b3, plainS] at hm
        simp [ht, strs, b3, hm]
      · simp [b1, b2, b3, plainS] at hm
        simp [ht, strs, b1, b2, b3, hm, hres]
    · have h1' : ¬ ((ks.length : Int) = 1) := by omega
      simp [h1] at hm
      simp [ht, h1, h1', hm]
  simp [ht] at hm
  by_cases hl : ks.length = y.args.length
  rotate_left
  · have hl' : ¬ ((ks.length : Int) = (y.args.length : Int)) := by omega
    simp [hl] at hm
    simp [ht, hl, hl', hm]
  simp [hl] at hm
  simp [ht, hl]
  refine callK.mk ent_r6_SameSorts (r6_SameSorts_cs ks y.args hk) ?_
  by_cases he : ks = y.args
  · simp [he] at hm
    simp [he, hm]
  · simp [he] at hm
    simp [he, hm]
theorem ent_r9_hole : VM.Enters Tryz.prog 136 := VM.Enters.mk Tryz.func136 rfl
theorem r9_hole_cs (v : EnvL) (hv : FitE v) (nm : Nm) (ks : List Nm) (hk : ks.length ≤ 900000000) : CS Tryz.prog G 136 [.agg (envC v), .str nm, .sl (strs ks)] (.tup [.str (holS v nm ks).1, .int .i64 (holS v nm ks).2]) none := by
  have hF := r6_Hole_cs (G := G) v nm hv.holes
  have hm : holS v nm ks = if (holeR nm v.holes).2 = false then ([], 5)
    else if ks.length ≠ (holeR nm v.holes).1.params.length then ([], 13) else if ks = (holeR nm v.holes).1.params.map (·.2) then (sBool, 0) else ([], 11) := rfl
  obtain ⟨⟨y, ok⟩, hy⟩ : ∃ y, holeR nm v.holes = y := ⟨_, rfl⟩
  rw [hy] at hm hF
  simp only [envC, holeC] at hF hm ⊢
  refine CS.of_VK Tryz.func136 rfl Tryz.ntmps136 rfl ?_
  simp
  refine callK.mk ent_r6_Hole hF ?_
  cases ok
  · simp at hm
    simp [hm]
  simp at hm
  by_cases hl : ks.length = y.params.length
  rotate_left
  · have hl' : ¬ ((ks.length : Int) = (y.params.length : Int)) := by omega
    simp [hl] at hm
    simp [varsC, hl, hl', hm]
  simp [hl] at hm
  simp [varsC, hl]
  refine SW.loopF (ι := { i : Nat // i ≤ ks.length ∧ decide (ks.drop i = (y.params.map (·.2)).drop i) = decide (ks = y.params.map (·.2)) }) (fun i => [(10, .d (.int .i64 i.1))]) (fun _ => [(8, .cells [.d (.str y.name), .d (.sl (y.params.map varC))])]) (fun _ => []) (fun i => ks.length - i.1) ⟨0, by simp⟩ (by simp) ?_
  rintro ⟨i, hi, hR⟩
  try simp only at hi hR
  by_cases hlt : i < ks.length
  · have hlt' : i < y.params.length := by omega
    have hlt2 : i < (y.params.map (·.2)).length := by simpa using hlt'
    have hg := strs_get hlt
    have hw := wrap64s (show i < 9223372036854775807 by omega)
    rw [strs_cmp hlt hlt2] at hR
    simp only [List.getElem_map] at hR
    by_cases hs : ks[i] = y.params[i].2
    · simp only [hs, decide_true, Bool.true_and] at hR
      simp [hlt, hlt', hg, hs, varC]
      exact ⟨lexOk.mk (by kernel_rfl), Again.mk ⟨i + 1, hlt, hR⟩ (by simp [hw]) (by simp; omega)⟩
    · simp only [hs, decide_false, Bool.false_and] at hR
      have hne : ¬ ks = y.params.map (·.2) := of_decide_eq_false hR.symm
      simp only [hne, if_false] at hm
      simp [hlt, hlt', hg, hs, hm, varC]
      exact lexOk.mk (by kernel_rfl)
  · have : i = ks.length := by omega
    subst this
    have hl2 : ks.length = (y.params.map (·.2)).length := by simpa using hl
    rw [List.drop_length, hl2, List.drop_length] at hR
    have hab : ks = y.params.map (·.2) := by simpa using hR.symm
    rw [if_pos hab] at hm
    have h9 : ¬ ks.length < y.params.length := by omega
    simp [hm, h9]
theorem ent_r9_operation : VM.Enters Tryz.prog 137 := VM.Enters.mk Tryz.func137 rfl
theorem r9_operation_cs (op : Int) (ks : List Nm) (hk : ks.length ≤ 900000000) (h2 : op = 10 ∨ op = 11 → ks.length = 2) :
    CS Tryz.prog G 137 [.int .i64 op, .sl (strs ks)] (.tup [.str (opS op ks).1, .int .i64 (opS op ks).2]) none := by
  have hm : opS op ks = if op = 6 ∨ op = 7 ∨ op = 8 ∨ op = 9 then (if allS sInt ks then (sInt, 0) else ([], 11))
    else if op = 12 ∨ op = 13 then (if allS sInt ks then (sBool, 0) else ([], 11))
    else if op = 10 ∨ op = 11 then (if eqS ks then (sBool, 0) else ([], 11))
    else if allS sBool ks then (sBool, 0) else ([], 11) := rfl
  refine CS.of_VK Tryz.func137 rfl Tryz.ntmps137 rfl ?_
  by_cases c1 : op = 6 ∨ op = 7 ∨ op = 8 ∨ op = 9
  · rw [if_pos c1] at hm
    rcases c1 with c | c | c | c
    all_goals
      simp [c]
      rw [c] at hm
      refine callK.mk ent_r9_all (r9_all_cs ks [73, 110, 116] hk) ?_
      cases ha : allS [73, 110, 116] ks
      · simp [ha] at hm
        simp [hm]
      · simp [ha] at hm
        simp [hm]
  rw [if_neg c1] at hm
  simp only [not_or] at c1
  obtain ⟨d6, d7, d8, d9⟩ := c1
  by_cases c2 : op = 12 ∨ op = 13
  · rw [if_pos c2] at hm
    rcases c2 with c | c
    all_goals
      simp [c]
      rw [c] at hm
      refine callK.mk ent_r9_all (r9_all_cs ks [73, 110, 116] hk) ?_
      cases ha : allS [73, 110, 116] ks
      · simp [ha] at hm
        simp [hm]
      · simp [ha] at hm
        simp [hm]
  rw [if_neg c2] at hm
  by_cases c3 : op = 10 ∨ op = 11
  · have h3 := h2 c3
    match ks, h3 with
    | [a, b], _ =>
      rw [if_pos c3] at hm
      by_cases hab : a = b
      · simp [eqS, hab] at hm
        rcases c3 with c | c
        · rw [c] at hm
          simp [c, strs, hab, hm]
          exact lexOk.mk (by kernel_rfl)
        · rw [c] at hm
          simp [c, strs, hab, hm]
          exact lexOk.mk (by kernel_rfl)
      · simp [eqS, hab] at hm
        rcases c3 with c | c
        · rw [c] at hm
          simp [c, strs, hab, hm]
          exact lexOk.mk (by kernel_rfl)
        · rw [c] at hm
          simp [c, strs, hab, hm]
          exact lexOk.mk (by kernel_rfl)
  · rw [if_neg c3] at hm
    simp only [not_or] at c2 c3
    obtain ⟨d12, d13⟩ := c2
    obtain ⟨d10, d11⟩ := c3
    simp [d6, d7, d8, d9, d10, d11, d12, d13]
    refine callK.mk ent_r9_all (r9_all_cs ks [66, 111, 111, 108] hk) ?_
    cases ha : allS [66, 111, 111, 108] ks
    · simp [ha] at hm
      simp [hm]
    · simp [ha] at hm
      simp [hm]
theorem bad_take {v : EnvL} {l : List Pr} {i : Nat} {ks : List Nm} (hi : i < l.length) (h : ofMs v (l.take i) = .ok ks) (he : ¬ (ofM v l[i]).2 = 0) : ofMs v l = .error (ofM v l[i]).2 := ofMs_bad hi h he
theorem ent_r9_of : VM.Enters Tryz.prog 92 := VM.Enters.mk Tryz.func92 rfl
theorem r9_of_cs (v : EnvL) (hv : FitE v) : ∀ p : Pr, GoodP p → nodP p ≤ 1000000 →
    CS Tryz.prog G 92 [.agg (envC v), .agg (prD p)] (.tup [.str (ofM v p).1, .int .i64 (ofM v p).2]) none := by
  refine Pr.ind fun p ih => ?_
  intro hg hN
  have htwo := fun h => good_two hg h
  have hkid : ∀ k ∈ p.kids, GoodP k := fun k hk => hg.kid hk
  obtain ⟨op, nm, n, l⟩ := p
  simp only at ih htwo hkid
  have hn := nodP_kids ⟨op, nm, n, l⟩
  have hm := ofM_eq v ⟨op, nm, n, l⟩
  simp only at hn hm
  have hl := len_le_nodPs l
  have hV := r6_Var_cs (G := G) v nm hv.vars
  simp only [envC] at ih hV ⊢
  refine CS.of_VK Tryz.func92 rfl Tryz.ntmps92 rfl ?_
  simp
  refine SW.loopF (ι := { x : Nat × List Nm // x.1 ≤ l.length ∧ ofMs v (l.take x.1) = .ok x.2 }) (fun x => [(6, .d (.sl (strs x.1.2))), (7, .d (.int .i64 x.1.1))]) (fun _ => [(2, envO v), (3, prO op nm n (.sl (l.map prC)))]) (fun _ => [(43, [.t 6])]) (fun x => l.length - x.1.1) ⟨(0, []), by simp [ofMs]⟩ (by simp) ?_
  rintro ⟨⟨i, ks⟩, hi, hR⟩
  try simp only at hi hR
  have hkl := ofMs_len v _ _ hR
  have hkl2 : ks.length = i := by rw [hkl]; simp; omega
  by_cases hlt : i < l.length
  · have hg := prs_get hlt
    have hw := wrap64s (show i < 9223372036854775807 by omega)
    have hb2 := nodPs_step hlt
    have hb3 := nodPs_take_le l (i + 1)
    have hsz : (ks.length + 1) * 17 ≤ 140737488355328 := by omega
    have hc := ih l[i] (List.getElem_mem hlt) (hkid _ (List.getElem_mem hlt)) (by omega)
    simp [hlt, hg]
    refine ⟨lexOk.mk (by kernel_rfl), ?_⟩
    refine callK.mk ent_r9_of hc ?_
    by_cases he : (ofM v l[i]).2 = 0
    · have hs := ofMs_ok hlt hR he
      simp [he, hsz]
      exact Again.mk ⟨(i + 1, ks ++ [(ofM v l[i]).1]), hlt, hs⟩ (by simp [hw]) (by simp; omega)
    · have hb := ofMs_bad hlt hR he
      rw [hb] at hm
      simp only at hm
      simp [he, hm]
  · have : i = l.length := by omega
    subst this
    rw [List.take_length] at hR
    rw [hR] at hm
    simp only [nodeS] at hm
    have hA := r9_app_cs (G := G) v hv nm ks (by omega)
    have hH := r9_hole_cs (G := G) v hv nm ks (by omega)
    have hO := r9_operation_cs (G := G) op ks (by omega) (fun h => by rw [hkl2]; exact htwo h)
    simp only [envC] at hA hH
    by_cases h1 : op = 1
    · simp [h1] at hm
      simp [h1, hm]
    by_cases hh2 : op = 2
    · simp [hh2] at hm
      simp [hh2, hm]
    by_cases h3 : op = 3
    · simp [h3] at hm
      simp [h3]
      refine callK.mk ent_r6_Var hV ?_
      cases hok : (varR nm v.vars).2
      · simp [hok] at hm
        simp [hm]
      · simp [hok] at hm
        simp [hm]
    by_cases h4 : op = 4
    · simp [h4] at hm
      simp [h4]
      refine callK.mk ent_r9_app hA ?_
      simp [hm]
    by_cases h5 : op = 5
    · simp [h5] at hm
      simp [h5]
      refine callK.mk ent_r9_hole hH ?_
      simp [hm]
    simp only [h1, hh2, h3, h4, h5, if_false] at hm
    simp [h1, hh2, h3, h4, h5]
    refine callK.mk ent_r9_operation hO ?_
    simp [hm]
theorem ent_r9_Of : VM.Enters Tryz.prog 45 := VM.Enters.mk Tryz.func45 rfl
theorem r9_Of_cs (v : EnvL) (hv : FitE v) (p : Pr) (hN : nodP p ≤ 1000000) : CS Tryz.prog G 45 [.agg (envC v), .agg (prD p)] (.tup [.str (ofE v p).1, .int .i64 (ofE v p).2]) none := by
  have hc := r7_Check_cs (G := G) p (by omega)
  simp only [envC]
  refine CS.of_VK Tryz.func45 rfl Tryz.ntmps45 rfl ?_
  simp
  refine callK.mk ent_r7_Check hc ?_
  by_cases h0 : chkE p = 0
  · have h1 := r9_of_cs (G := G) v hv p (good_of h0) hN
    simp only [envC] at h1
    simp [h0]
    refine callK.mk ent_r9_of h1 ?_
    simp [ofE, h0]
  · simp [h0, ofE]
theorem ent_r9_Bool : VM.Enters Tryz.prog 16 := VM.Enters.mk Tryz.func16 rfl
theorem r9_Bool_cs (v : EnvL) (hv : FitE v) (p : Pr) (hN : nodP p ≤ 1000000) : CS Tryz.prog G 16 [.agg (envC v), .agg (prD p)] (.d (.int .i64 (boolE v p))) none := by
  have hO := r9_Of_cs (G := G) v hv p hN
  have e1 := r9_Zero_cs (G := G) p (by have := nodP_kids p; have := len_le_nodPs p.kids; omega)
  simp only [envC] at hO ⊢
  refine CS.of_VK Tryz.func16 rfl Tryz.ntmps16 rfl ?_
  simp
  refine callK.mk ent_r9_Zero e1 ?_
  by_cases hz : p = zerP
  · simp [hz, boolE]
  · simp [hz]
    refine callK.mk ent_r9_Of hO ?_
    by_cases h0 : (ofE v p).2 = 0
    · by_cases hb : (ofE v p).1 = [66, 111, 111, 108]
      · simp [h0, hb, boolE, hz]
      · simp [h0, hb, boolE, hz]
    · simp [h0, boolE, hz]
end Go.Proofs.YthikbenglkfioaaGreatDoor
