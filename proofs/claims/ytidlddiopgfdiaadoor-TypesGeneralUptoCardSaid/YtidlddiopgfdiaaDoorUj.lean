/- The statement TypesGeneral. No condition. -/
import Derived.Test.YtidlddiopgfdiaaDoorUh
set_option linter.unusedVariables false
set_option linter.unusedSimpArgs false
set_option linter.unusedSectionVars false
namespace Go.Proofs.YtidlddiopgfdiaaDoor
open Go Go.VM
set_option maxRecDepth 100000
set_option maxHeartbeats 8000000
variable {G : GT}
def abc : List Nm := [[97], [98], [99]]
theorem ent_l19_a : VM.Enters Tryd.prog 21 := VM.Enters.mk Tryd.func21 rfl
theorem l19_a_cs (s : Nm) : CS Tryd.prog G 21 [.str s] (.d (.agg (tyD ⟨5, s, [], [], zeroP, []⟩))) none := by
  refine CS.of_VK Tryd.func21 rfl Tryd.ntmps21 rfl ?_
  simp [zeroP]
theorem rho_none (t : Tm) (ρ : Sb) : sub ρ (sub (fun _ => none) t) = sub ρ t := by rw [sub_none]
theorem want_at {bys : List Ty} {x : Nm} {k : Nat} (hk : findI x abc 0 = (k : Int)) (h : k < bys.length) : wantT abc bys x = bys[k] := by
  unfold wantT
  rw [pick_some hk h]
theorem want_no {bys : List Ty} {x : Nm} (h : ¬ 0 ≤ findI x abc 0) : wantT abc bys x = ⟨5, x, [], [], zeroP, []⟩ := by
  unfold wantT
  rw [pick_none (by omega)]
theorem l19_TypesGeneral_cs (s t : Ty) (bys : List Ty) (hs : szL (tyC s) + (szL (tyC t) + szLL (bys.map tyC)) ≤ 1048576) : CS Tryd.prog G0 5 [.agg (tyD s), .agg (tyD t), .sl (bys.map tyC)] (.d (.bool true)) none := by
  have h1 := allT_sz s
  have h2 := allT_sz t
  have h3 := nodT_all s
  have h4 := nodT_all t
  have h5 := allTs_sz bys
  have h6 := len_le_allTs bys
  have hf := l19_few_cs (G := G0) (allTs [s, t]) [s, t] (Nat.le_refl _) (by simp only [allTs]; omega)
  simp at hf
  refine CS.of_VK Tryd.func5 rfl Tryd.ntmps5 rfl ?_
  simp
  refine ⟨lexOk.mk (by kernel_rfl), ?_⟩
  refine callK.mk ent_l19_few hf ?_
  cases hfw : fewTs [s, t]
  · simp
    refine callK.mk ent_l19_alive (l19_alive_cs ) ?_
    simp
  simp [fewTs] at hfw
  have n1 := few_nod hfw.1
  have n2 := few_nod hfw.2
  simp
  refine callK.mk ent_l19_few (l19_few_cs (allTs bys) bys (Nat.le_refl _) (by omega)) ?_
  cases hfb : fewTs bys
  · simp
    refine callK.mk ent_l19_alive (l19_alive_cs ) ?_
    simp
  by_cases hb3 : bys.length = 3
  rotate_left
  · simp [hb3]
    refine callK.mk ent_l19_alive (l19_alive_cs ) ?_
    simp
  simp [hb3]
  refine callK.mk ent_types_Check (types_Check_cs G0_kw s (by omega)) ?_
  by_cases hc : checkT s = 0
  rotate_left
  · simp [hc]
    refine callK.mk ent_l19_alive (l19_alive_cs ) ?_
    simp
  simp [hc]
  refine callK.mk ent_types_Check (types_Check_cs G0_kw t (by omega)) ?_
  by_cases hd : checkT t = 0
  rotate_left
  · simp [hd]
    refine callK.mk ent_l19_alive (l19_alive_cs ) ?_
    simp
  simp [hd]
  refine callK.mk ent_r19_Vars (r19_Vars_cs s (by omega)) ?_
  simp
  refine callK.mk ent_r19_Vars (r19_Vars_cs t (by omega)) ?_
  have v1' := varsT_len s []
  have v2' := varsT_len t []
  simp only [List.length_nil, Nat.zero_add] at v1' v2'
  have hw6 : IntKind.i64.wrap (((varsT s []).length : Int) + ((varsT t []).length : Int)) = ((varsT s []).length : Int) + ((varsT t []).length : Int) := wrap64 (by omega)
  by_cases h66 : 6 < (varsT s []).length + (varsT t []).length
  · have h66' : (6 : Int) < ((varsT s []).length : Int) + ((varsT t []).length : Int) := by omega
    simp [hw6, h66, h66']
    refine callK.mk ent_l19_alive (l19_alive_cs ) ?_
    simp
  have h66' : ¬ (6 : Int) < ((varsT s []).length : Int) + ((varsT t []).length : Int) := by omega
  simp [hw6, h66, h66']
  refine SW.loopF (ι := { i : Nat // i ≤ bys.length }) (fun i => [(60, .d (.int .i64 i.1))]) (fun _ => [(3, tyB s), (4, tyB t)]) (fun _ => []) (fun i => bys.length - i.1) ⟨0, by simp⟩ (by simp) ?_
  rintro ⟨i, hi⟩
  by_cases hlt : i < bys.length
  · have hg := tys_get hlt
    have hw := wrap64s (show i < 9223372036854775807 by omega)
    have hb2 := allTs_mem hlt
    have hlt3 : i < 3 := by omega
    simp [hlt, hlt3, hg]
    refine callK.mk ent_types_Check (types_Check_cs G0_kw bys[i] (by omega)) ?_
    by_cases hk : checkT bys[i] = 0
    · simp [hk]
      exact Again.mk ⟨i + 1, hlt⟩ (by simp [hw]) (by simp; omega)
    · simp [hk]
      refine callK.mk ent_l19_alive (l19_alive_cs ) ?_
      simp
  have : i = bys.length := by omega
  subst this
  have p1 := allT_plain s
  have p2 := allT_plain t
  have p3 := nodT_all (plainT s)
  have p4 := nodT_all (plainT t)
  have hin : ∀ u ∈ bys, allT u ≤ 1048576 := fun u hu => by have := allTs_in hu; omega
  have z1 := subT_all abc bys 1048576 hin (plainT s)
  have z2 := subT_all abc bys 1048576 hin (plainT t)
  have m1 : nodT (plainT s) * (1048576 + 1) ≤ 60 * 1048577 := Nat.mul_le_mul_right _ (by rw [nod_plain]; exact n1)
  have m2 : nodT (plainT t) * (1048576 + 1) ≤ 60 * 1048577 := Nat.mul_le_mul_right _ (by rw [nod_plain]; exact n2)
  have hS := types_Subst_cs (G := G0) abc bys (by simp [abc]) (by omega) (fun u hu => by have := hin u hu; omega) (plainT s) (by omega)
  have hT := types_Subst_cs (G := G0) abc bys (by simp [abc]) (by omega) (fun u hu => by have := hin u hu; omega) (plainT t) (by omega)
  obtain ⟨u, hu⟩ : ∃ u, subT abc bys (plainT s) = u := ⟨_, rfl⟩
  obtain ⟨v, hv⟩ : ∃ v, subT abc bys (plainT t) = v := ⟨_, rfl⟩
  rw [hu] at z1 hS
  rw [hv] at z2 hT
  have q1 := nodT_all u
  have q2 := nodT_all v
  simp [hb3]
  refine ⟨lexOk.mk (by kernel_rfl), ?_⟩
  refine callK.mk ent_types_Plain (types_Plain_cs s (by omega)) ?_
  simp
  refine callK.mk ent_types_Subst hS ?_
  simp
  refine callK.mk ent_types_Plain (types_Plain_cs t (by omega)) ?_
  simp
  refine callK.mk ent_types_Subst hT ?_
  simp
  obtain ⟨b, θ, ok, R, _, hU⟩ := unify_ex G0 s t (by omega) (by omega)
  have hok : ok = false → sameT u v = false := fun h => by
    cases hq : sameT u v with
    | false => rfl
    | true =>
      have e := tm_same hq
      rw [← hu, ← hv, tm_sub, tm_sub] at e
      have := (R.best (rho abc (tmTs bys)) (fun w => rho_none w _) (fun p hp => by
        simp at hp
        subst hp
        exact e)).1
      rw [h] at this
      cases this
  obtain ⟨w1, w2⟩ := match_gen abc bys s [] (checkT_ok hc) (fun x v h => by simp [lookF] at h)
  rw [hu] at w1 w2
  have hM := types_Match_cs (G := G0) s u (by omega) (by omega)
  rw [if_pos w1, bare_plain s (checkT_ok hc), vars_plain] at hM
  obtain ⟨f, hf⟩ : ∃ f, (matchM (tmT s) u []).2 = f := ⟨_, rfl⟩
  have hhas : ∀ x ∈ varsT s [], foundT f x = plainT (wantT abc bys x) := fun x hx => by
    rw [← vars_plain, plain_tm (checkT_ok hc), vars_occ (WT_any s)] at hx
    have h1 := match_has (tmT s) u [] w1 (hx.resolve_left (by simp))
    rw [hf] at h1 w2
    obtain ⟨y, hy⟩ := Option.isSome_iff_exists.1 h1
    rw [foundT_eq hy]
    exact w2 x y hy
  rw [hf] at hM
  obtain ⟨vs, hvs⟩ : ∃ vs, varsT s [] = vs := ⟨_, rfl⟩
  have v1 := varsT_len s []
  simp only [List.length_nil, Nat.zero_add] at v1
  have hV := types_Vars_cs (G := G0) s (by omega)
  rw [hvs] at hM hV hhas v1
  cases ok with
  | true =>
    rw [if_pos rfl] at hU
    refine callK.mk ent_types_Unify hU ?_
    simp
    refine callK.mk ent_types_Match hM ?_
    simp
    refine callK.mk ent_types_Vars hV ?_
    simp
    refine SW.loopF (ι := { i : Nat // i ≤ vs.length }) (fun i => [(113, .d (.int .i64 i.1))]) (fun _ => [(3, tyB s), (4, tyB t), (10, tyB u), (11, tyB v)]) (fun _ => []) (fun i => vs.length - i.1) ⟨0, by simp⟩ (by simp) ?_
    rintro ⟨i, hi⟩
    by_cases hlt : i < vs.length
    · have hg := strs_get hlt
      have hw := wrap64s (show i < 9223372036854775807 by omega)
      have hx := hhas vs[i] (List.getElem_mem hlt)
      have hge : vs[i]? = some vs[i] := List.getElem?_eq_getElem hlt
      have hF := r4_Find_cs (G := G0) abc vs[i] (by simp [abc])
      simp [hlt, hg]
      refine callK.mk ent_l19_a (l19_a_cs vs[i]) ?_
      simp
      refine callK.mk ent_r4_Find hF ?_
      by_cases hk : 0 ≤ findI vs[i] abc 0
      · obtain ⟨k, hke⟩ : ∃ k : Nat, findI vs[i] abc 0 = (k : Int) := ⟨(findI vs[i] abc 0).toNat, by omega⟩
        have hkl : k < bys.length := by
          have := find_range vs[i] abc
          simp only [abc, List.length_cons, List.length_nil] at this hke
          omega
        have hgk := tys_get hkl
        have hsm : sameT (foundT f vs[i]) bys[k] = true := by
          rw [hx, want_at hke hkl]
          exact (sameT_iff _ _).2 (plain_twice _)
        have hgl := allTs_mem hkl
        have hn : nodT (foundT f vs[i]) ≤ 1048576 := by
          rw [hx, nod_plain, want_at hke hkl]
          have := nodT_all bys[k]
          omega
        simp [hke, hkl, hgk, hlt, hge]
        refine ⟨lexOk.mk (by kernel_rfl), ?_⟩
        refine callK.mk ent_types_Same (types_Same_cs (foundT f vs[i]) bys[k] (by omega)) ?_
        simp [hsm]
        exact Again.mk ⟨i + 1, hlt⟩ (by simp [hw]) (by simp; omega)
      · have hsm : sameT (foundT f vs[i]) ⟨5, vs[i], [], [], zeroP, []⟩ = true := by
          rw [hx, want_no hk]
          exact (sameT_iff _ _).2 (plain_twice _)
        have hn : nodT (foundT f vs[i]) ≤ 1048576 := by
          rw [hx, nod_plain, want_no hk]
          simp [nodT, nodTs]
        simp [hk, hlt, hge]
        refine ⟨lexOk.mk (by kernel_rfl), ?_⟩
        refine callK.mk ent_types_Same (types_Same_cs (foundT f vs[i]) ⟨5, vs[i], [], [], zeroP, []⟩ (by omega)) ?_
        simp [hsm]
        exact Again.mk ⟨i + 1, hlt⟩ (by simp [hw]) (by simp; omega)
    · have : i = vs.length := by omega
      subst this
      simp
      refine callK.mk ent_l19_alive (l19_alive_cs ) ?_
      simp
  | false =>
    have hno := hok rfl
    simp only [Bool.false_eq_true, if_false] at hU
    refine callK.mk ent_types_Unify hU ?_
    simp
    refine callK.mk ent_types_Same (types_Same_cs u v (by omega)) ?_
    simp [hno]
    refine callK.mk ent_types_Match hM ?_
    simp
    refine callK.mk ent_types_Vars hV ?_
    simp
    refine SW.loopF (ι := { i : Nat // i ≤ vs.length }) (fun i => [(113, .d (.int .i64 i.1))]) (fun _ => [(3, tyB s), (4, tyB t), (10, tyB u), (11, tyB v)]) (fun _ => []) (fun i => vs.length - i.1) ⟨0, by simp⟩ (by simp) ?_
    rintro ⟨i, hi⟩
    by_cases hlt : i < vs.length
    · have hg := strs_get hlt
      have hw := wrap64s (show i < 9223372036854775807 by omega)
      have hx := hhas vs[i] (List.getElem_mem hlt)
      have hge : vs[i]? = some vs[i] := List.getElem?_eq_getElem hlt
      have hF := r4_Find_cs (G := G0) abc vs[i] (by simp [abc])
      simp [hlt, hg]
      refine callK.mk ent_l19_a (l19_a_cs vs[i]) ?_
      simp
      refine callK.mk ent_r4_Find hF ?_
      by_cases hk : 0 ≤ findI vs[i] abc 0
      · obtain ⟨k, hke⟩ : ∃ k : Nat, findI vs[i] abc 0 = (k : Int) := ⟨(findI vs[i] abc 0).toNat, by omega⟩
        have hkl : k < bys.length := by
          have := find_range vs[i] abc
          simp only [abc, List.length_cons, List.length_nil] at this hke
          omega
        have hgk := tys_get hkl
        have hsm : sameT (foundT f vs[i]) bys[k] = true := by
          rw [hx, want_at hke hkl]
          exact (sameT_iff _ _).2 (plain_twice _)
        have hgl := allTs_mem hkl
        have hn : nodT (foundT f vs[i]) ≤ 1048576 := by
          rw [hx, nod_plain, want_at hke hkl]
          have := nodT_all bys[k]
          omega
        simp [hke, hkl, hgk, hlt, hge]
        refine ⟨lexOk.mk (by kernel_rfl), ?_⟩
        refine callK.mk ent_types_Same (types_Same_cs (foundT f vs[i]) bys[k] (by omega)) ?_
        simp [hsm]
        exact Again.mk ⟨i + 1, hlt⟩ (by simp [hw]) (by simp; omega)
      · have hsm : sameT (foundT f vs[i]) ⟨5, vs[i], [], [], zeroP, []⟩ = true := by
          rw [hx, want_no hk]
          exact (sameT_iff _ _).2 (plain_twice _)
        have hn : nodT (foundT f vs[i]) ≤ 1048576 := by
          rw [hx, nod_plain, want_no hk]
          simp [nodT, nodTs]
        simp [hk, hlt, hge]
        refine ⟨lexOk.mk (by kernel_rfl), ?_⟩
        refine callK.mk ent_types_Same (types_Same_cs (foundT f vs[i]) ⟨5, vs[i], [], [], zeroP, []⟩ (by omega)) ?_
        simp [hsm]
        exact Again.mk ⟨i + 1, hlt⟩ (by simp [hw]) (by simp; omega)
    · have : i = vs.length := by omega
      subst this
      simp
      refine callK.mk ent_l19_alive (l19_alive_cs ) ?_
      simp
theorem typesGeneral_all (xs : List D) (h : FitsAll Tryd.prog [30, 30, 23] xs) (hsz : szL xs ≤ 1048576) : CS Tryd.prog G0 5 xs (.d (.bool true)) none := by
  match xs, h with
  | [a, b, c], ⟨h1, h2, h3, _⟩ =>
    obtain ⟨s, rfl⟩ := fitV_ty h1
    obtain ⟨t, rfl⟩ := fitV_ty h2
    obtain ⟨fs, rfl, _, hfs⟩ := fitsV_sl ty_elem23 h3
    obtain ⟨bys, rfl⟩ := fits_tys hfs
    simp only [szL, szD] at hsz
    have := l19_TypesGeneral_cs s t bys (by omega)
    rw [tyC_eq, tyC_eq]
    exact this
end Go.Proofs.YtidlddiopgfdiaaDoor
