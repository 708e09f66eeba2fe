/- The statement TypesUnified. No condition. -/
import Derived.Test.YtidlddiopgfdiaaDoorUj
set_option linter.unusedVariables false
set_option linter.unusedSimpArgs false
set_option linter.unusedSectionVars false
namespace Go.Proofs.YtidlddiopgfdiaaDoor
open Go Go.VM
set_option maxRecDepth 100000
set_option maxHeartbeats 8000000
variable {G : GT}
mutual
theorem WT_mono {m k : Nat} (h : m ≤ k) : ∀ p : Tm, WT m p → WT k p
  | .var _, _ => trivial
  | .node op nm l, ⟨h1, h2, h3⟩ => ⟨h1, Nat.le_trans h2 h, WTs_mono h l h3⟩
theorem WTs_mono {m k : Nat} (h : m ≤ k) : ∀ l : List Tm, WTs m l → WTs k l
  | [], _ => trivial
  | t :: r, ⟨h1, h2⟩ => ⟨WT_mono h t h1, WTs_mono h r h2⟩
end
theorem theta_wt {b : Bd} {θ : Sb} {m : Nat} (I : BInv b θ) (hb : WB m b) : ∀ x u, θ x = some u → WT m u := by
  obtain ⟨r, hr⟩ := I.rank
  have key : ∀ n x u, r x ≤ n → θ x = some u → WT m u := by
    intro n
    induction n with
    | zero =>
      intro x u hn hx
      cases hl : look b x with
      | none => rw [(I.dom x).1 hl] at hx; cases hx
      | some w =>
        have e := I.eqn x w hl
        rw [hx] at e
        cases e
        have hid : sub θ w = w := sub_id fun y hy => by
          cases hy2 : look b y with
          | none => exact (I.dom y).1 hy2
          | some z => have := hr x w y hl hy (by rw [hy2]; simp); omega
        rw [hid]
        exact hb x w hl
    | succ n ih =>
      intro x u hn hx
      cases hl : look b x with
      | none => rw [(I.dom x).1 hl] at hx; cases hx
      | some w =>
        have e := I.eqn x w hl
        rw [hx] at e
        cases e
        have hc : sub θ w = sub (fun y => if occ y w then θ y else none) w := sub_congr fun y hy => by simp [hy]
        rw [hc]
        refine WT_sub (fun y v hv => ?_) w (hb x w hl)
        split at hv
        · rename_i hy
          cases hy2 : look b y with
          | none => rw [(I.dom y).1 hy2] at hv; cases hv
          | some z =>
            have := hr x w y hl hy (by rw [hy2]; simp)
            exact ih y v (by omega) hv
        · cases hv
  exact fun x u hx => key (r x) x u (Nat.le_refl _) hx
theorem theta_cu {b : Bd} {θ : Sb} {U : List Nm} (I : BInv b θ) (hb : CB U b) : ∀ x u, θ x = some u → CU U u := by
  obtain ⟨r, hr⟩ := I.rank
  have key : ∀ n x u, r x < n → θ x = some u → CU U u := by
    intro n
    induction n with
    | zero => intro x u hn; omega
    | succ n ih =>
      intro x u hn hx y hy
      cases hl : look b x with
      | none => rw [(I.dom x).1 hl] at hx; cases hx
      | some w =>
        have e := I.eqn x w hl
        rw [hx] at e
        cases e
        obtain ⟨z, h1, h2⟩ := (occ_sub θ y w).1 hy
        cases hz : θ z with
        | none =>
          rw [hz] at h2
          simp only [Option.getD_none, occ, decide_eq_true_eq] at h2
          subst h2
          exact hb x w hl z h1
        | some v =>
          rw [hz] at h2
          have hlz : look b z ≠ none := fun e => by rw [(I.dom z).1 e] at hz; cases hz
          have := hr x w z hl h1 hlz
          exact ih z v (by omega) hz y h2
  exact fun x u hx => key (r x + 1) x u (by omega) hx
theorem l19_TypesUnified_cs (s t : Ty) (hs : szL (tyC s) + szL (tyC t) ≤ 1048576) : CS Tryd.prog G0 4 [.agg (tyD s), .agg (tyD t)] (.d (.bool true)) none := by
  have h1 := allT_sz s
  have h2 := allT_sz t
  have h3 := nodT_all s
  have h4 := nodT_all t
  have hf := l19_few_cs (G := G0) (allTs [s, t]) [s, t] (Nat.le_refl _) (by simp only [allTs]; omega)
  simp at hf
  refine CS.of_VK Tryd.func4 rfl Tryd.ntmps4 rfl ?_
  simp
  refine ⟨lexOk.mk (by kernel_rfl), ?_⟩
  refine callK.mk ent_l19_few hf ?_
  cases hfw : fewTs [s, t]
  · simp
    refine callK.mk ent_l19_alive (l19_alive_cs ) ?_
    simp
  simp [fewTs] at hfw
  have n1 := few_nod hfw.1
  have n2 := few_nod hfw.2
  simp
  refine callK.mk ent_types_Check (types_Check_cs G0_kw s (by omega)) ?_
  by_cases hc : checkT s = 0
  rotate_left
  · simp [hc]
    refine callK.mk ent_l19_alive (l19_alive_cs ) ?_
    simp
  simp [hc]
  refine callK.mk ent_types_Check (types_Check_cs G0_kw t (by omega)) ?_
  by_cases hd : checkT t = 0
  rotate_left
  · simp [hd]
    refine callK.mk ent_l19_alive (l19_alive_cs ) ?_
    simp
  simp [hd]
  refine callK.mk ent_r19_Vars (r19_Vars_cs s (by omega)) ?_
  simp
  refine callK.mk ent_r19_Vars (r19_Vars_cs t (by omega)) ?_
  have v1 := varsT_len s []
  have v2 := varsT_len t []
  simp only [List.length_nil, Nat.zero_add] at v1 v2
  have hw6 : IntKind.i64.wrap (((varsT s []).length : Int) + ((varsT t []).length : Int)) = ((varsT s []).length : Int) + ((varsT t []).length : Int) := wrap64 (by omega)
  by_cases h66 : 6 < (varsT s []).length + (varsT t []).length
  · have h66' : (6 : Int) < ((varsT s []).length : Int) + ((varsT t []).length : Int) := by omega
    simp [hw6, h66, h66']
    refine callK.mk ent_l19_alive (l19_alive_cs ) ?_
    simp
  have h66' : ¬ (6 : Int) < ((varsT s []).length : Int) + ((varsT t []).length : Int) := by omega
  simp [hw6, h66, h66']
  obtain ⟨b, θ, ok, R, hWB, hU⟩ := unify_ex G0 s t (by omega) (by omega)
  cases ok with
  | false =>
    simp only [Bool.false_eq_true, if_false] at hU
    refine callK.mk ent_types_Unify hU ?_
    simp
    refine callK.mk ent_l19_alive (l19_alive_cs ) ?_
    simp
  | true =>
    rw [if_pos rfl] at hU
    have I := R.inv
    have hθ := theta_wt I hWB
    have ws := WT_tm s (show nodT s ≤ 1000000 by omega)
    have wt := WT_tm t (show nodT t ≤ 1000000 by omega)
    obtain ⟨n, hn⟩ : ∃ n, bndN b (allV s t) = n := ⟨_, rfl⟩
    obtain ⟨L, hL⟩ : ∃ L, (n.map fun x => tyC (tyT (sub θ (.var x)))) = L := ⟨_, rfl⟩
    have hLl : L.length = n.length := by rw [← hL]; simp
    rw [hn, hL] at hU
    have hnl : n.length ≤ 1000000 := by
      have a1 := bndN_len b (allV s t)
      rw [hn] at a1
      unfold allV at a1
      have a2 := varsT_len (bareT t) (varsT (bareT s) [])
      have a3 := varsT_len (bareT s) []
      have a4 := nod_bare s
      have a5 := nod_bare t
      simp only [List.length_nil] at a3
      omega
    have hks : ∀ w ∈ (n.map fun x => tyT (sub θ (.var x))), LnT 900000000 w := fun w hw => by
      obtain ⟨x, _, rfl⟩ := List.mem_map.1 hw
      exact LnT_tm (by omega) _ (WT_mono (by omega) _ (WT_sub hθ (.var x) trivial))
    have mk : ∀ q : Ty, formT q = 0 → WT 1000000 (tmT q) → (∀ y, occ y (tmT q) = true → y ∈ allV s t) → CS Tryd.prog G0 16 [.agg (tyD (plainT q)), .sl (strs n), .sl L] (.d (.agg (tmD (sub θ (tmT q))))) none := fun q hq hw hy => by
      have e1 := types_Subst_ln (G := G0) n (n.map fun x => tyT (sub θ (.var x))) (by omega) (by simp; omega) hks (tyT (tmT q)) (LnT_tm (by omega) _ (WT_mono (by omega) _ hw))
      have e2 : (n.map fun x => tyT (sub θ (.var x))) = (n.map fun x => sub θ (.var x)).map tyT := by simp
      have e3 := rho_theta I hy
      rw [hn] at e3
      have e4 : (n.map fun x => tyT (sub θ (.var x))).map tyC = L := by rw [← hL, List.map_map]; rfl
      rw [e4, e2, sub_tyT n _ _ hw, e3, ← plain_tm hq] at e1
      exact e1
    have hS := mk s (checkT_ok hc) ws fun y hy => allV_s hy
    have hT := mk t (checkT_ok hd) wt fun y hy => allV_t hy
    have hst : sub θ (tmT t) = sub θ (tmT s) := (R.same rfl (tmT s, tmT t) (by simp)).symm
    rw [hst] at hT
    obtain ⟨u, hu⟩ : ∃ u, sub θ (tmT s) = u := ⟨_, rfl⟩
    have hwu : WT 900000000 u := by rw [← hu]; exact WT_mono (by omega) _ (WT_sub hθ _ ws)
    have hun : ∀ y, occ y u = true → θ y = none := fun y hy => by rw [← hu] at hy; exact I.occ_none hy
    have hua : ∀ y, occ y u = true → y ∈ allV s t := fun y hy => by
      rw [← hu] at hy
      obtain ⟨x, hx1, hx2⟩ := (occ_sub θ y _).1 hy
      cases hq : θ x with
      | none =>
        rw [hq] at hx2
        simp only [Option.getD_none, occ, decide_eq_true_eq] at hx2
        subst hx2
        exact allV_s hx1
      | some w =>
        rw [hq] at hx2
        exact theta_cu I R.cb x w hq y hx2
    rw [hu] at hS hT
    have hvl : (varsT (tyT u) []).length ≤ 1000000 := by
      have a1 := nodup_len (l := varsT (tyT u) []) (k := allV s t) (vars_nodup _ _ (by simp)) fun y hy => hua y (((vars_occ hwu []).1 hy).resolve_left (by simp))
      unfold allV at a1
      have a2 := varsT_len (bareT t) (varsT (bareT s) [])
      have a3 := varsT_len (bareT s) []
      have a4 := nod_bare s
      have a5 := nod_bare t
      simp only [List.length_nil] at a3
      omega
    have hV := types_Vars_ln (G := G0) (tyT u) (LnT_tm (by omega) _ hwu) (by omega)
    have hSame := types_Same_ln (G := G0) (tyT u) (tyT u) (LnT_tm (by omega) _ hwu)
    rw [(sameT_iff _ _).2 rfl] at hSame
    obtain ⟨vs, hvs⟩ : ∃ vs, varsT (tyT u) [] = vs := ⟨_, rfl⟩
    have hno : ∀ x ∈ vs, findI x n 0 < 0 := fun x hx => by
      rw [← hvs] at hx
      have hx2 := ((vars_occ hwu []).1 hx).resolve_left (by simp)
      refine (find_neg x n).2 fun hm => ?_
      rw [← hn] at hm
      exact (bnd_look.1 hm).2 ((I.dom x).2 (hun x hx2))
    rw [hvs] at hV hvl
    refine callK.mk ent_types_Unify hU ?_
    simp [hLl]
    refine ⟨lexOk.mk (by kernel_rfl), ?_⟩
    refine callK.mk ent_types_Plain (types_Plain_cs s (by omega)) ?_
    simp
    refine callK.mk ent_types_Subst hS ?_
    simp
    refine callK.mk ent_types_Plain (types_Plain_cs t (by omega)) ?_
    simp
    refine callK.mk ent_types_Subst hT ?_
    simp
    refine callK.mk ent_types_Vars hV ?_
    simp
    refine SW.loopF (ι := { i : Nat // i ≤ vs.length }) (fun i => [(82, .d (.int .i64 i.1))]) (fun _ => [(2, tyB s), (3, tyB t), (8, tyB (tyT u)), (9, tyB (tyT u))]) (fun _ => []) (fun i => vs.length - i.1) ⟨0, by simp⟩ (by simp) ?_
    rintro ⟨i, hi⟩
    by_cases hlt : i < vs.length
    · have hg := strs_get hlt
      have hw := wrap64s (show i < 9223372036854775807 by omega)
      have hx := hno vs[i] (List.getElem_mem hlt)
      have hx' : ¬ 0 ≤ findI vs[i] n 0 := by omega
      simp [hlt, hg]
      refine callK.mk ent_r4_Find (r4_Find_cs n vs[i] hnl) ?_
      simp [hx']
      exact Again.mk ⟨i + 1, hlt⟩ (by simp [hw]) (by simp; omega)
    · have : i = vs.length := by omega
      subst this
      simp
      refine callK.mk ent_types_Same hSame ?_
      simp
      refine callK.mk ent_l19_alive (l19_alive_cs ) ?_
      simp
theorem typesUnified_all (xs : List D) (h : FitsAll Tryd.prog [30, 30] xs) (hsz : szL xs ≤ 1048576) : CS Tryd.prog G0 4 xs (.d (.bool true)) none := by
  match xs, h with
  | [a, b], ⟨h1, h2, _⟩ =>
    obtain ⟨s, rfl⟩ := fitV_ty h1
    obtain ⟨t, rfl⟩ := fitV_ty h2
    simp only [szL, szD] at hsz
    have := l19_TypesUnified_cs s t (by omega)
    rw [tyC_eq, tyC_eq]
    exact this
end Go.Proofs.YtidlddiopgfdiaaDoor
