/- The reference: equations are solved, the first one first. No condition. -/
import Derived.Test.YtcmpodbjhoeblaaDoorWc
set_option linter.unusedVariables false
set_option linter.unusedSimpArgs false
set_option linter.unusedSectionVars false
namespace Go.Proofs.YtcmpodbjhoeblaaDoor
open Go Go.VM
set_option maxRecDepth 100000
set_option maxHeartbeats 8000000
variable {G : GT}
mutual
theorem WT_le {m k : Nat} (h : m ≤ k) : ∀ p : Tm, WT m p → WT k p
  | .var _, _ => trivial
  | .node _ _ l, ⟨h1, h2, h3⟩ => ⟨h1, Nat.le_trans h2 h, WTs_le h l h3⟩
theorem WTs_le {m k : Nat} (h : m ≤ k) : ∀ l : List Tm, WTs m l → WTs k l
  | [], _ => trivial
  | t :: r, ⟨h1, h2⟩ => ⟨WT_le h t h1, WTs_le h r h2⟩
end
theorem LnT_of {m : Nat} (hm : m ≤ 900000000) {p : Tm} (h : WT m p) : LnT 900000000 (tyT p) := LnT_tm (by omega) p (WT_le hm p h)
theorem find_ge (x : Nm) : ∀ (n : List Nm) (i : Nat), findI x n i = -1 ∨ (i : Int) ≤ findI x n i
  | [], i => .inl rfl
  | a :: r, i => by
    unfold findI
    split
    · exact .inr (Int.le_refl _)
    · rcases find_ge x r (i + 1) with h | h
      · exact .inl h
      · exact .inr (by omega)
theorem rho_look_at (x : Nm) : ∀ (s : Bd) (i : Nat), (if (i : Int) ≤ findI x (s.map (·.1)) i then (s.map (·.2))[(findI x (s.map (·.1)) i - i).toNat]? else none) = look s x
  | [], i => by simp [findI, look]
  | p :: r, i => by
    have ih := rho_look_at x r (i + 1)
    unfold look at ih ⊢
    simp only [List.map_cons, findI, List.find?_cons]
    by_cases hp : p.1 = x
    · simp [hp]
    · simp only [hp, if_false, decide_false]
      rw [← ih]
      rcases find_ge x (r.map (·.1)) (i + 1) with h | h
      · rw [h]
        rw [if_neg (by omega), if_neg (by omega)]
      · rw [if_pos (by omega), if_pos h]
        have : (findI x (r.map (·.1)) (i + 1) - i).toNat = (findI x (r.map (·.1)) (i + 1) - (i + 1 : Nat)).toNat + 1 := by omega
        rw [this, List.getElem?_cons_succ]
theorem rho_look (s : Bd) : rho (s.map (·.1)) (s.map (·.2)) = look s := by
  funext x
  have := rho_look_at x s 0
  simpa [rho] using this
/-- The terms of a solution are not too wide. -/
def WS (m : Nat) (s : Bd) : Prop := ∀ p ∈ s, WT m p.2
theorem r19_subst_s {m : Nat} (hm : m ≤ 900000000) (s : Bd) (hs : s.length ≤ 1000000) (hw : WS m s) (a : Tm) (ha : WT m a) : CS Tryd.prog G 45 [.agg (tmD a), .sl (strs (s.map (·.1))), .sl (s.map fun p => tyC (tyT p.2))] (.d (.agg (tmD (sub (look s) a)))) none := by
  have h := r19_Subst_ln (G := G) (s.map (·.1)) ((s.map (·.2)).map tyT) (by simpa using hs) (by simp; omega) (fun u hu => by
    obtain ⟨v, hv, rfl⟩ := List.mem_map.1 hu
    obtain ⟨p, hp, rfl⟩ := List.mem_map.1 hv
    exact LnT_of hm (hw p hp)) (tyT a) (LnT_of hm ha)
  rw [sub_tyT _ _ a ha, rho_look] at h
  have e : ((s.map (·.2)).map tyT).map tyC = s.map fun p => tyC (tyT p.2) := by simp [Function.comp_def]
  rw [e] at h
  exact h
/-- An equation's cells. -/
@[simp] def eqD (p : Tm × Tm) : List D := tmD p.1 ++ tmD p.2
@[simp] def uniR : Option Bd → DV
  | some s => .tup [.agg (slD s), .bool true]
  | none => .tup [.agg [.sl [], .sl []], .bool false]
theorem ent_r19_unify : VM.Enters Tryd.prog 30 := VM.Enters.mk Tryd.func30 rfl
abbrev UniCS (G : GT) (all : List Nm) (l : List (Tm × Tm)) (s : Bd) (r : Option Bd) : Prop := CS Tryd.prog G 30 [.sl (l.map eqD), .agg (slD s), .sl (strs all)] (uniR r) none
theorem unify_nil (all : List Nm) (s : Bd) : UniCS G all [] s (some s) := by
  refine CS.of_VK Tryd.func30 rfl Tryd.ntmps30 rfl ?_
  simp
variable {m : Nat} (hm : m ≤ 900000000) {all : List Nm} (hall : all.length ≤ 1000000) {l : List (Tm × Tm)} (hl : l.length ≤ 100000000000) {s : Bd} (hs : s.length ≤ 1000000) (hw : WS m s) {a c : Tm} (ha : WT m a) (hc : WT m c)
include hm hall hl hs hw ha hc
theorem unify_same_r {x : Nm} {r : Option Bd} (ea : sub (look s) a = .var x) (ec : sub (look s) c = .var x) (h : UniCS G all l s r) : UniCS G all ((a, c) :: l) s r := by
  have hSa := r19_subst_s (G := G) hm s hs hw a ha
  have hSc := r19_subst_s (G := G) hm s hs hw c hc
  rw [ea] at hSa
  rw [ec] at hSc
  have hln : List.take l.length (List.map eqD l) = List.map eqD l := List.take_of_length_le (by simp)
  obtain ⟨N, hN⟩ : ∃ N, strs (s.map (·.1)) = N := ⟨_, rfl⟩
  obtain ⟨T, hT⟩ : ∃ T, (s.map fun p => tyC (tyT p.2)) = T := ⟨_, rfl⟩
  rw [hN, hT] at hSa hSc
  simp [tmD, tyT, zeroP] at hSa hSc
  refine CS.of_VK Tryd.func30 rfl Tryd.ntmps30 rfl ?_
  simp only [slD, hN, hT]
  simp
  refine ⟨.mk, ?_⟩
  refine callK.mk ent_r19_Subst hSa ?_
  simp
  refine ⟨.mk, ?_⟩
  refine callK.mk ent_r19_Subst hSc ?_
  simp [hln]
  simp only [UniCS, slD, hN, hT] at h
  cases r
  all_goals
    refine callK.mk ent_r19_unify h ?_
    simp
theorem unify_vv_r {x y : Nm} {r : Option Bd} (ea : sub (look s) a = .var x) (ec : sub (look s) c = .var y) (hxy : x ≠ y) (ho : ¬ findI y all 0 < findI x all 0) (h : UniCS G all l (bindS s x (.var y)) r) : UniCS G all ((a, c) :: l) s r := by
  have hyx : ¬ y = x := fun e => hxy e.symm
  have e0 : occ x (.var y) = false := by simp [occ, hyx]
  have hu : WT m (.var y) := trivial
  have hv : (varsT (tyT (.var y)) []).length ≤ 1000000 := by simp [tyT, varsT, varsTs, addV]
  have hb := r19_bind_cs (G := G) s x (.var y) hs (fun p hp => ⟨hw p hp, LnT_of hm (hw p hp)⟩) (LnT_of (m := m) hm hu)
  have hoc := r19_occurs_cs (G := G) (m := 900000000) (by omega) (by omega) x (.var y) (WT_le hm _ hu) (LnT_of hm hu) hv
  rw [e0] at hoc
  obtain ⟨S, hS⟩ : ∃ S, slD (bindS s x (.var y)) = S := ⟨_, rfl⟩
  unfold UniCS at h
  rw [hS] at hb h
  have hSa := r19_subst_s (G := G) hm s hs hw a ha
  have hSc := r19_subst_s (G := G) hm s hs hw c hc
  rw [ea] at hSa
  rw [ec] at hSc
  have hln : List.take l.length (List.map eqD l) = List.map eqD l := List.take_of_length_le (by simp)
  obtain ⟨N, hN⟩ : ∃ N, strs (s.map (·.1)) = N := ⟨_, rfl⟩
  obtain ⟨T, hT⟩ : ∃ T, (s.map fun p => tyC (tyT p.2)) = T := ⟨_, rfl⟩
  rw [hN, hT] at hSa hSc
  simp [tmD, tyT, zeroP] at hSa hSc
  refine CS.of_VK Tryd.func30 rfl Tryd.ntmps30 rfl ?_
  simp only [slD, hN, hT]
  simp
  refine ⟨.mk, ?_⟩
  refine callK.mk ent_r19_Subst hSa ?_
  simp
  refine ⟨.mk, ?_⟩
  refine callK.mk ent_r19_Subst hSc ?_
  simp [hxy]
  simp only [slD, hN, hT] at hb
  simp [tmD, tyT, zeroP] at hoc hb
  refine ⟨.mk, ?_⟩
  refine callK.mk ent_r4_Find (r4_Find_cs all y hall) ?_
  simp
  refine callK.mk ent_r4_Find (r4_Find_cs all x hall) ?_
  simp [ho]
  refine callK.mk ent_r19_occurs hoc ?_
  simp
  refine callK.mk ent_r19_bind hb ?_
  simp [hln]
  cases r
  all_goals
    refine callK.mk ent_r19_unify h ?_
    simp
theorem unify_ww_r {x y : Nm} {r : Option Bd} (ea : sub (look s) a = .var x) (ec : sub (look s) c = .var y) (hxy : x ≠ y) (ho : findI y all 0 < findI x all 0) (h : UniCS G all l (bindS s y (.var x)) r) : UniCS G all ((a, c) :: l) s r := by
  have hyx : ¬ y = x := fun e => hxy e.symm
  have e0 : occ y (.var x) = false := by simp [occ, hxy]
  have hu : WT m (.var x) := trivial
  have hv : (varsT (tyT (.var x)) []).length ≤ 1000000 := by simp [tyT, varsT, varsTs, addV]
  have hb := r19_bind_cs (G := G) s y (.var x) hs (fun p hp => ⟨hw p hp, LnT_of hm (hw p hp)⟩) (LnT_of (m := m) hm hu)
  have hoc := r19_occurs_cs (G := G) (m := 900000000) (by omega) (by omega) y (.var x) (WT_le hm _ hu) (LnT_of hm hu) hv
  rw [e0] at hoc
  obtain ⟨S, hS⟩ : ∃ S, slD (bindS s y (.var x)) = S := ⟨_, rfl⟩
  unfold UniCS at h
  rw [hS] at hb h
  have hSa := r19_subst_s (G := G) hm s hs hw a ha
  have hSc := r19_subst_s (G := G) hm s hs hw c hc
  rw [ea] at hSa
  rw [ec] at hSc
  have hln : List.take l.length (List.map eqD l) = List.map eqD l := List.take_of_length_le (by simp)
  obtain ⟨N, hN⟩ : ∃ N, strs (s.map (·.1)) = N := ⟨_, rfl⟩
  obtain ⟨T, hT⟩ : ∃ T, (s.map fun p => tyC (tyT p.2)) = T := ⟨_, rfl⟩
  rw [hN, hT] at hSa hSc
  simp [tmD, tyT, zeroP] at hSa hSc
  refine CS.of_VK Tryd.func30 rfl Tryd.ntmps30 rfl ?_
  simp only [slD, hN, hT]
  simp
  refine ⟨.mk, ?_⟩
  refine callK.mk ent_r19_Subst hSa ?_
  simp
  refine ⟨.mk, ?_⟩
  refine callK.mk ent_r19_Subst hSc ?_
  simp [hxy]
  simp only [slD, hN, hT] at hb
  simp [tmD, tyT, zeroP] at hoc hb
  refine ⟨.mk, ?_⟩
  refine callK.mk ent_r4_Find (r4_Find_cs all y hall) ?_
  simp
  refine callK.mk ent_r4_Find (r4_Find_cs all x hall) ?_
  simp [ho]
  refine callK.mk ent_r19_occurs hoc ?_
  simp
  refine callK.mk ent_r19_bind hb ?_
  simp [hln]
  cases r
  all_goals
    refine callK.mk ent_r19_unify h ?_
    simp
variable {op : Int} {nm : Nm} {k : List Tm}
theorem unify_vn_r {x : Nm} {r : Option Bd} (ea : sub (look s) a = .var x) (ec : sub (look s) c = .node op nm k) (hu : WT m (.node op nm k)) (hv : (varsT (tyT (.node op nm k)) []).length ≤ 1000000) (e0 : occ x (.node op nm k) = false) (h : UniCS G all l (bindS s x (.node op nm k)) r) : UniCS G all ((a, c) :: l) s r := by
  have h5 : ¬ op = 5 := hu.1
  have hb := r19_bind_cs (G := G) s x (.node op nm k) hs (fun p hp => ⟨hw p hp, LnT_of hm (hw p hp)⟩) (LnT_of (m := m) hm hu)
  have hoc := r19_occurs_cs (G := G) (m := 900000000) (by omega) (by omega) x (.node op nm k) (WT_le hm _ hu) (LnT_of hm hu) hv
  rw [e0] at hoc
  obtain ⟨S, hS⟩ : ∃ S, slD (bindS s x (.node op nm k)) = S := ⟨_, rfl⟩
  unfold UniCS at h
  rw [hS] at hb h
  have hSa := r19_subst_s (G := G) hm s hs hw a ha
  have hSc := r19_subst_s (G := G) hm s hs hw c hc
  rw [ea] at hSa
  rw [ec] at hSc
  have hln : List.take l.length (List.map eqD l) = List.map eqD l := List.take_of_length_le (by simp)
  obtain ⟨N, hN⟩ : ∃ N, strs (s.map (·.1)) = N := ⟨_, rfl⟩
  obtain ⟨T, hT⟩ : ∃ T, (s.map fun p => tyC (tyT p.2)) = T := ⟨_, rfl⟩
  rw [hN, hT] at hSa hSc
  simp [tmD, tyT, zeroP] at hSa hSc
  refine CS.of_VK Tryd.func30 rfl Tryd.ntmps30 rfl ?_
  simp only [slD, hN, hT]
  simp
  refine ⟨.mk, ?_⟩
  refine callK.mk ent_r19_Subst hSa ?_
  simp
  refine ⟨.mk, ?_⟩
  refine callK.mk ent_r19_Subst hSc ?_
  simp [h5]
  simp only [slD, hN, hT] at hb
  simp [tmD, tyT, zeroP] at hoc hb
  try refine ⟨.mk, ?_⟩
  try simp
  refine callK.mk ent_r19_occurs hoc ?_
  simp
  refine callK.mk ent_r19_bind hb ?_
  simp [hln]
  cases r
  all_goals
    refine callK.mk ent_r19_unify h ?_
    simp
theorem unify_vf_r {x : Nm} (ea : sub (look s) a = .var x) (ec : sub (look s) c = .node op nm k) (hu : WT m (.node op nm k)) (hv : (varsT (tyT (.node op nm k)) []).length ≤ 1000000) (e0 : occ x (.node op nm k) = true) : UniCS G all ((a, c) :: l) s none := by
  have h5 : ¬ op = 5 := hu.1
  have hoc := r19_occurs_cs (G := G) (m := 900000000) (by omega) (by omega) x (.node op nm k) (WT_le hm _ hu) (LnT_of hm hu) hv
  rw [e0] at hoc
  have hSa := r19_subst_s (G := G) hm s hs hw a ha
  have hSc := r19_subst_s (G := G) hm s hs hw c hc
  rw [ea] at hSa
  rw [ec] at hSc
  have hln : List.take l.length (List.map eqD l) = List.map eqD l := List.take_of_length_le (by simp)
  obtain ⟨N, hN⟩ : ∃ N, strs (s.map (·.1)) = N := ⟨_, rfl⟩
  obtain ⟨T, hT⟩ : ∃ T, (s.map fun p => tyC (tyT p.2)) = T := ⟨_, rfl⟩
  rw [hN, hT] at hSa hSc
  simp [tmD, tyT, zeroP] at hSa hSc
  refine CS.of_VK Tryd.func30 rfl Tryd.ntmps30 rfl ?_
  simp only [slD, hN, hT]
  simp
  refine ⟨.mk, ?_⟩
  refine callK.mk ent_r19_Subst hSa ?_
  simp
  refine ⟨.mk, ?_⟩
  refine callK.mk ent_r19_Subst hSc ?_
  simp [h5]
  simp [tmD, tyT, zeroP] at hoc
  try refine ⟨.mk, ?_⟩
  try simp
  refine callK.mk ent_r19_occurs hoc ?_
  simp
theorem unify_nv_r {x : Nm} {r : Option Bd} (ea : sub (look s) a = .node op nm k) (ec : sub (look s) c = .var x) (hu : WT m (.node op nm k)) (hv : (varsT (tyT (.node op nm k)) []).length ≤ 1000000) (e0 : occ x (.node op nm k) = false) (h : UniCS G all l (bindS s x (.node op nm k)) r) : UniCS G all ((a, c) :: l) s r := by
  have h5 : ¬ op = 5 := hu.1
  have hb := r19_bind_cs (G := G) s x (.node op nm k) hs (fun p hp => ⟨hw p hp, LnT_of hm (hw p hp)⟩) (LnT_of (m := m) hm hu)
  have hoc := r19_occurs_cs (G := G) (m := 900000000) (by omega) (by omega) x (.node op nm k) (WT_le hm _ hu) (LnT_of hm hu) hv
  rw [e0] at hoc
  obtain ⟨S, hS⟩ : ∃ S, slD (bindS s x (.node op nm k)) = S := ⟨_, rfl⟩
  unfold UniCS at h
  rw [hS] at hb h
  have hSa := r19_subst_s (G := G) hm s hs hw a ha
  have hSc := r19_subst_s (G := G) hm s hs hw c hc
  rw [ea] at hSa
  rw [ec] at hSc
  have hln : List.take l.length (List.map eqD l) = List.map eqD l := List.take_of_length_le (by simp)
  obtain ⟨N, hN⟩ : ∃ N, strs (s.map (·.1)) = N := ⟨_, rfl⟩
  obtain ⟨T, hT⟩ : ∃ T, (s.map fun p => tyC (tyT p.2)) = T := ⟨_, rfl⟩
  rw [hN, hT] at hSa hSc
  simp [tmD, tyT, zeroP] at hSa hSc
  refine CS.of_VK Tryd.func30 rfl Tryd.ntmps30 rfl ?_
  simp only [slD, hN, hT]
  simp
  refine ⟨.mk, ?_⟩
  refine callK.mk ent_r19_Subst hSa ?_
  simp
  refine ⟨.mk, ?_⟩
  refine callK.mk ent_r19_Subst hSc ?_
  simp [h5]
  simp only [slD, hN, hT] at hb
  simp [tmD, tyT, zeroP] at hoc hb
  try refine ⟨.mk, ?_⟩
  try simp
  refine callK.mk ent_r19_occurs hoc ?_
  simp
  refine callK.mk ent_r19_bind hb ?_
  simp [hln]
  cases r
  all_goals
    refine callK.mk ent_r19_unify h ?_
    simp
theorem unify_nf_r {x : Nm} (ea : sub (look s) a = .node op nm k) (ec : sub (look s) c = .var x) (hu : WT m (.node op nm k)) (hv : (varsT (tyT (.node op nm k)) []).length ≤ 1000000) (e0 : occ x (.node op nm k) = true) : UniCS G all ((a, c) :: l) s none := by
  have h5 : ¬ op = 5 := hu.1
  have hoc := r19_occurs_cs (G := G) (m := 900000000) (by omega) (by omega) x (.node op nm k) (WT_le hm _ hu) (LnT_of hm hu) hv
  rw [e0] at hoc
  have hSa := r19_subst_s (G := G) hm s hs hw a ha
  have hSc := r19_subst_s (G := G) hm s hs hw c hc
  rw [ea] at hSa
  rw [ec] at hSc
  have hln : List.take l.length (List.map eqD l) = List.map eqD l := List.take_of_length_le (by simp)
  obtain ⟨N, hN⟩ : ∃ N, strs (s.map (·.1)) = N := ⟨_, rfl⟩
  obtain ⟨T, hT⟩ : ∃ T, (s.map fun p => tyC (tyT p.2)) = T := ⟨_, rfl⟩
  rw [hN, hT] at hSa hSc
  simp [tmD, tyT, zeroP] at hSa hSc
  refine CS.of_VK Tryd.func30 rfl Tryd.ntmps30 rfl ?_
  simp only [slD, hN, hT]
  simp
  refine ⟨.mk, ?_⟩
  refine callK.mk ent_r19_Subst hSa ?_
  simp
  refine ⟨.mk, ?_⟩
  refine callK.mk ent_r19_Subst hSc ?_
  simp [h5]
  simp [tmD, tyT, zeroP] at hoc
  try refine ⟨.mk, ?_⟩
  try simp
  refine callK.mk ent_r19_occurs hoc ?_
  simp
theorem unify_clash_r {op' : Int} {nm' : Nm} {k' : List Tm} (ea : sub (look s) a = .node op nm k) (ec : sub (look s) c = .node op' nm' k') (h5 : ¬ op = 5) (h5' : ¬ op' = 5) (hq : ¬ (op = op' ∧ nm = nm' ∧ k.length = k'.length)) : UniCS G all ((a, c) :: l) s none := by
  have e1 : (tyTs k).length = k.length := by rw [tyTs_eq]; simp
  have e2 : (tyTs k').length = k'.length := by rw [tyTs_eq]; simp
  have hSa := r19_subst_s (G := G) hm s hs hw a ha
  have hSc := r19_subst_s (G := G) hm s hs hw c hc
  rw [ea] at hSa
  rw [ec] at hSc
  have hln : List.take l.length (List.map eqD l) = List.map eqD l := List.take_of_length_le (by simp)
  obtain ⟨N, hN⟩ : ∃ N, strs (s.map (·.1)) = N := ⟨_, rfl⟩
  obtain ⟨T, hT⟩ : ∃ T, (s.map fun p => tyC (tyT p.2)) = T := ⟨_, rfl⟩
  rw [hN, hT] at hSa hSc
  simp [tmD, tyT, zeroP] at hSa hSc
  refine CS.of_VK Tryd.func30 rfl Tryd.ntmps30 rfl ?_
  simp only [slD, hN, hT]
  simp
  refine ⟨.mk, ?_⟩
  refine callK.mk ent_r19_Subst hSa ?_
  simp
  refine ⟨.mk, ?_⟩
  refine callK.mk ent_r19_Subst hSc ?_
  simp [h5, h5']
  try refine ⟨.mk, ?_⟩
  try simp [h5, h5']
  by_cases q1 : op = op'
  · by_cases q2 : nm = nm'
    · have q3 : ¬ (k.length : Int) = (k'.length : Int) := fun e => hq ⟨q1, q2, by omega⟩
      simp [q1, q2, e1, e2, q3, h5']
    · simp [q1, q2, h5']
  · simp [q1, h5, h5']
end Go.Proofs.YtcmpodbjhoeblaaDoor
