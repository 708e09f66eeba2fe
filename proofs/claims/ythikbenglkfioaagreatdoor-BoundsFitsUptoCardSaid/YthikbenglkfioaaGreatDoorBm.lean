/- The statement BoundsFits. No condition. -/
import Derived.Test.YthikbenglkfioaaGreatDoorBl
import Derived.Test.YthikbenglkfioaaGreatDoorVmV
set_option linter.unusedVariables false
set_option linter.unusedSimpArgs false
set_option linter.unusedSectionVars false
namespace Go.VM
open Go
theorem SW.condT {P : Program} {G : GT} {st : St} {Q : Exit → St → Prop} {c : Operand} {x y : Code} (hc : st.eval G c = .d (.bool true)) (h : SW P G x st Q) : SW P G (.cond c x y) st Q := fun base R μ a w hr => wp_cond (hr.evalBool hc) (h base R μ a w hr)
theorem SW.condF {P : Program} {G : GT} {st : St} {Q : Exit → St → Prop} {c : Operand} {x y : Code} (hc : st.eval G c = .d (.bool false)) (h : SW P G y st Q) : SW P G (.cond c x y) st Q := fun base R μ a w hr => wp_cond (hr.evalBool hc) (h base R μ a w hr)
end Go.VM
namespace Go.Proofs.YthikbenglkfioaaGreatDoor
open Go Go.VM
set_option maxRecDepth 100000
set_option maxHeartbeats 8000000
variable {G : GT}
mutual
theorem depP_le_nod : ∀ p : Pr, depP p ≤ nodP p
  | ⟨op, nm, n, l⟩ => by
    have := depPs_le_nod l 0
    rw [depP_eq, nodP_kids]
    simp only
    omega
theorem depPs_le_nod : ∀ (l : List Pr) (n : Nat), depPs l n ≤ max n (nodPs l)
  | [], n => by simp only [depPs, nodPs]; omega
  | t :: r, n => by
    have h1 := depP_le_nod t
    have h2 := depPs_le_nod r (max n (depP t))
    simp only [depPs, nodPs]
    omega
end
theorem ent_l36_parts : VM.Enters Tryz.prog 12 := VM.Enters.mk Tryz.func12 rfl
theorem l36_parts_cs : ∀ p : Pr, nodP p ≤ 900000000 → CS Tryz.prog G 12 [.agg (prD p)] (.tup [.int .i64 (nodP p), .int .i64 (depP p)]) none := by
  refine Pr.ind fun p ih => ?_
  intro hN
  obtain ⟨op, nm, n, l⟩ := p
  simp only at ih
  have hn := nodP_kids ⟨op, nm, n, l⟩
  have hd := depP_eq ⟨op, nm, n, l⟩
  simp only at hn hd
  have hll := len_le_nodPs l
  have hdl : ∀ i, depPs (l.take i) 0 ≤ nodPs l := fun i => by have h1 := depPs_le_nod (l.take i) 0; have h2 := nodPs_take_le l i; omega
  refine CS.of_VK Tryz.func12 rfl Tryz.ntmps12 rfl ?_
  simp
  refine SW.loopF (ι := { i : Nat // i ≤ l.length }) (fun i => [(4, .d (.int .i64 ((1 + nodPs (l.take i.1) : Nat) : Int))), (5, .d (.int .i64 (depPs (l.take i.1) 0 : Nat))), (6, .d (.int .i64 i.1))]) (fun _ => [(1, prO op nm n (.sl (l.map prC)))]) (fun _ => []) (fun i => l.length - i.1) ⟨0, by simp⟩ (by simp [nodPs, depPs]) ?_
  rintro ⟨i, hi⟩
  by_cases hlt : i < l.length
  · have hg := prs_get hlt
    have hw := wrap64s (show i < 9223372036854775807 by omega)
    have hb2 := nodPs_step hlt
    have hb3 := nodPs_take_le l (i + 1)
    have hc := ih l[i] (List.getElem_mem hlt) (by omega)
    have hds := depPs_step hlt 0
    have hdi := hdl i
    have hw2 : IntKind.i64.wrap (((1 + nodPs (l.take i) : Nat) : Int) + ((nodP l[i] : Nat) : Int)) = ((1 + nodPs (l.take (i + 1)) : Nat) : Int) := by rw [wrap64 (by omega)]; omega
    have hmx : (if ((depPs (l.take i) 0 : Nat) : Int) < ((depP l[i] : Nat) : Int) then ((depP l[i] : Nat) : Int) else ((depPs (l.take i) 0 : Nat) : Int)) = ((depPs (l.take (i + 1)) 0 : Nat) : Int) := by
      rw [hds]
      split <;> omega
    simp [hlt, hg]
    refine callK.mk ent_l36_parts hc ?_
    simp
    exact Again.mk ⟨i + 1, hlt⟩ (by simp [hw] at hw2 hmx ⊢; simp [hw2, hmx]) (by simp; omega)
  · have : i = l.length := by omega
    subst this
    have hdi := hdl l.length
    have hw3 : IntKind.i64.wrap (((depPs l 0 : Nat) : Int) + 1) = ((depP ⟨op, nm, n, l⟩ : Nat) : Int) := by
      rw [List.take_length] at hdi
      rw [wrap64 (by omega), hd]
      omega
    simp [hn]
    simp [hw3]
/-! ### Six small numbers -/
abbrev sixD (f : Nat → Int) : List D := [.int .i8 (f 0), .int .i8 (f 1), .int .i8 (f 2), .int .i8 (f 3), .int .i8 (f 4), .int .i8 (f 5)]
theorem six_get (f : Nat → Int) {i : Nat} (h : i < 6) : ((sixD f).map DV.d)[i]? = some (.d (.int .i8 (f i))) := by
  match i, h with
  | 0, _ => rfl
  | 1, _ => rfl
  | 2, _ => rfl
  | 3, _ => rfl
  | 4, _ => rfl
  | 5, _ => rfl
theorem tuSix : Tryz.prog.underlying 40 = some (.array 6 39) := by kernel_rfl
theorem fits_six {ds : List D} (h : FitsT Tryz.prog 40 ds) : ∃ f : Nat → Int, ds = sixD f ∧ ∀ i, -128 ≤ f i ∧ f i ≤ 127 := by
  have hc6 : Tryz.prog.cellsOf 40 = 6 := by kernel_rfl
  have hc1 : Tryz.prog.cellsOf 39 = 1 := by kernel_rfl
  have key : ds.length = 6 ∧ ∀ i, i < 6 → FitsT Tryz.prog 39 ((ds.drop i).take 1) := by
    cases h with
    | array hu hl he =>
      rw [tuSix] at hu
      cases hu
      refine ⟨by rw [hl, hc6], fun i hi => ?_⟩
      have := he i hi
      rwa [hc1, Nat.mul_one] at this
    | _ hu => rw [tuSix] at hu; cases hu
  obtain ⟨hl, he⟩ := key
  have hi : ∀ i, i < 6 → ∃ n, ds[i]? = some (.int .i8 n) ∧ -128 ≤ n ∧ n ≤ 127 := fun i hi => by
    obtain ⟨n, e, hw⟩ := fits_int tu39 (he i hi)
    have hlt : i < ds.length := by omega
    have e2 : (ds.drop i).take 1 = [ds[i]] := by rw [List.drop_eq_getElem_cons hlt]; rfl
    rw [e2] at e
    refine ⟨n, by rw [List.getElem?_eq_getElem hlt, (List.cons.inj e).1], ?_⟩
    simpa using (show (decide (-128 ≤ n) && decide (n ≤ 127)) = true from hw)
  have : ∃ f : Nat → Int, ∀ i, (i < 6 → ds[i]? = some (.int .i8 (f i))) ∧ -128 ≤ f i ∧ f i ≤ 127 := by
    refine (Classical.skolem (b := fun _ : Nat => Int) (p := fun i y => (i < 6 → ds[i]? = some (.int .i8 y)) ∧ -128 ≤ y ∧ y ≤ 127)).1 fun i => ?_
    by_cases h6 : i < 6
    · obtain ⟨n, h1, h2⟩ := hi i h6
      exact ⟨n, fun _ => h1, h2⟩
    · exact ⟨0, fun h => absurd h h6, by omega, by omega⟩
  obtain ⟨f, hf⟩ := this
  refine ⟨f, ?_, fun i => (hf i).2⟩
  refine List.ext_getElem? fun i => ?_
  by_cases h6 : i < 6
  · rw [(hf i).1 h6]
    match i, h6 with
    | 0, _ => rfl
    | 1, _ => rfl
    | 2, _ => rfl
    | 3, _ => rfl
    | 4, _ => rfl
    | 5, _ => rfl
  · rw [List.getElem?_eq_none (by omega), List.getElem?_eq_none (by simp; omega)]
/-! ### What is handed in -/
def rawA (x : Vr) (n k : Int) : List D := if x.2 = sInt then [.int .i64 1, .str [], .int .i64 n, .nils] else if x.2 = sBool then [.int .i64 2, .str [], .int .i64 k, .nils] else [.int .i64 3, .str x.1, .int .i64 0, .nils]
theorem rawA_wk (x : Vr) (n k : Int) : WkL (rawA x n k) (prC (argP x n k)) := by
  unfold rawA argP
  split
  · simp
  · split <;> simp
theorem rawA_len (x : Vr) (n k : Int) : (rawA x n k).length = 4 := by
  unfold rawA
  split
  · rfl
  · split <;> rfl
def rawL (f g : Nat → Int) : Nat → List Vr → List (List D)
  | _, [] => []
  | i, x :: r => rawA x (f i) (g i) :: rawL f g (i + 1) r
theorem rawL_wk (f g : Nat → Int) : ∀ (i : Nat) (l : List Vr), WkLL (rawL f g i l) ((argsL f g i l).map prC)
  | _, [] => by simp [rawL, argsL]
  | i, x :: r => by
    simp only [rawL, argsL, List.map_cons, WkLL_cons]
    exact ⟨rawA_wk _ _ _, rawL_wk f g (i + 1) r⟩
theorem rawL_app (f g : Nat → Int) : ∀ (j : Nat) (a b : List Vr), rawL f g j (a ++ b) = rawL f g j a ++ rawL f g (j + a.length) b
  | j, [], b => by simp [rawL]
  | j, x :: a, b => by
    simp only [List.cons_append, rawL, rawL_app f g (j + 1) a b, List.length_cons]
    rw [show j + 1 + a.length = j + (a.length + 1) by omega]
theorem rawL_step (f g : Nat → Int) {l : List Vr} {i : Nat} (h : i < l.length) : rawL f g 0 (l.take (i + 1)) = rawL f g 0 (l.take i) ++ [rawA l[i] (f i) (g i)] := by
  rw [List.take_succ_eq_append_getElem h, rawL_app]
  have : (l.take i).length = i := by simp; omega
  simp [rawL, this]
theorem rawL_len (f g : Nat → Int) : ∀ (j : Nat) (l : List Vr), (rawL f g j l).length = l.length
  | _, [] => rfl
  | j, x :: r => by simp [rawL, rawL_len f g (j + 1) r]
theorem rawL_four (f g : Nat → Int) : ∀ (j : Nat) (l : List Vr) (c : List D), c ∈ rawL f g j l → c.length = 4
  | _, [], c, h => by cases h
  | j, x :: r, c, h => by
    rcases List.mem_cons.1 h with rfl | h
    · exact rawA_len _ _ _
    · exact rawL_four f g (j + 1) r c h
theorem rest_step {l : List Vr} {i : Nat} (h : i < l.length) : restV (l.take (i + 1)) = restV (l.take i) ++ (if restB l[i] then [l[i]] else []) := by
  unfold restV
  rw [List.take_succ_eq_append_getElem h, List.filter_append]
  cases hr : restB l[i] <;> simp [hr]
theorem rest_len (l : List Vr) : (restV l).length ≤ l.length := List.length_filter_le _ _
theorem ent_l36_variable : VM.Enters Tryz.prog 13 := VM.Enters.mk Tryz.func13 rfl
theorem l36_variable_cs (s : Nm) : CS Tryz.prog G 13 [.str s] (.d (.agg [.int .i64 3, .str s, .int .i64 0, .nils])) none := by
  refine CS.of_VK Tryz.func13 rfl Tryz.ntmps13 rfl ?_
  simp
theorem varsC_vr2 (l : List Vr) : varsC l = l.map vrC := by
  unfold varsC
  exact List.map_congr_left fun x _ => rfl
abbrev envP (vs : List Vr) (sy : List SymL) : AObj := .cells [.d (.sl (vs.map vrC)), .d (.sl (symsC sy)), .d .nils]
theorem ent_l36_BoundsFits : VM.Enters Tryz.prog 4 := VM.Enters.mk Tryz.func4 rfl
theorem l36_BoundsFits_cs (v : EnvL) (b : Bd) (f : Nat → Int) (hf : ∀ i, -128 ≤ f i ∧ f i ≤ 127) (hs : szLL (varsC v.vars) + szLL (symsC v.syms) + szLL (holesC v.holes) + szL (bdC b) ≤ 1100000) (hs2 : szL (bdC b) ≤ 1048576) :
    CS Tryz.prog G0 4 [.agg (envC v), .agg (bdC b), .agg (sixD f)] (.d (.bool true)) none := by
  have hb := bd_sz b
  have n1 := nod_sz b.hyp
  have n2 := nod_sz b.goal
  have hF := fit_sz (v := v) (by omega)
  have hE := l36_env_cs (G := G0) v
  have hS := l36_small_cs (G := G0) b (by omega)
  have hC := bounds_Check_cs (G := G0) G0_kw ⟨[], v.syms, []⟩ b ⟨by simp, hF.syms, by simp, hF.args, by simp⟩ (by simp) (by omega) (by omega)
  have hP1 := l36_parts_cs (G := G0) b.hyp (by omega)
  have hP2 := l36_parts_cs (G := G0) b.goal (by omega)
  simp only [envC] at hE hC ⊢
  refine CS.of_SWK Tryz.func4 rfl Tryz.ntmps4 rfl ?_
  refine SW.seqq (SW.vk ?_)
  simp
  refine SW.seqq (SW.vk ?_)
  simp
  refine SW.seqq (SW.vk ?_)
  simp
  refine callK.mk ent_l36_env hE ?_
  cases h1 : envB v
  · simp
    refine callK.mk ent_l36_awake (l36_awake_cs ) ?_
    simp
  simp
  refine callK.mk ent_l36_small hS ?_
  cases h2 : smallD b
  · simp
    refine callK.mk ent_l36_awake (l36_awake_cs ) ?_
    simp
  simp
  refine callK.mk ent_bounds_Check (CS.args hC (by simp [varsC, holesC])) ?_
  by_cases h0 : bndE ⟨[], v.syms, []⟩ b = 0
  rotate_left
  · simp [h0]
    refine callK.mk ent_l36_awake (l36_awake_cs ) ?_
    simp
  obtain ⟨_, hv6, _⟩ := bnd_parts h0
  simp [h0]
  refine SW.seqq (SW.vk ?_)
  simp
  refine callK.mk ent_l36_parts hP1 ?_
  simp
  refine SW.seqq (SW.vk ?_)
  simp
  refine callK.mk ent_l36_parts hP2 ?_
  simp
  by_cases p1 : nodP b.hyp ≤ 40
  rotate_left
  · have q1 : 40 < nodP b.hyp := by omega
    have q2 : 40 < (nodP b.hyp : Int) := by omega
    refine SW.seqq (SW.vk ?_)
    simp [q1, q2]
    refine callK.mk ent_l36_awake (l36_awake_cs ) ?_
    simp
  by_cases p2 : nodP b.goal ≤ 40
  rotate_left
  · have q0 : ¬ 40 < nodP b.hyp := by omega
    have q0' : ¬ 40 < (nodP b.hyp : Int) := by omega
    have q1 : 40 < nodP b.goal := by omega
    have q2 : 40 < (nodP b.goal : Int) := by omega
    refine SW.seqq (SW.vk ?_)
    simp [q0, q0', q1, q2]
    refine callK.mk ent_l36_awake (l36_awake_cs ) ?_
    simp
  by_cases p3 : depP b.hyp ≤ 20
  rotate_left
  · have q0 : ¬ 40 < nodP b.hyp := by omega
    have q1 : ¬ 40 < nodP b.goal := by omega
    have q2 : 20 < depP b.hyp := by omega
    refine SW.seqq (SW.vk ?_)
    simp [q0, q1, q2]
    refine callK.mk ent_l36_awake (l36_awake_cs ) ?_
    simp
  by_cases p4 : depP b.goal ≤ 20
  rotate_left
  · have q0 : ¬ 40 < nodP b.hyp := by omega
    have q1 : ¬ 40 < nodP b.goal := by omega
    have q2 : ¬ 20 < depP b.hyp := by omega
    have q3 : 20 < depP b.goal := by omega
    refine SW.seqq (SW.vk ?_)
    simp [q0, q1, q2, q3]
    refine callK.mk ent_l36_awake (l36_awake_cs ) ?_
    simp
  have q0 : ¬ 40 < nodP b.hyp := by omega
  have q1 : ¬ 40 < nodP b.goal := by omega
  have q2 : ¬ 20 < depP b.hyp := by omega
  have q3 : ¬ 20 < depP b.goal := by omega
  refine SW.seqq (SW.vk ?_)
  simp [q0, q1, q2, q3]
  refine SW.seqq (SW.vk ?_)
  simp
  refine SW.seqq (SW.seqq (SW.vk ?_))
  simp
  obtain ⟨g, hg⟩ : ∃ g : Nat → Int, ∀ i, g i = dand .i8 (f i) 1 := ⟨_, fun _ => rfl⟩
  have hg01 : ∀ i, g i = 0 ∨ g i = 1 := fun i => by rw [hg]; exact dand_one _
  have hfit := fits_right (f := f) (g := g) h0 hf hg01 p1 p2 p3 p4
  have hI := bounds_Instance_cs (G := G0) b (argsL f g 0 b.vars) (by omega) (by rw [argsL_len]; omega) (by omega) (by omega) (fun u hu => by
    obtain ⟨x, _, i, rfl⟩ := argsL_mem f g hu
    rw [argP_nod]
    omega)
  refine SW.blockq ?_
  refine SW.loopW (ι := { i : Nat // i ≤ b.vars.length }) (fun i => [(12, .d (.sl (rawL f g 0 (b.vars.take i.1)))), (13, .d (.int .i64 i.1))]) (fun i => [(4, bdO b), (5, .cells ((sixD f).map DV.d)), (7, envP (restV (b.vars.take i.1)) v.syms)]) (fun _ => [(30, [.t 12]), (45, [.c 7 0])]) (fun i => b.vars.length - i.1) ⟨0, by simp⟩ (by simp [rawL, restV]) ?_
  rintro ⟨i, hi⟩
  by_cases hlt : i < b.vars.length
  · have hgv := vrs_get hlt
    have h6 : i < 6 := by omega
    have hsx : ([.d (.int .i8 (f 0)), .d (.int .i8 (f 1)), .d (.int .i8 (f 2)), .d (.int .i8 (f 3)), .d (.int .i8 (f 4)), .d (.int .i8 (f 5))] : List DV)[i]? = some (.d (.int .i8 (f i))) := six_get f h6
    have hsy : ([.d (.int .i8 (f 0)), .d (.int .i8 (f 1)), .d (.int .i8 (f 2)), .d (.int .i8 (f 3)), .d (.int .i8 (f 4)), .d (.int .i8 (f 5))] : List DV)[i]'(by simpa using h6) = .d (.int .i8 (f i)) := by
      rw [List.getElem?_eq_getElem (by simpa using h6)] at hsx
      exact Option.some.inj hsx
    have hrl := rest_len (b.vars.take i)
    have hsz3 : ((restV (b.vars.take i)).length + 1) * 33 ≤ 140737488355328 := by
      simp at hrl
      omega
    have hw := wrap64s (show i < 9223372036854775807 by omega)
    have hst := rawL_step f g hlt
    have hrs := rest_step hlt
    have hfi := hf i
    have hwf : IntKind.i64.wrap (f i) = f i := wrap64 (by omega)
    have hsz : (i + 1) * 57 ≤ 140737488355328 := by omega
    have hfour := eq_true (rawL_four f g 0 (b.vars.take i))
    have hraw : rawA b.vars[i] (f i) (g i) = if b.vars[i].2 = sInt then [.int .i64 1, .str [], .int .i64 (f i), .nils] else if b.vars[i].2 = sBool then [.int .i64 2, .str [], .int .i64 (g i), .nils] else [.int .i64 3, .str b.vars[i].1, .int .i64 0, .nils] := rfl
    have hrb : restB b.vars[i] = (!decide (b.vars[i].2 = sInt) && !decide (b.vars[i].2 = sBool)) := rfl
    refine SW.seqq (SW.vk ?_)
    simp [hlt]
    refine SW.seqq ?_
    refine SW.blockq ?_
    refine SW.seqq (SW.vk ?_)
    simp [hlt, hgv]
    refine SW.blockq ?_
    by_cases hI1 : b.vars[i].2 = sInt
    · refine SW.vk ?_
      simp [hI1, h6, hsy, hwf, hfour, rawL_len, hsz, hi]
      refine SW.vk ?_
      simp
      exact Again.mk ⟨i + 1, hlt⟩ (by simp [hw, hst, hrs, hraw, hrb, hI1]) (by simp; omega)
    by_cases hB1 : b.vars[i].2 = sBool
    · refine SW.seqq (SW.vk ?_)
      simp [hI1]
      refine SW.condF rfl ?_
      refine SW.seqq (SW.vk ?_)
      simp [hB1]
      refine SW.condT rfl ?_
      refine region_hand (m := 4) rfl rfl ?_
      simp [h6, hsy]
      refine ⟨_, vAnd_ok rfl rfl rfl, ?_⟩
      rw [← hg]
      have hwg : IntKind.i64.wrap (g i) = g i := wrap64 (by have := hg01 i; omega)
      simp [hwg, hfour, rawL_len, hsz, hi]
      refine SW.vk ?_
      simp
      exact Again.mk ⟨i + 1, hlt⟩ (by simp [hw, hst, hrs, hraw, hrb, hB1]) (by simp; omega)
    · refine SW.vk ?_
      simp [hI1, hB1, hlt, hgv, hsz3]
      refine ⟨lexOk.mk (by kernel_rfl), ?_⟩
      refine callK.mk ent_l36_variable (l36_variable_cs b.vars[i].1) ?_
      simp [hfour, rawL_len, hsz, hi]
      refine SW.vk ?_
      simp
      exact Again.mk ⟨i + 1, hlt⟩ (by simp [hw, hst, hrs, hraw, hrb, hI1, hB1]) (by simp; omega)
  · have : i = b.vars.length := by omega
    subst this
    have hx := rest_len b.vars
    have hB1 := sorting_Bool_cs (G := G0) G0_kw ⟨restV b.vars, v.syms, []⟩ ⟨by simp only; omega, hF.syms, hF.args, by simp, by simp⟩ (instP b (argsL f g 0 b.vars)) (by omega)
    have hB2 := r9_Bool_cs (G := G0) ⟨restV b.vars, v.syms, []⟩ ⟨by simp only; omega, hF.syms, hF.args, by simp, by simp⟩ (instP b (argsL f g 0 b.vars)) (by omega)
    rw [hfit.2] at hB1 hB2
    have hiR : instR b (argsL f g 0 b.vars) = (instP b (argsL f g 0 b.vars), 0) := by unfold instR; rw [if_pos (argsL_len f g 0 b.vars)]
    rw [hiR] at hI
    simp only [envC] at hB1 hB2
    refine SW.seqq (SW.vk ?_)
    simp
    refine SW.vk ?_
    simp
    refine callK.mk ent_bounds_Instance (CS.args hI (by simp [rawL_wk])) ?_
    simp
    refine callK.mk ent_sorting_Bool (CS.args hB1 (by simp [varsC_vr2, holesC])) ?_
    simp
    refine callK.mk ent_r9_Bool (CS.args hB2 (by simp [varsC_vr2, holesC])) ?_
    simp
    refine callK.mk ent_l36_awake (l36_awake_cs ) ?_
    simp
theorem boundsFits_all (xs : List D) (h : FitsAll Tryz.prog [26, 32, 40] xs) (hsz : szL xs ≤ 1048576) : CS Tryz.prog G0 4 xs (.d (.bool true)) none := by
  match xs, h with
  | [a, b, c], ⟨h1, h2, h3, _⟩ =>
    obtain ⟨v, rfl⟩ := fitV_env h1
    obtain ⟨c, rfl⟩ := fitV_bd h2
    unfold FitsV at h3
    rw [tuSix] at h3
    obtain ⟨cs, rfl, h4⟩ := h3
    obtain ⟨f, rfl, hf⟩ := fits_six h4
    simp only [szL, szD, envC] at hsz
    have hb := bd_sz c
    simp only [szL, szD] at hb
    exact l36_BoundsFits_cs v c f hf (by simp only [bdC, szL, szD]; omega) (by simp only [bdC, szL, szD]; omega)
end Go.Proofs.YthikbenglkfioaaGreatDoor
