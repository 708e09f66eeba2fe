/- The sorts of predicates: what 'sorting' computes; the walks of the program. No condition. -/
import Derived.Test.YthikbenglkfioaaDoorPm
import Derived.Test.YthikbenglkfioaaDoorPe
import Derived.Test.YthikbenglkfioaaDoorZA
set_option linter.unusedVariables false
set_option linter.unusedSimpArgs false
set_option linter.unusedSectionVars false
namespace Go.Proofs.YthikbenglkfioaaDoor
open Go Go.VM
set_option maxRecDepth 100000
set_option maxHeartbeats 8000000
variable {G : GT}
abbrev sInt : Nm := [73, 110, 116]
abbrev sBool : Nm := [66, 111, 111, 108]
abbrev sCell : Nm := [67, 101, 108, 108]
def plainS (s : Nm) : Bool := decide (s = sInt) || (decide (s = sBool) || decide (s = sCell))
def appS (v : EnvL) (nm : Nm) (ks : List Nm) : Nm × Int :=
  if (symR nm v.syms).2 = false then ([], 5)
  else if nm = [116, 97, 103] then (if ks.length ≠ 1 then ([], 13) else if plainS (ks.headD []) then ([], 11) else ((symR nm v.syms).1.res, 0))
  else if ks.length ≠ (symR nm v.syms).1.args.length then ([], 13) else if ks = (symR nm v.syms).1.args then ((symR nm v.syms).1.res, 0) else ([], 11)
def holS (v : EnvL) (nm : Nm) (ks : List Nm) : Nm × Int :=
  if (holeR nm v.holes).2 = false then ([], 5)
  else if ks.length ≠ (holeR nm v.holes).1.params.length then ([], 13) else if ks = (holeR nm v.holes).1.params.map (·.2) then (sBool, 0) else ([], 11)
def allS (s : Nm) (ks : List Nm) : Bool := ks.all fun k => decide (k = s)
def eqS (ks : List Nm) : Bool := match ks with
  | a :: b :: _ => decide (a = b)
  | _ => true
def opS (op : Int) (ks : List Nm) : Nm × Int :=
  if op = 6 ∨ op = 7 ∨ op = 8 ∨ op = 9 then (if allS sInt ks then (sInt, 0) else ([], 11))
  else if op = 12 ∨ op = 13 then (if allS sInt ks then (sBool, 0) else ([], 11))
  else if op = 10 ∨ op = 11 then (if eqS ks then (sBool, 0) else ([], 11))
  else if allS sBool ks then (sBool, 0) else ([], 11)
def nodeS (v : EnvL) (op : Int) (nm : Nm) (ks : List Nm) : Nm × Int :=
  if op = 1 then (sInt, 0) else if op = 2 then (sBool, 0)
  else if op = 3 then (if (varR nm v.vars).2 then ((varR nm v.vars).1, 0) else ([], 5))
  else if op = 4 then appS v nm ks else if op = 5 then holS v nm ks else opS op ks
mutual
/-- The sort of a predicate, or the error. -/
def ofM (v : EnvL) : Pr → Nm × Int
  | ⟨op, nm, _, l⟩ => match ofMs v l with
    | .ok ks => nodeS v op nm ks
    | .error e => ([], e)
def ofMs (v : EnvL) : List Pr → Except Int (List Nm)
  | [] => .ok []
  | t :: r => if (ofM v t).2 = 0 then (match ofMs v r with
    | .ok ks => .ok ((ofM v t).1 :: ks)
    | .error e => .error e) else .error (ofM v t).2
end
theorem ofM_eq (v : EnvL) (p : Pr) : ofM v p = match ofMs v p.kids with
    | .ok ks => nodeS v p.op p.name ks
    | .error e => ([], e) := by cases p; rw [ofM]
theorem ofMs_app (v : EnvL) : ∀ a b : List Pr, ofMs v (a ++ b) = match ofMs v a with
    | .ok ks => (match ofMs v b with
      | .ok js => .ok (ks ++ js)
      | .error e => .error e)
    | .error e => .error e
  | [], b => by
    simp only [List.nil_append, ofMs]
    cases ofMs v b <;> rfl
  | t :: a, b => by
    rw [List.cons_append, ofMs, ofMs, ofMs_app v a b]
    by_cases h : (ofM v t).2 = 0
    · simp only [h, if_true]
      cases ofMs v a with
      | ok ks => cases ofMs v b <;> rfl
      | error e => rfl
    · simp only [h, if_false]
theorem ofMs_len (v : EnvL) : ∀ (l : List Pr) (ks : List Nm), ofMs v l = .ok ks → ks.length = l.length
  | [], ks, h => by simp [ofMs] at h; subst h; rfl
  | t :: r, ks, h => by
    rw [ofMs] at h
    split at h
    · split at h
      · rename_i js hj
        cases h
        simp [ofMs_len v r js hj]
      · cases h
    · cases h
theorem ofMs_ok {v : EnvL} {l : List Pr} {i : Nat} {ks : List Nm} (hi : i < l.length) (h : ofMs v (l.take i) = .ok ks) (he : (ofM v l[i]).2 = 0) : ofMs v (l.take (i + 1)) = .ok (ks ++ [(ofM v l[i]).1]) := by
  rw [List.take_succ_eq_append_getElem hi, ofMs_app, h]
  simp [ofMs, he]
theorem ofMs_bad {v : EnvL} {l : List Pr} {i : Nat} {ks : List Nm} (hi : i < l.length) (h : ofMs v (l.take i) = .ok ks) (he : ¬ (ofM v l[i]).2 = 0) : ofMs v l = .error (ofM v l[i]).2 := by
  have e : l = l.take i ++ l[i] :: l.drop (i + 1) := by rw [← List.drop_eq_getElem_cons hi, List.take_append_drop]
  refine (congrArg (ofMs v) e).trans ?_
  rw [ofMs_app, h]
  simp only [ofMs, if_neg he]
structure FitE (v : EnvL) : Prop where
  vars : v.vars.length ≤ 2000000
  syms : v.syms.length ≤ 2000000
  args : ∀ y ∈ v.syms, y.args.length ≤ 2000000
  holes : v.holes.length ≤ 2000000
  params : ∀ y ∈ v.holes, y.params.length ≤ 2000000
abbrev envO (v : EnvL) : AObj := .cells [.d (.sl (varsC v.vars)), .d (.sl (symsC v.syms)), .d (.sl (holesC v.holes))]
theorem ent_sorting_plain : VM.Enters Tryd.prog 141 := VM.Enters.mk Tryd.func141 rfl
theorem sorting_plain_cs (s : Nm) : CS Tryd.prog G 141 [.str s] (.d (.bool (plainS s))) none := by
  refine CS.of_VK Tryd.func141 rfl Tryd.ntmps141 rfl ?_
  by_cases h1 : s = [73, 110, 116]
  · simp [h1, plainS]
  · by_cases h2 : s = [66, 111, 111, 108]
    · simp [h2, plainS]
    · simp [h1, h2, plainS]
theorem strs_at {l : List Nm} {i : Nat} (h : i < l.length) : (strs l)[i]? = some [.str l[i]] := strs_get h
theorem ent_sorting_applied : VM.Enters Tryd.prog 132 := VM.Enters.mk Tryd.func132 rfl
theorem sorting_applied_cs (v : EnvL) (hv : FitE v) (nm : Nm) (ks : List Nm) (hk : ks.length ≤ 900000000) : CS Tryd.prog G 132 [.agg (envC v), .str nm, .sl (strs ks)] (.tup [.str (appS v nm ks).1, .int .i64 (appS v nm ks).2]) none := by
  have hF := s_Find_cs (G := G) v nm hv.syms hv.args
  have hm : appS v nm ks = if (symR nm v.syms).2 = false then ([], 5)
    else if nm = [116, 97, 103] then (if ks.length ≠ 1 then ([], 13) else if plainS (ks.headD []) then ([], 11) else ((symR nm v.syms).1.res, 0))
    else if ks.length ≠ (symR nm v.syms).1.args.length then ([], 13) else if ks = (symR nm v.syms).1.args then ((symR nm v.syms).1.res, 0) else ([], 11) := rfl
  obtain ⟨⟨y, ok⟩, hy⟩ : ∃ y, symR nm v.syms = y := ⟨_, rfl⟩
  rw [hy] at hm hF
  simp only [envC, symC] at hF hm ⊢
  refine CS.of_VK Tryd.func132 rfl Tryd.ntmps132 rfl ?_
  simp
  refine callK.mk ent_s_Find hF ?_
  cases ok
  · simp at hm
    simp [hm]
  simp at hm
  by_cases ht : nm = [116, 97, 103]
  · simp [ht] at hm
    by_cases h1 : ks.length = 1
    · obtain ⟨a, rfl⟩ := List.length_eq_one_iff.1 h1
      simp [ht]
      refine callK.mk ent_sorting_plain (sorting_plain_cs a) ?_
      cases hp : plainS a
      · simp [hp] at hm
        simp [hm, ← ht]
        simp [ht, hm]
      · simp [hp] at hm
        simp [ht, hm]
    · have h1' : ¬ ((ks.length : Int) = 1) := by omega
      simp [h1] at hm
      simp [ht, h1, h1', hm]
  simp [ht] at hm
  by_cases hl : ks.length = y.args.length
  rotate_left
  · have hl' : ¬ ((ks.length : Int) = (y.args.length : Int)) := by omega
    simp [hl] at hm
    simp [ht, hl, hl', hm]
  simp [hl] at hm
  simp [ht, hl]
  refine SW.loopF (ι := { i : Nat // i ≤ ks.length ∧ decide (ks.drop i = y.args.drop i) = decide (ks = y.args) }) (fun i => [(39, .d (.int .i64 i.1))]) (fun _ => [(8, .cells [.d (.str y.name), .d (.sl (strs y.args)), .d (.str y.res)])]) (fun _ => []) (fun i => ks.length - i.1) ⟨0, by simp⟩ (by simp) ?_
  rintro ⟨i, hi, hR⟩
  try simp only at hi hR
  by_cases hlt : i < ks.length
  · have hlt' : i < y.args.length := by omega
    have hg := strs_get hlt
    have hg' := strs_get hlt'
    have hw := wrap64s (show i < 9223372036854775807 by omega)
    rw [strs_cmp hlt hlt'] at hR
    by_cases hs : ks[i] = y.args[i]
    · simp only [hs, decide_true, Bool.true_and] at hR
      simp [hlt, hlt', hg, hg', hs]
      exact Again.mk ⟨i + 1, hlt, hR⟩ (by simp [hw]) (by simp; omega)
    · simp only [hs, decide_false, Bool.false_and] at hR
      have hne : ¬ ks = y.args := of_decide_eq_false hR.symm
      simp [hne] at hm
      simp [hlt, hlt', hg, hg', hs, hm]
  · have : i = ks.length := by omega
    subst this
    rw [List.drop_length, hl, List.drop_length] at hR
    have hab : ks = y.args := by simpa using hR.symm
    simp [hab] at hm
    simp [hm, hab]
theorem ent_sorting_filled : VM.Enters Tryd.prog 133 := VM.Enters.mk Tryd.func133 rfl
theorem sorting_filled_cs (v : EnvL) (hv : FitE v) (nm : Nm) (ks : List Nm) (hk : ks.length ≤ 900000000) : CS Tryd.prog G 133 [.agg (envC v), .str nm, .sl (strs ks)] (.tup [.str (holS v nm ks).1, .int .i64 (holS v nm ks).2]) none := by
  have hF := s_Hole_cs (G := G) v nm hv.holes hv.params
  have hm : holS v nm ks = if (holeR nm v.holes).2 = false then ([], 5)
    else if ks.length ≠ (holeR nm v.holes).1.params.length then ([], 13) else if ks = (holeR nm v.holes).1.params.map (·.2) then (sBool, 0) else ([], 11) := rfl
  obtain ⟨⟨y, ok⟩, hy⟩ : ∃ y, holeR nm v.holes = y := ⟨_, rfl⟩
  rw [hy] at hm hF
  simp only [envC, holeC] at hF hm ⊢
  refine CS.of_VK Tryd.func133 rfl Tryd.ntmps133 rfl ?_
  simp
  refine callK.mk ent_s_Hole hF ?_
  cases ok
  · simp at hm
    simp [hm]
  simp at hm
  by_cases hl : ks.length = y.params.length
  rotate_left
  · have hl' : ¬ ((ks.length : Int) = (y.params.length : Int)) := by omega
    simp [hl] at hm
    simp [varsC, hl, hl', hm]
  simp [hl] at hm
  simp [varsC, hl]
  refine SW.loopF (ι := { i : Nat // i ≤ ks.length ∧ decide (ks.drop i = (y.params.map (·.2)).drop i) = decide (ks = y.params.map (·.2)) }) (fun i => [(28, .d (.int .i64 i.1))]) (fun _ => [(8, .cells [.d (.str y.name), .d (.sl (y.params.map varC))])]) (fun _ => []) (fun i => ks.length - i.1) ⟨0, by simp⟩ (by simp) ?_
  rintro ⟨i, hi, hR⟩
  try simp only at hi hR
  by_cases hlt : i < ks.length
  · have hlt' : i < y.params.length := by omega
    have hlt2 : i < (y.params.map (·.2)).length := by simpa using hlt'
    have hg := strs_get hlt
    have hw := wrap64s (show i < 9223372036854775807 by omega)
    rw [strs_cmp hlt hlt2] at hR
    simp only [List.getElem_map] at hR
    by_cases hs : ks[i] = y.params[i].2
    · simp only [hs, decide_true, Bool.true_and] at hR
      simp [hlt, hlt', hg, hs, varC]
      exact Again.mk ⟨i + 1, hlt, hR⟩ (by simp [hw]) (by simp; omega)
    · simp only [hs, decide_false, Bool.false_and] at hR
      have hne : ¬ ks = y.params.map (·.2) := of_decide_eq_false hR.symm
      simp only [hne, if_false] at hm
      simp [hlt, hlt', hg, hs, hm, varC]
  · have : i = ks.length := by omega
    subst this
    have hl2 : ks.length = (y.params.map (·.2)).length := by simpa using hl
    rw [List.drop_length, hl2, List.drop_length] at hR
    have hab : ks = y.params.map (·.2) := by simpa using hR.symm
    rw [if_pos hab] at hm
    have h9 : ¬ ks.length < y.params.length := by omega
    simp [hm, h9]
/-! ### A node -/
theorem ent_all1 : VM.Enters Tryd.prog 145 := VM.Enters.mk Tryd.func145 rfl
theorem all1_ch (ks : List Nm) (s : Nm) (hk : ks.length ≤ 900000000) : CH Tryd.prog G 145 ⟨[.d (.sl (strs ks)), .ep [.str s]], [], []⟩ ⟨[.d (.bool (allS s ks))], [], []⟩ := by
  refine CH.of_VK Tryd.func145 rfl Tryd.ntmps145 rfl (by simp) ?_
  simp
  refine SW.loopF (ι := { i : Nat // i ≤ ks.length ∧ allS s (ks.drop i) = allS s ks }) (fun i => [(8, .d (.int .i64 i.1))]) (fun _ => []) (fun _ => []) (fun i => ks.length - i.1) ⟨0, by simp⟩ (by simp) ?_
  rintro ⟨i, hi, hR⟩
  try simp only at hi hR
  by_cases hlt : i < ks.length
  · have hg := strs_get hlt
    have hw := wrap64s (show i < 9223372036854775807 by omega)
    have hd : allS s (ks.drop i) = (decide (ks[i] = s) && allS s (ks.drop (i + 1))) := by
      rw [List.drop_eq_getElem_cons hlt]
      rfl
    rw [hd] at hR
    by_cases hs : ks[i] = s
    · simp only [hs, decide_true, Bool.true_and] at hR
      simp [hlt, hg, hs]
      exact Again.mk ⟨i + 1, hlt, hR⟩ (by simp [hw]) (by simp; omega)
    · simp only [hs, decide_false, Bool.false_and] at hR
      simp [hlt, hg, hs, ← hR]
  · have : i = ks.length := by omega
    subst this
    have : allS s ks = true := by rw [← hR]; simp [allS]
    simp [this]
theorem ent_rule1 : VM.Enters Tryd.prog 144 := VM.Enters.mk Tryd.func144 rfl
theorem rule1_cs (ks : List Nm) (hk : ks.length = 2) : CS Tryd.prog G 144 [.sl (strs ks)] (.d (.bool (eqS ks))) none := by
  match ks, hk with
  | [a, b], _ =>
    refine CS.of_VK Tryd.func144 rfl Tryd.ntmps144 rfl ?_
    simp [strs]
    refine ⟨lexOk.mk (by kernel_rfl), ?_⟩
    simp [eqS]
theorem ent_sorting_node : VM.Enters Tryd.prog 125 := VM.Enters.mk Tryd.func125 rfl
theorem sorting_node_cs (v : EnvL) (hv : FitE v) (op : Int) (nm : Nm) (n : Int) (l : List Pr) (ks : List Nm) (hk : ks.length ≤ 900000000) (h2 : op = 10 ∨ op = 11 → ks.length = 2) :
    CS Tryd.prog G 125 [.agg (envC v), .agg [.int .i64 op, .str nm, .int .i64 n, .sl (l.map prC)], .sl (strs ks)] (.tup [.str (nodeS v op nm ks).1, .int .i64 (nodeS v op nm ks).2]) none := by
  have hm : nodeS v op nm ks = if op = 1 then (sInt, 0) else if op = 2 then (sBool, 0)
    else if op = 3 then (if (varR nm v.vars).2 then ((varR nm v.vars).1, 0) else ([], 5))
    else if op = 4 then appS v nm ks else if op = 5 then holS v nm ks else opS op ks := rfl
  have hr := sorting_ruleOf_cs (G := G) op
  have hV := s_Var_cs (G := G) v nm hv.vars
  have hA := sorting_applied_cs (G := G) v hv nm ks hk
  have hF := sorting_filled_cs (G := G) v hv nm ks hk
  simp only [envC] at hV hA hF ⊢
  refine CS.of_VK Tryd.func125 rfl Tryd.ntmps125 rfl ?_
  by_cases h1 : op = 1
  · simp [h1] at hm
    simp [h1, hm]
  by_cases hh2 : op = 2
  · simp [hh2] at hm
    simp [hh2, hm]
  by_cases h3 : op = 3
  · simp [h3] at hm
    simp [h3]
    refine callK.mk ent_s_Var hV ?_
    cases hok : (varR nm v.vars).2
    · simp [hok] at hm
      simp [hm]
    · simp [hok] at hm
      simp [hm]
  by_cases h4 : op = 4
  · simp [h4] at hm
    simp [h4]
    refine callK.mk ent_sorting_applied hA ?_
    simp [hm]
  by_cases h5 : op = 5
  · simp [h5] at hm
    simp [h5]
    refine callK.mk ent_sorting_filled hF ?_
    simp [hm]
  simp only [h1, hh2, h3, h4, h5, if_false] at hm
  simp [h1, hh2, h3, h4, h5]
  by_cases c1 : op = 6 ∨ op = 7 ∨ op = 8 ∨ op = 9
  · simp only [opS, if_pos c1] at hm
    simp only [ruleR, if_pos c1] at hr
    refine callK_clo ent_sorting_ruleOf hr ?_
    simp
    refine callHK.ro ent_all1 (all1_ch ks [73, 110, 116] hk) [] (by simp) (by simp) (by simp) (by simp) (by simp) ?_
    cases ha : allS [73, 110, 116] ks
    · simp [ha] at hm
      simp [ha, hm]
    · simp [ha] at hm
      simp [ha, hm]
  by_cases c2 : op = 12 ∨ op = 13
  · simp only [opS, if_neg c1, if_pos c2] at hm
    simp only [ruleR, if_neg c1, if_pos c2] at hr
    refine callK_clo ent_sorting_ruleOf hr ?_
    simp
    refine callHK.ro ent_all1 (all1_ch ks [73, 110, 116] hk) [] (by simp) (by simp) (by simp) (by simp) (by simp) ?_
    cases ha : allS [73, 110, 116] ks
    · simp [ha] at hm
      simp [ha, hm]
    · simp [ha] at hm
      simp [ha, hm]
  by_cases c3 : op = 10 ∨ op = 11
  · simp only [opS, if_neg c1, if_neg c2, if_pos c3] at hm
    simp only [ruleR, if_neg c1, if_neg c2, if_pos c3] at hr
    refine callK_clo ent_sorting_ruleOf hr ?_
    simp
    refine callK.mk ent_rule1 (rule1_cs ks (h2 c3)) ?_
    cases ha : eqS ks
    · simp [ha] at hm
      simp [ha, hm]
    · simp [ha] at hm
      simp [ha, hm]
  · simp only [opS, if_neg c1, if_neg c2, if_neg c3] at hm
    simp only [ruleR, if_neg c1, if_neg c2, if_neg c3] at hr
    refine callK_clo ent_sorting_ruleOf hr ?_
    simp
    refine callHK.ro ent_all1 (all1_ch ks [66, 111, 111, 108] hk) [] (by simp) (by simp) (by simp) (by simp) (by simp) ?_
    cases ha : allS [66, 111, 111, 108] ks
    · simp [ha] at hm
      simp [ha, hm]
    · simp [ha] at hm
      simp [ha, hm]
end Go.Proofs.YthikbenglkfioaaDoor
