/- Joined texts. The sorts of predicates: what 'sorting' computes; the walks of the program. The sorts of predicates: the walks of Of and Bool in the program. The sorts of predicates: the walks of the reference. No condition. -/
import Derived.Test.YtlglfkdjlbcpjaaGreatDoorZP
import Derived.Test.YtlglfkdjlbcpjaaGreatDoorZA
section
set_option linter.unusedVariables false
set_option linter.unusedSimpArgs false
set_option linter.unusedSectionVars false
namespace Go.Proofs.YtlglfkdjlbcpjaaGreatDoor
open Go Go.VM
set_option maxRecDepth 100000
set_option maxHeartbeats 8000000
variable {G : GT}
abbrev sInt : Nm := [73, 110, 116]
abbrev sBool : Nm := [66, 111, 111, 108]
abbrev sCell : Nm := [67, 101, 108, 108]
def plainS (s : Nm) : Bool := decide (s = sInt) || (decide (s = sBool) || decide (s = sCell))
def appS (v : EnvL) (nm : Nm) (ks : List Nm) : Nm × Int :=
  if (symR nm v.syms).2 = false then ([], 5)
  else if nm = [116, 97, 103] then (if ks.length ≠ 1 then ([], 13) else if plainS (ks.headD []) then ([], 11) else ((symR nm v.syms).1.res, 0))
  else if ks.length ≠ (symR nm v.syms).1.args.length then ([], 13) else if ks = (symR nm v.syms).1.args then ((symR nm v.syms).1.res, 0) else ([], 11)
def holS (v : EnvL) (nm : Nm) (ks : List Nm) : Nm × Int :=
  if (holeR nm v.holes).2 = false then ([], 5)
  else if ks.length ≠ (holeR nm v.holes).1.params.length then ([], 13) else if ks = (holeR nm v.holes).1.params.map (·.2) then (sBool, 0) else ([], 11)
def allS (s : Nm) (ks : List Nm) : Bool := ks.all fun k => decide (k = s)
def eqS (ks : List Nm) : Bool := match ks with
  | a :: b :: _ => decide (a = b)
  | _ => true
def opS (op : Int) (ks : List Nm) : Nm × Int :=
  if op = 6 ∨ op = 7 ∨ op = 8 ∨ op = 9 then (if allS sInt ks then (sInt, 0) else ([], 11))
  else if op = 12 ∨ op = 13 then (if allS sInt ks then (sBool, 0) else ([], 11))
  else if op = 10 ∨ op = 11 then (if eqS ks then (sBool, 0) else ([], 11))
  else if allS sBool ks then (sBool, 0) else ([], 11)
def nodeS (v : EnvL) (op : Int) (nm : Nm) (ks : List Nm) : Nm × Int :=
  if op = 1 then (sInt, 0) else if op = 2 then (sBool, 0)
  else if op = 3 then (if (varR nm v.vars).2 then ((varR nm v.vars).1, 0) else ([], 5))
  else if op = 4 then appS v nm ks else if op = 5 then holS v nm ks else opS op ks
mutual
/-- The sort of a predicate, or the error. -/
def ofM (v : EnvL) : Pr → Nm × Int
  | ⟨op, nm, _, l⟩ => match ofMs v l with
    | .ok ks => nodeS v op nm ks
    | .error e => ([], e)
def ofMs (v : EnvL) : List Pr → Except Int (List Nm)
  | [] => .ok []
  | t :: r => if (ofM v t).2 = 0 then (match ofMs v r with
    | .ok ks => .ok ((ofM v t).1 :: ks)
    | .error e => .error e) else .error (ofM v t).2
end
theorem ofM_eq (v : EnvL) (p : Pr) : ofM v p = match ofMs v p.kids with
    | .ok ks => nodeS v p.op p.name ks
    | .error e => ([], e) := by cases p; rw [ofM]
theorem ofMs_app (v : EnvL) : ∀ a b : List Pr, ofMs v (a ++ b) = match ofMs v a with
    | .ok ks => (match ofMs v b with
      | .ok js => .ok (ks ++ js)
      | .error e => .error e)
    | .error e => .error e
  | [], b => by
    simp only [List.nil_append, ofMs]
    cases ofMs v b <;> rfl
  | t :: a, b => by
    rw [List.cons_append, ofMs, ofMs, ofMs_app v a b]
    by_cases h : (ofM v t).2 = 0
    · simp only [h, if_true]
      cases ofMs v a with
      | ok ks => cases ofMs v b <;> rfl
      | error e => rfl
    · simp only [h, if_false]
theorem ofMs_len (v : EnvL) : ∀ (l : List Pr) (ks : List Nm), ofMs v l = .ok ks → ks.length = l.length
  | [], ks, h => by simp [ofMs] at h; subst h; rfl
  | t :: r, ks, h => by
    rw [ofMs] at h
    split at h
    · split at h
      · rename_i js hj
        cases h
        simp [ofMs_len v r js hj]
      · cases h
    · cases h
theorem ofMs_ok {v : EnvL} {l : List Pr} {i : Nat} {ks : List Nm} (hi : i < l.length) (h : ofMs v (l.take i) = .ok ks) (he : (ofM v l[i]).2 = 0) : ofMs v (l.take (i + 1)) = .ok (ks ++ [(ofM v l[i]).1]) := by
  rw [List.take_succ_eq_append_getElem hi, ofMs_app, h]
  simp [ofMs, he]
theorem ofMs_bad {v : EnvL} {l : List Pr} {i : Nat} {ks : List Nm} (hi : i < l.length) (h : ofMs v (l.take i) = .ok ks) (he : ¬ (ofM v l[i]).2 = 0) : ofMs v l = .error (ofM v l[i]).2 := by
  have e : l = l.take i ++ l[i] :: l.drop (i + 1) := by rw [← List.drop_eq_getElem_cons hi, List.take_append_drop]
  refine (congrArg (ofMs v) e).trans ?_
  rw [ofMs_app, h]
  simp only [ofMs, if_neg he]
structure FitE (v : EnvL) : Prop where
  vars : v.vars.length ≤ 2000000
  syms : v.syms.length ≤ 2000000
  args : ∀ y ∈ v.syms, y.args.length ≤ 2000000
  holes : v.holes.length ≤ 2000000
  params : ∀ y ∈ v.holes, y.params.length ≤ 2000000
abbrev envO (v : EnvL) : AObj := .cells [.d (.sl (varsC v.vars)), .d (.sl (symsC v.syms)), .d (.sl (holesC v.holes))]
theorem strs_at {l : List Nm} {i : Nat} (h : i < l.length) : (strs l)[i]? = some [.str l[i]] := strs_get h
/-! ### A node -/
end Go.Proofs.YtlglfkdjlbcpjaaGreatDoor
end

section
set_option linter.unusedVariables false
set_option linter.unusedSimpArgs false
set_option linter.unusedSectionVars false
namespace Go.Proofs.YtlglfkdjlbcpjaaGreatDoor
open Go Go.VM
set_option maxRecDepth 100000
set_option maxHeartbeats 8000000
variable {G : GT}
theorem firstE_all {e : Pr → Int} : ∀ {l : List Pr}, firstE e l = 0 → ∀ q ∈ l, e q = 0
  | p :: r, h, q, hq => by
    unfold firstE at h
    split at h
    · rename_i h0
      rcases List.mem_cons.1 hq with rfl | hq
      · exact h0
      · exact firstE_all h q hq
    · rename_i h0
      exact absurd h h0
theorem firstE_app {e : Pr → Int} : ∀ (a b : List Pr), firstE e (a ++ b) = if firstE e a = 0 then firstE e b else firstE e a
  | [], b => by simp [firstE]
  | p :: a, b => by
    rw [List.cons_append, firstE, firstE, firstE_app a b]
    by_cases h : e p = 0
    · simp only [h, if_true]
    · simp only [h, if_false]
/-- All nodes are right. -/
def GoodP (p : Pr) : Prop := ∀ q ∈ preP p, nodeE q = 0
theorem GoodP.self {p : Pr} (h : GoodP p) : nodeE p = 0 := h p (by rw [preP_eq]; exact .head _)
theorem GoodP.kid {p k : Pr} (h : GoodP p) (hk : k ∈ p.kids) : GoodP k := fun q hq => h q (by
  rw [preP_eq]
  refine .tail _ ?_
  have : ∀ {l : List Pr}, k ∈ l → q ∈ prePs l := by
    intro l
    induction l with
    | nil => intro h; cases h
    | cons t r ih =>
      intro h
      simp only [prePs, List.mem_append]
      rcases List.mem_cons.1 h with rfl | h
      · exact .inl hq
      · exact .inr (ih h)
  exact this hk)
theorem good_two {p : Pr} (h : GoodP p) (ho : p.op = 10 ∨ p.op = 11) : p.kids.length = 2 := by
  have h0 := h.self
  unfold nodeE at h0
  rw [if_neg (by omega)] at h0
  split at h0
  · omega
  · rename_i ha
    have e1 : leastK p.op = 2 := by unfold leastK; rw [if_neg (by omega), if_neg (by omega), if_neg (by omega)]
    have e2 : mostK p.op = 2 := by unfold mostK; rw [if_neg (by omega), if_neg (by omega), if_neg (by omega)]
    simp only [argE, e1, e2, Bool.or_eq_true, decide_eq_true_eq, not_or] at ha
    omega
/-- The sort of a predicate, checked first. -/
def ofE (v : EnvL) (p : Pr) : Nm × Int := if chkE p = 0 then ofM v p else ([], chkE p)
theorem good_of {p : Pr} (h : chkE p = 0) : GoodP p := by
  unfold chkE chkP at h
  split at h
  · omega
  · split at h
    · omega
    · exact firstE_all h
def boolE (v : EnvL) (p : Pr) : Int := if p = zerP then 0 else if (ofE v p).2 = 0 then (if (ofE v p).1 = sBool then 0 else 11) else (ofE v p).2
end Go.Proofs.YtlglfkdjlbcpjaaGreatDoor
end

section
set_option linter.unusedVariables false
set_option linter.unusedSimpArgs false
set_option linter.unusedSectionVars false
namespace Go.Proofs.YtlglfkdjlbcpjaaGreatDoor
open Go Go.VM
set_option maxRecDepth 100000
set_option maxHeartbeats 8000000
variable {G : GT}
/-! ### The check of the reference -/
theorem ent_r7_named : VM.Enters Tryz.prog 120 := VM.Enters.mk Tryz.func120 rfl
theorem r7_named_cs (op : Int) : CS Tryz.prog G 120 [.int .i64 op] (.d (.bool (namB op))) none := by
  refine CS.of_VK Tryz.func120 rfl Tryz.ntmps120 rfl ?_
  by_cases h3 : op = 3
  · simp [h3, namB]
  · by_cases h4 : op = 4
    · simp [h4, namB]
    · simp [h3, h4, namB]
def kidsB (op len : Int) : Bool := !(decide (len < leastK op) || decide (mostK op < len))
theorem ent_r7_kids : VM.Enters Tryz.prog 121 := VM.Enters.mk Tryz.func121 rfl
theorem r7_kids_cs (op : Int) (len : Nat) : CS Tryz.prog G 121 [.int .i64 op, .int .i64 len] (.d (.bool (kidsB op len))) none := by
  have one : ∀ k : Nat, (!(decide ((len : Int) < k) || decide ((k : Int) < len))) = decide (len = k) := fun k => by
    by_cases h : len = k
    · simp [h]
    · rcases Nat.lt_or_gt_of_ne h with h1 | h1
      · have : (len : Int) < k := by omega
        simp [h, this]
      · have : (k : Int) < len := by omega
        simp [h, this]
  have z0 := one 0
  have z1 := one 1
  have z2 := one 2
  refine CS.of_VK Tryz.func121 rfl Tryz.ntmps121 rfl ?_
  by_cases h1 : op = 1
  · simp [kidsB, leastK, mostK, h1]
    simpa using z0.symm
  by_cases h2 : op = 2
  · simp [kidsB, leastK, mostK, h2]
    simpa using z0.symm
  by_cases h3 : op = 3
  · simp [kidsB, leastK, mostK, h3]
    simpa using z0.symm
  by_cases h45 : op = 4 ∨ op = 5
  · have e : kidsB op len = (decide (1 ≤ len) && decide (len ≤ 24)) := by
      simp only [kidsB, leastK, mostK, h1, h2, h3, or_self, if_false, h45, if_true, Bool.not_or, ← decide_not]
      congr 1 <;> (rw [decide_eq_decide]; omega)
    rw [e]
    rcases h45 with h | h
    · by_cases c1 : 1 ≤ len
      · simp [h, c1]
      · simp [h, c1]
    · by_cases c1 : 1 ≤ len
      · simp [h, c1]
      · simp [h, c1]
  by_cases h914 : op = 9 ∨ op = 14
  · have e : kidsB op len = decide (len = 1) := by
      simp only [kidsB, leastK, mostK, h1, h2, h3, or_self, if_false, h45, h914, if_true]
      exact z1
    rw [e]
    have h4 : ¬ op = 4 := fun e => h45 (.inl e)
    have h5 : ¬ op = 5 := fun e => h45 (.inr e)
    rcases h914 with h | h <;> simp [h]
  · have e : kidsB op len = decide (len = 2) := by
      simp only [kidsB, leastK, mostK, h1, h2, h3, or_self, if_false, h45, h914]
      exact z2
    rw [e]
    have h4 : ¬ op = 4 := fun e => h45 (.inl e)
    have h5 : ¬ op = 5 := fun e => h45 (.inr e)
    have h9 : ¬ op = 9 := fun e => h914 (.inl e)
    have h14 : ¬ op = 14 := fun e => h914 (.inr e)
    simp [h1, h2, h3, h4, h5, h9, h14]
def calB (op : Int) (nm : Nm) : Bool := !(namB op && !coreB nm && !freeN op nm)
theorem ent_r7_called : VM.Enters Tryz.prog 123 := VM.Enters.mk Tryz.func123 rfl
theorem r7_called_cs (p : Pr) : CS Tryz.prog G 123 [.agg (prD p)] (.d (.bool (calB p.op p.name))) none := by
  refine CS.of_VK Tryz.func123 rfl Tryz.ntmps123 rfl ?_
  by_cases h3 : p.op = 3
  · by_cases hv : p.name = [118]
    · simp [h3, hv, calB, namB, freeN]
    · simp [h3, hv]
      refine callK.mk ent_r4_Core (r4_Core_cs p.name) ?_
      cases hc : coreB p.name <;> simp [errName, calB, namB, freeN, h3, hv, hc]
  by_cases h4 : p.op = 4
  · by_cases hv : p.name = [116, 97, 103]
    · simp [h4, hv, calB, namB, freeN]
    · by_cases hv2 : p.name = [118, 97, 108]
      · simp [h4, hv2, calB, namB, freeN]
      · simp [h4, hv, hv2]
        refine callK.mk ent_r4_Core (r4_Core_cs p.name) ?_
        cases hc : coreB p.name <;> simp [errName, calB, namB, freeN, h4, hv, hv2, hc]
  by_cases h5 : p.op = 5
  · simp [h5]
    refine callK.mk ent_r4_Core (r4_Core_cs p.name) ?_
    cases hc : coreB p.name <;> simp [errName, calB, namB, freeN, h5, hc]
  · simp [h3, h4, h5, calB, namB]
theorem ent_r7_node : VM.Enters Tryz.prog 87 := VM.Enters.mk Tryz.func87 rfl
theorem r7_node_cs (p : Pr) (hlen : p.kids.length ≤ 900000000) : CS Tryz.prog G 87 [.agg (prD p)] (.d (.int .i64 (nodeE p))) none := by
  obtain ⟨op, nm, n, l⟩ := p
  simp only at hlen
  have hcal := r7_called_cs (G := G) ⟨op, nm, n, l⟩
  have hkd := r7_kids_cs (G := G) op l.length
  simp only at hcal
  have hm : nodeE ⟨op, nm, n, l⟩ = if op < 1 ∨ 18 < op then 1 else if argE op nm n l.length then 1 else if rangeE op n then 2 else if namB op && !coreB nm && !freeN op nm then 3 else if op = 8 ∧ headK l ≠ 1 then 6 else 0 := rfl
  have hargs : argE op nm n l.length = ((!namB op && !decide (nm = [])) || (!decide (op = 1) && !decide (op = 2) && !decide (n = 0)) || !kidsB op l.length) := by
    simp only [argE, kidsB, Bool.not_not, Bool.or_assoc]
  rw [hargs] at hm
  obtain ⟨cb, hcb⟩ : ∃ b, (namB op && !coreB nm && !freeN op nm) = b := ⟨_, rfl⟩
  have hcl : calB op nm = !cb := by rw [calB, hcb]
  rw [hcl] at hcal
  rw [hcb] at hm
  refine CS.of_VK Tryz.func87 rfl Tryz.ntmps87 rfl ?_
  by_cases a1 : op < 1
  · simp [a1] at hm
    have o1 : ¬ op = 1 := by omega
    have o2 : ¬ op = 2 := by omega
    simp (maxSteps := 4000000) [o1, o2, a1, hm]
  by_cases a2 : 18 < op
  · simp [a2] at hm
    have o1 : ¬ op = 1 := by omega
    have o2 : ¬ op = 2 := by omega
    simp (maxSteps := 4000000) [o1, o2, a1, a2, hm]
  rw [if_neg (by omega)] at hm
  by_cases o1 : op = 1
  · subst o1
    have hn : namB 1 = false := rfl
    rw [hn, Bool.false_and, Bool.false_and] at hcb
    subst hcb
    by_cases b1 : nm = []
    rotate_left
    · have b1' : nm.isEmpty = false := by cases nm <;> simp at b1 ⊢
      simp [hn, b1] at hm
      simp (maxSteps := 4000000) [b1, b1']
      refine callK.mk ent_r7_named (r7_named_cs 1) ?_
      simp (maxSteps := 4000000) [hn, hm]
    subst b1
    by_cases c0 : n = 0
    · subst c0
      simp (maxSteps := 4000000)
      refine callK.mk ent_r7_kids hkd ?_
      cases hk : kidsB 1 l.length
      · simp [hn, hk] at hm
        simp (maxSteps := 4000000) [hm]
      · simp [hn, hk, rangeE] at hm
        have hi : inB 0 = true := rfl
        simp (maxSteps := 4000000)
        refine callK.mk ent_r1_In (r1_In_cs 0) ?_
        simp [hi] at hm
        simp (maxSteps := 4000000) [hi]
        refine callK.mk ent_r7_called hcal ?_
        simp (maxSteps := 4000000) [hm]
    · simp (maxSteps := 4000000) [c0]
      refine callK.mk ent_r7_kids hkd ?_
      cases hk : kidsB 1 l.length
      · simp [hn, hk] at hm
        simp (maxSteps := 4000000) [hm]
      · simp [hn, hk, rangeE] at hm
        simp (maxSteps := 4000000)
        refine callK.mk ent_r1_In (r1_In_cs n) ?_
        cases hi : inB n
        · simp [hi] at hm
          simp (maxSteps := 4000000) [hm]
        · simp [hi] at hm
          simp (maxSteps := 4000000)
          refine callK.mk ent_r7_called hcal ?_
          simp (maxSteps := 4000000) [hm]
  by_cases o2 : op = 2
  · subst o2
    have hn : namB 2 = false := rfl
    rw [hn, Bool.false_and, Bool.false_and] at hcb
    subst hcb
    by_cases b1 : nm = []
    rotate_left
    · have b1' : nm.isEmpty = false := by cases nm <;> simp at b1 ⊢
      simp [hn, b1] at hm
      simp (maxSteps := 4000000) [b1, b1']
      refine callK.mk ent_r7_named (r7_named_cs 2) ?_
      simp (maxSteps := 4000000) [hn, hm]
    subst b1
    by_cases c0 : n = 0
    · subst c0
      simp (maxSteps := 4000000)
      refine callK.mk ent_r7_kids hkd ?_
      cases hk : kidsB 2 l.length
      · simp [hn, hk] at hm
        simp (maxSteps := 4000000) [hm]
      · simp [hn, hk, rangeE] at hm
        simp (maxSteps := 4000000)
        refine callK.mk ent_r7_called hcal ?_
        simp (maxSteps := 4000000) [hm]
    · simp (maxSteps := 4000000) [c0]
      refine callK.mk ent_r7_kids hkd ?_
      cases hk : kidsB 2 l.length
      · simp [hn, hk] at hm
        simp (maxSteps := 4000000) [hm]
      · simp [hn, hk, rangeE, c0] at hm
        by_cases c1 : n = 1
        · subst c1
          simp at hm
          simp (maxSteps := 4000000)
          refine callK.mk ent_r7_called hcal ?_
          simp (maxSteps := 4000000) [hm]
        · simp [c1] at hm
          by_cases c2 : n < 0
          · simp (maxSteps := 4000000) [c2, hm]
          · have c3 : 1 < n := by omega
            simp (maxSteps := 4000000) [c2, c3, hm]
  by_cases b1 : nm = []
  · subst b1
    by_cases c0 : n = 0
    rotate_left
    · simp [o1, o2, c0] at hm
      simp (maxSteps := 4000000) [a1, a2, o1, o2, c0, hm]
    subst c0
    simp (maxSteps := 4000000) [a1, a2, o1, o2]
    refine callK.mk ent_r7_kids hkd ?_
    cases hk : kidsB op l.length
    · simp [hk] at hm
      simp (maxSteps := 4000000) [hm]
    · simp [o1, o2, hk, rangeE] at hm
      simp (maxSteps := 4000000) [o1, o2]
      refine callK.mk ent_r7_called hcal ?_
      cases cb
      · by_cases o8 : op = 8
        · subst o8
          match l, hk with
          | [], hk => exact absurd hk (by decide)
          | k :: r, hk =>
            by_cases e1 : k.op = 1
            · simp [headK, e1] at hm
              simp (maxSteps := 4000000) [e1, hm]
            · simp [headK, e1] at hm
              simp (maxSteps := 4000000) [e1, hm]
        · simp [o8] at hm
          simp (maxSteps := 4000000) [o8, hm]
      · simp at hm
        simp (maxSteps := 4000000) [hm]
  · have b1' : nm.isEmpty = false := by cases nm <;> simp at b1 ⊢
    simp (maxSteps := 4000000) [a1, a2, o1, o2, b1, b1']
    refine callK.mk ent_r7_named (r7_named_cs op) ?_
    cases hn : namB op
    · simp [hn, b1] at hm
      simp (maxSteps := 4000000) [hm]
    · by_cases c0 : n = 0
      rotate_left
      · simp [hn, o1, o2, c0] at hm
        simp (maxSteps := 4000000) [c0, hm]
      subst c0
      simp (maxSteps := 4000000)
      refine callK.mk ent_r7_kids hkd ?_
      cases hk : kidsB op l.length
      · simp [hk] at hm
        simp (maxSteps := 4000000) [hm]
      · simp [hn, o1, o2, hk, rangeE] at hm
        simp (maxSteps := 4000000) [o1, o2]
        refine callK.mk ent_r7_called hcal ?_
        cases cb
        · by_cases o8 : op = 8
          · subst o8
            match l, hk with
            | [], hk => exact absurd hk (by decide)
            | k :: r, hk =>
              by_cases e1 : k.op = 1
              · simp [headK, e1] at hm
                simp (maxSteps := 4000000) [e1, hm]
              · simp [headK, e1] at hm
                simp (maxSteps := 4000000) [e1, hm]
          · simp [o8] at hm
            simp (maxSteps := 4000000) [o8, hm]
        · simp at hm
          simp (maxSteps := 4000000) [hm]
theorem ent_r7_form : VM.Enters Tryz.prog 54 := VM.Enters.mk Tryz.func54 rfl
theorem r7_form_cs : ∀ p : Pr, nodP p ≤ 900000000 → CS Tryz.prog G 54 [.agg (prD p)] (.d (.int .i64 (firstE nodeE (preP p)))) none := by
  refine Pr.ind fun p ih => ?_
  intro hN
  have hnd := r7_node_cs (G := G) p (by have := nodP_kids p; have := len_le_nodPs p.kids; omega)
  have hpe := preP_eq p
  obtain ⟨op, nm, n, l⟩ := p
  simp only at ih hpe
  have hn := nodP_kids ⟨op, nm, n, l⟩
  simp only at hn
  have hl := len_le_nodPs l
  rw [hpe, firstE]
  refine CS.of_VK Tryz.func54 rfl Tryz.ntmps54 rfl ?_
  simp
  refine callK.mk ent_r7_node hnd ?_
  by_cases h0 : nodeE ⟨op, nm, n, l⟩ = 0
  rotate_left
  · simp [h0]
  simp [h0]
  refine SW.loopF (ι := { i : Nat // i ≤ l.length ∧ firstE nodeE (prePs (l.take i)) = 0 }) (fun i => [(15, .d (.int .i64 i.1))]) (fun _ => [(1, prO op nm n (.sl (l.map prC)))]) (fun _ => []) (fun i => l.length - i.1) ⟨0, by simp [prePs, firstE]⟩ (by simp) ?_
  rintro ⟨i, hi, hR⟩
  try simp only at hi hR
  by_cases hlt : i < l.length
  · have hg := prs_get hlt
    have hw := wrap64s (show i < 9223372036854775807 by omega)
    have hb2 := nodPs_step hlt
    have hb3 := nodPs_take_le l (i + 1)
    have ht := prePs_take hlt
    have hsp := prePs_split l (i + 1)
    simp [hlt, hg]
    refine callK.mk ent_r7_form (ih l[i] (List.getElem_mem hlt) (by omega)) ?_
    by_cases hk : firstE nodeE (preP l[i]) = 0
    · simp [hk]
      exact Again.mk ⟨i + 1, hlt, by rw [ht, firstE_app, if_pos hR, hk]⟩ (by simp [hw]) (by simp; omega)
    · have hf : firstE nodeE (prePs l) = firstE nodeE (preP l[i]) := by
        rw [hsp, firstE_app, ht, firstE_app, if_pos hR, if_neg hk]
      simp [hk, hf]
  · have : i = l.length := by omega
    subst this
    rw [List.take_length] at hR
    simp [hR]
theorem ent_r7_Check : VM.Enters Tryz.prog 32 := VM.Enters.mk Tryz.func32 rfl
theorem r7_Check_cs (p : Pr) (hN : nodP p ≤ 900000000) : CS Tryz.prog G 32 [.agg (prD p)] (.d (.int .i64 (chkE p))) none := by
  refine CS.of_VK Tryz.func32 rfl Tryz.ntmps32 rfl ?_
  simp
  refine callK.mk ent_r7_Nodes (r7_Nodes_cs p hN) ?_
  by_cases h1 : 400 < nodP p
  · simp [h1, chkE, chkP]
  simp [h1]
  refine callK.mk ent_r7_Depth (r7_Depth_cs p hN) ?_
  by_cases h2 : 40 < depP p
  · simp [h1, h2, chkE, chkP]
  simp [h2]
  refine callK.mk ent_r7_form (r7_form_cs p hN) ?_
  simp [h1, h2, chkE, chkP]
end Go.Proofs.YtlglfkdjlbcpjaaGreatDoor
end
