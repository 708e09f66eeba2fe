/- The examples of the statements about constraints, run. No condition. -/
import Derived.Test.YthikbenglkfioaaGreatDoorPl
import Derived.Test.YthikbenglkfioaaGreatDoorPe
import Derived.Test.YthikbenglkfioaaGreatDoorCe
import Derived.Test.YthikbenglkfioaaGreatDoorZ9
import Derived.Test.YthikbenglkfioaaGreatDoorZ6
set_option linter.unusedVariables false
set_option linter.unusedSimpArgs false
set_option linter.unusedSectionVars false
namespace Go.Proofs.YthikbenglkfioaaGreatDoor
open Go Go.VM
set_option maxRecDepth 100000
set_option maxHeartbeats 8000000
/-- The package-level variables whose cells are used. -/
def G0 : GT := fun g => if g = 0 then some kwCells else none
theorem G0_kw : G0 0 = some kwCells := rfl
def libN : CallF := fun _ _ => none
theorem libN_ok : CallOk Tryz.prog G0 libN := fun _ _ _ _ h => by cases h
theorem run_cs {f : FuncId} {ds : List D} {r : DV} {own : Option TypeId} (h : evalF Tryz.prog G0 libN 60 f ds = some (r, own)) : CS Tryz.prog G0 f ds r own := (evalF_ok libN_ok 60 f ds r own h).2
def lfP (op : Int) (nm : Nm) (n : Int) : Pr := ⟨op, nm, n, []⟩
def ndP (op : Int) (a b : Pr) : Pr := ⟨op, [], 0, [a, b]⟩
def lfR (op : Int) (nm : Nm) (n : Int) : List D := [.int .i64 op, .str nm, .int .i64 n, .nils]
def ndR (op : Int) (a b : List D) : List D := [.int .i64 op, .str [], .int .i64 0, .sl [a, b]]
def pA : Pr := ndP 15 (ndP 13 (lfP 1 [] 0) (lfP 3 [120] 0)) (ndP 13 (lfP 3 [98] 0) (lfP 3 [120] 0))
def rA : List D := ndR 15 (ndR 13 (lfR 1 [] 0) (lfR 3 [120] 0)) (ndR 13 (lfR 3 [98] 0) (lfR 3 [120] 0))
def pB : Pr := ndP 15 (ndP 13 (lfP 3 [120] 0) (lfP 3 [121] 0)) (ndP 12 (lfP 3 [99] 0) (lfP 3 [121] 0))
def rB : List D := ndR 15 (ndR 13 (lfR 3 [120] 0) (lfR 3 [121] 0)) (ndR 12 (lfR 3 [99] 0) (lfR 3 [121] 0))
theorem wkA : WkL [.agg rA] [.agg (prC pA)] := by simp [rA, pA, ndR, ndP, lfR, lfP]
theorem wkB : WkL [.agg rB] [.agg (prC pB)] := by simp [rB, pB, ndR, ndP, lfR, lfP]
theorem chkA : CS Tryz.prog G0 88 [.agg (prC pA)] (.d (.int .i64 0)) none := by
  refine pred_Check_of (fun _ => 0) pA (by decide) (by simp only [pA, ndP, lfP, prC_eq, List.map_cons, List.map_nil]; exact run_cs (by kernel_rfl)) (by simp only [pA, ndP, lfP, prC_eq, List.map_cons, List.map_nil]; exact run_cs (by kernel_rfl)) ?_
  simp only [pA, ndP, lfP, preP, prePs, List.mem_cons, List.mem_append, List.not_mem_nil, or_false, List.append_nil, List.cons_append, List.nil_append]
  rintro q (rfl | rfl | rfl | rfl | rfl | rfl | rfl) <;> (simp only [prC_eq, List.map_cons, List.map_nil]; exact run_cs (by kernel_rfl))
theorem chkB : CS Tryz.prog G0 88 [.agg (prC pB)] (.d (.int .i64 0)) none := by
  refine pred_Check_of (fun _ => 0) pB (by decide) (by simp only [pB, ndP, lfP, prC_eq, List.map_cons, List.map_nil]; exact run_cs (by kernel_rfl)) (by simp only [pB, ndP, lfP, prC_eq, List.map_cons, List.map_nil]; exact run_cs (by kernel_rfl)) ?_
  simp only [pB, ndP, lfP, preP, prePs, List.mem_cons, List.mem_append, List.not_mem_nil, or_false, List.append_nil, List.cons_append, List.nil_append]
  rintro q (rfl | rfl | rfl | rfl | rfl | rfl | rfl) <;> (simp only [prC_eq, List.map_cons, List.map_nil]; exact run_cs (by kernel_rfl))
theorem ent_pred_Check : VM.Enters Tryz.prog 88 := VM.Enters.mk Tryz.func88 rfl
def consR (op : Int) (nm so : Nm) (p : List D) (tag : Int) (ks : List (List D)) : List D := [.int .i64 op, .str nm, .str so] ++ p ++ [.int .i64 tag, if ks.isEmpty then .nils else .sl ks]
def kR : List D := consR 2 [120] [73,110,116] rA 0 [consR 2 [121] [73,110,116] (lfR 0 [] 0) 0 [consR 3 [] [] rB 3 []]]
def kC : Cn := ⟨2, [120], [73,110,116], pA, 0, [⟨2, [121], [73,110,116], zerP, 0, [⟨3, [], [], pB, 3, []⟩]⟩]⟩
theorem wkK : WkL [.agg kR] [.agg (cnD kC)] := by simp [kR, kC, consR, rA, rB, pA, pB, zerP, ndR, ndP, lfR, lfP]
def lfE (op : Int) (nm : Nm) (n : Int) : List D := [.int .i64 op, .str nm, .int .i64 n, .sl []]
def clE (h : List D) : List D := [.sl [[.str [120], .str [73,110,116]], [.str [121], .str [73,110,116]]], .sl [ndR 13 (lfE 1 [] 0) (lfE 3 [120] 0), ndR 13 (lfE 3 [98] 0) (lfE 3 [120] 0)]] ++ h ++ [.int .i64 3]
def kE : D := .sl [clE (ndR 13 (lfE 3 [120] 0) (lfE 3 [121] 0)), clE (ndR 12 (lfE 3 [99] 0) (lfE 3 [121] 0))]
theorem flatK : (flatC kC [] []).map clC = [clE (ndR 13 (lfE 3 [120] 0) (lfE 3 [121] 0)), clE (ndR 12 (lfE 3 [99] 0) (lfE 3 [121] 0))] := by
  simp [kC, pA, pB, flatC, flatCs, varsC2, hypsC2, splitP, ndP, lfP, voidP, zerP, truP, clE, lfE, ndR, vrC]
theorem flat_cs : CS Tryz.prog G0 22 [.agg kR] (.d kE) (some 61) := by
  have h := constraint_Flat_cs (G := G0) kC (by decide)
  rw [flatK] at h
  exact CS.args h wkK
def lib0 : CallF := fun f ds => if f = 88 then (if eqDs ds [.agg rA] || eqDs ds [.agg rB] then some (.d (.int .i64 0), none) else none)
  else if f = 131 then (match ds with
    | [.int .i64 op] => some (.ag [(ruleR op).1, .d (.str (ruleR op).2)], none)
    | _ => none)
  else if f = 22 then (if eqDs ds [.agg kR] then some (.d kE, some 61) else none) else none
theorem lib0_ok : CallOk Tryz.prog G0 lib0 := by
  intro f ds r own h
  unfold lib0 at h
  split at h
  · rename_i hf
    subst hf
    split at h
    · rename_i hn
      cases h
      refine ⟨ent_pred_Check, ?_⟩
      rcases Bool.or_eq_true_iff.1 hn with e | e
      · rw [eqDs_ok _ _ e]
        exact CS.args chkA wkA
      · rw [eqDs_ok _ _ e]
        exact CS.args chkB wkB
    · cases h
  · split at h
    · rename_i hf
      subst hf
      split at h
      · cases h
        exact ⟨ent_sorting_ruleOf, sorting_ruleOf_cs _⟩
      · cases h
    · split at h
      · rename_i hf
        subst hf
        split at h
        · rename_i e
          cases h
          refine ⟨ent_constraint_Flat, ?_⟩
          rw [eqDs_ok _ _ e]
          exact flat_cs
        · cases h
      · cases h
theorem ent_l38_alive : VM.Enters Tryz.prog 21 := VM.Enters.mk Tryz.func21 rfl
theorem l38_alive_cs : CS Tryz.prog G0 21 [] (.d (.bool true)) none := (evalF_ok lib0_ok 60 21 [] (.d (.bool true)) none (by kernel_rfl)).2
end Go.Proofs.YthikbenglkfioaaGreatDoor
