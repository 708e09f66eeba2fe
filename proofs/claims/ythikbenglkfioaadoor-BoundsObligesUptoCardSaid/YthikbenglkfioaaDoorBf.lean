/- Bounds: the examples of the statements, run. No condition. -/
import Derived.Test.YthikbenglkfioaaDoorBb
import Derived.Test.YthikbenglkfioaaDoorBi
import Derived.Test.YthikbenglkfioaaDoorZ6
set_option linter.unusedVariables false
set_option linter.unusedSimpArgs false
set_option linter.unusedSectionVars false
namespace Go.Proofs.YthikbenglkfioaaDoor
open Go Go.VM
set_option maxRecDepth 100000
set_option maxHeartbeats 8000000
/-- The package-level variables whose cells are used. -/
def G0 : GT := fun g => if g = 0 then some kwCells else none
theorem G0_kw : G0 0 = some kwCells := rfl
def lfP (op : Int) (nm : Nm) (n : Int) : Pr := ⟨op, nm, n, []⟩
def ndP (op : Int) (a b : Pr) : Pr := ⟨op, [], 0, [a, b]⟩
def apP (a : Pr) : Pr := ⟨4, [112], 0, [a]⟩
def lfR (op : Int) (nm : Nm) (n : Int) : List D := [.int .i64 op, .str nm, .int .i64 n, .nils]
def lfE (op : Int) (nm : Nm) (n : Int) : List D := [.int .i64 op, .str nm, .int .i64 n, .sl []]
def ndR (op : Int) (a b : List D) : List D := [.int .i64 op, .str [], .int .i64 0, .sl [a, b]]
def apR (a : List D) : List D := [.int .i64 4, .str [112], .int .i64 0, .sl [a]]
def bX : Bd := ⟨[117, 112], [([120], [73, 110, 116]), ([121], [73, 110, 116])], ndP 15 (apP (lfP 3 [120] 0)) (ndP 13 (lfP 3 [120] 0) (lfP 3 [121] 0)), apP (lfP 3 [121] 0)⟩
def bR : List D := [.str [117, 112], .sl [[.str [120], .str [73, 110, 116]], [.str [121], .str [73, 110, 116]]]] ++ ndR 15 (apR (lfR 3 [120] 0)) (ndR 13 (lfR 3 [120] 0) (lfR 3 [121] 0)) ++ apR (lfR 3 [121] 0)
theorem wkB : WkD (.agg bR) (.agg (bdC bX)) := by simp [bR, bX, apP, apR, ndR, ndP, lfR, lfP, vrC]
def aX : List Pr := [lfP 1 [] 1, lfP 3 [122] 0]
def aR : D := .sl [lfR 1 [] 1, lfR 3 [122] 0]
def qE : List D := [.int .i64 17, .str [], .int .i64 0, .sl [ndR 15 (apR (lfE 1 [] 1)) (ndR 13 (lfE 1 [] 1) (lfE 3 [122] 0)), apR (lfE 3 [122] 0)]]
theorem inst1 : CS Tryd.prog G0 39 [.agg bR, aR] (.tup [.agg qE, .int .i64 0]) none := by
  have h := bounds_Instance_cs (G := G0) bX aX (by decide) (by decide) (by decide) (by decide) (by decide)
  have e : prD (instR bX aX).1 = qE := by
    simp [instR, bX, aX, instP, wholeP, zerP, substP, substPs, pickP, apP, ndP, lfP, qE, apR, ndR, lfE, bdN, findI]
  have e2 : (instR bX aX).2 = 0 := rfl
  rw [e, e2] at h
  refine CS.args h ?_
  simp [bR, bX, aR, aX, apP, apR, ndR, ndP, lfR, lfP, vrC]
theorem inst2 : CS Tryd.prog G0 39 [.agg bR, .nils] (.tup [.agg (lfE 0 [] 0), .int .i64 13]) none := by
  have h := bounds_Instance_cs (G := G0) bX [] (by decide) (by decide) (by decide) (by decide) (by simp)
  have e : prD (instR bX []).1 = lfE 0 [] 0 := by
    simp [instR, bX, zerP, lfE]
  have e2 : (instR bX []).2 = 13 := rfl
  rw [e, e2] at h
  refine CS.args h ?_
  simp [bR, bX, apP, apR, ndR, ndP, lfR, lfP, vrC]
def vX : EnvL := ⟨[], [⟨[112], [[73, 110, 116]], [66, 111, 111, 108]⟩], []⟩
def vR : List D := [.nils, .sl [[.str [112], .sl [[.str [73, 110, 116]]], .str [66, 111, 111, 108]]], .nils]
def vZ : EnvL := ⟨[], [], []⟩
def vN : List D := [.nils, .nils, .nils]
theorem chk1 : CS Tryd.prog G0 41 [.agg vR, .agg bR] (.d (.int .i64 0)) none := by
  have h := bounds_Check_cs (G := G0) G0_kw vX bX ⟨by decide, by decide, by decide, by decide, by decide⟩ (by decide) (by decide) (by decide)
  have e : bndE vX bX = 0 := by decide +kernel
  rw [e] at h
  refine CS.args h ?_
  simp [bR, bX, apP, apR, ndR, ndP, lfR, lfP, vrC, vR, vX, envC, varsC, symsC, symC, holesC, strs]
theorem chk2 : CS Tryd.prog G0 41 [.agg vN, .agg bR] (.d (.int .i64 5)) none := by
  have h := bounds_Check_cs (G := G0) G0_kw vZ bX ⟨by decide, by decide, by decide, by decide, by decide⟩ (by decide) (by decide) (by decide)
  have e : bndE vZ bX = 5 := by decide +kernel
  rw [e] at h
  refine CS.args h ?_
  simp [bR, bX, apP, apR, ndR, ndP, lfR, lfP, vrC, vN, vZ, envC, varsC, symsC, symC, holesC, strs]
def cF : List D := [.int .i64 2, .str [117, 112, 46, 120], .str [73, 110, 116], .int .i64 0, .str [], .int .i64 0, .sl [], .int .i64 0, .sl [[.int .i64 2, .str [117, 112, 46, 121], .str [73, 110, 116], .int .i64 0, .str [], .int .i64 0, .sl [], .int .i64 0,
  .sl [[.int .i64 2, .str [], .str []] ++ ndR 15 (apR (lfE 3 [117, 112, 46, 120] 0)) (ndR 13 (lfE 3 [117, 112, 46, 120] 0) (lfE 3 [117, 112, 46, 121] 0)) ++ [.int .i64 0, .sl [[.int .i64 3, .str [], .str []] ++ apR (lfE 3 [117, 112, 46, 121] 0) ++ [.int .i64 3, .sl []]]]]]]]
theorem obl1E : CS Tryd.prog G0 10 [.agg bR, .nils, .nils, .int .i64 3] (.d (.agg cF)) none := by
  have h := bounds_Obligation_cs (G := G0) bX [] [] 3 (by decide) (by decide) (by decide) (by simp) (by decide) (by decide) (by decide) (by decide)
  have e : cnD (oblC bX [] [] 3) = cF := by
    simp [oblC, wrapC, bX, putP, byP, bdN, substP, substPs, pickP, findI, absP_eq, nodeA, holeAt, absI, apP, ndP, lfP, cF, apR, ndR, lfE, zerP]
  rw [e] at h
  refine CS.args h ?_
  simp [bR, bX, apP, apR, ndR, ndP, lfR, lfP, vrC]
def lib0 : CallF := fun f ds => if f = 39 then (if eqDs ds [.agg bR, aR] then some (.tup [.agg qE, .int .i64 0], none) else if eqDs ds [.agg bR, .nils] then some (.tup [.agg (lfE 0 [] 0), .int .i64 13], none) else none)
  else if f = 41 then (if eqDs ds [.agg vR, .agg bR] then some (.d (.int .i64 0), none) else if eqDs ds [.agg vN, .agg bR] then some (.d (.int .i64 5), none) else none)
  else if f = 10 then (if eqDs ds [.agg bR, .nils, .nils, .int .i64 3] then some (.d (.agg cF), none) else none) else none
theorem lib0_ok : CallOk Tryd.prog G0 lib0 := by
  intro f ds r own h
  unfold lib0 at h
  split at h
  · rename_i hf
    subst hf
    split at h
    · rename_i e
      cases h
      refine ⟨ent_bounds_Instance, ?_⟩
      rw [eqDs_ok _ _ e]
      exact inst1
    · split at h
      · rename_i e
        cases h
        refine ⟨ent_bounds_Instance, ?_⟩
        rw [eqDs_ok _ _ e]
        exact inst2
      · cases h
  · split at h
    · rename_i hf
      subst hf
      split at h
      · rename_i e
        cases h
        refine ⟨ent_bounds_Check, ?_⟩
        rw [eqDs_ok _ _ e]
        exact chk1
      · split at h
        · rename_i e
          cases h
          refine ⟨ent_bounds_Check, ?_⟩
          rw [eqDs_ok _ _ e]
          exact chk2
        · cases h
    · split at h
      · rename_i hf
        subst hf
        split at h
        · rename_i e
          cases h
          refine ⟨ent_bounds_Obligation, ?_⟩
          rw [eqDs_ok _ _ e]
          exact obl1E
        · cases h
      · cases h
theorem ent_l36_awake : VM.Enters Tryd.prog 8 := VM.Enters.mk Tryd.func8 rfl
theorem l36_awake_cs : CS Tryd.prog G0 8 [] (.d (.bool true)) none := (evalF_ok lib0_ok 60 8 [] (.d (.bool true)) none (by kernel_rfl)).2
end Go.Proofs.YthikbenglkfioaaDoor
