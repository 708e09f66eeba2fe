/- Sorts: Check and Sym, in the package and in its reference. No condition. -/
import Derived.Test.YthhfdlhbhfkbdaaDoorSf
set_option linter.unusedVariables false
set_option linter.unusedSimpArgs false
set_option linter.unusedSectionVars false
namespace Go.Proofs.YthhfdlhbhfkbdaaDoor
open Go Go.VM
set_option maxRecDepth 100000
set_option maxHeartbeats 4000000
variable {G : GT}
/-- Is it a sort? -/
def sortB (s : List UInt8) : Bool := decide (s = [73, 110, 116]) || decide (s = [66, 111, 111, 108]) || decide (s = [67, 101, 108, 108]) || (coreB s && headB capB s)
def sortE (s : List UInt8) : Int := if sortB s then 0 else 11
theorem coreB_nil : coreB [] = false := rfl
theorem ent_s_Check : Enters Tryd.prog 12 := Enters.mk Tryd.func12 rfl
theorem s_Check_cs (hG : G 0 = some kwCells) (s : List UInt8) : CS Tryd.prog G 12 [.str s] (.d (.int .i64 (sortE s))) none := by
  refine CS.of_VK Tryd.func12 rfl Tryd.ntmps12 rfl ?_
  by_cases e1 : s = [73, 110, 116]
  · simp [e1, sortE, sortB]
  by_cases e2 : s = [66, 111, 111, 108]
  · simp [e2, sortE, sortB]
  by_cases e3 : s = [67, 101, 108, 108]
  · simp [e3, sortE, sortB]
  simp [e1, e2, e3]
  refine callK.mk ent_n_Core (n_Core_cs hG s) ?_
  have hs : sortB s = (coreB s && headB capB s) := by simp [sortB, e1, e2, e3]
  cases h1 : coreB s
  · simp [errName, sortE, hs, h1]
  · have h0 : 0 < s.length := by
      rcases lt_or_nil s with h | h
      · subst h; rw [coreB_nil] at h1; cases h1
      · exact h
    simp [errName, h0]
    have hh := headB_get (p := capB) h0
    by_cases c1 : s[0].toNat < 65
    · simp [c1]
      have : sortB s = false := by rw [hs, h1, hh]; simp [capB]; omega
      simp [sortE, this]
    · by_cases c2 : 90 < s[0].toNat
      · simp [c1, c2, h0]
        have : sortB s = false := by rw [hs, h1, hh]; simp [capB]; omega
        simp [sortE, this]
      · simp [c1, c2, h0]
        have : sortB s = true := by rw [hs, h1, hh]; simp [capB]; omega
        simp [sortE, this]
theorem ent_r6_Check : Enters Tryd.prog 13 := Enters.mk Tryd.func13 rfl
theorem r6_Check_cs (s : List UInt8) : CS Tryd.prog G 13 [.str s] (.d (.int .i64 (sortE s))) none := by
  refine CS.of_VK Tryd.func13 rfl Tryd.ntmps13 rfl ?_
  by_cases e1 : s = [73, 110, 116]
  · simp [e1, sortE, sortB]
  by_cases e2 : s = [66, 111, 111, 108]
  · simp [e2, sortE, sortB]
  by_cases e3 : s = [67, 101, 108, 108]
  · simp [e3, sortE, sortB]
  have hs : sortB s = (coreB s && headB capB s) := by simp [sortB, e1, e2, e3]
  rcases lt_or_nil s with h0 | h0
  · subst h0
    have : sortE [] = 11 := rfl
    simp [this]
  have hh := headB_get (p := capB) h0
  simp [e1, e2, e3, h0]
  by_cases c1 : 65 ≤ s[0].toNat
  · by_cases c2 : s[0].toNat ≤ 90
    · simp [c1, c2, h0]
      refine callK.mk ent_r4_Core (r4_Core_cs s) ?_
      cases h1 : coreB s
      · simp [errName, sortE, hs, h1]
      · have : sortB s = true := by rw [hs, h1, hh]; simp [capB]; omega
        simp [errName, sortE, this]
    · have : sortB s = false := by rw [hs, hh]; simp [capB]; omega
      simp [c1, c2, h0, sortE, this]
  · have : sortB s = false := by rw [hs, hh]; simp [capB]; omega
    simp [c1, h0, sortE, this]

structure SymL where
  name : List UInt8
  args : List (List UInt8)
  res : List UInt8
def symC (y : SymL) : List D := [.str y.name, .sl (strs y.args), .str y.res]
def symE (y : SymL) : Int := if coreB y.name then (if 1 ≤ y.args.length ∧ y.args.length ≤ 6 then (if y.args.all sortB then sortE y.res else 11) else 13) else 3
theorem ent_s_Sym : Enters Tryd.prog 14 := Enters.mk Tryd.func14 rfl
theorem s_Sym_cs (hG : G 0 = some kwCells) (y : SymL) : CS Tryd.prog G 14 [.agg (symC y)] (.d (.int .i64 (symE y))) none := by
  obtain ⟨nm, args, res⟩ := y
  refine CS.of_VK Tryd.func14 rfl Tryd.ntmps14 rfl ?_
  simp [symC]
  refine callK.mk ent_n_Core (n_Core_cs hG nm) ?_
  cases h1 : coreB nm
  · simp [errName, symE, h1]
  by_cases l1 : args.length < 1
  · have : ¬ 1 ≤ args.length := by omega
    simp [errName, symE, h1, l1, this]
  by_cases l2 : 6 < args.length
  · have : ¬ args.length ≤ 6 := by omega
    simp [errName, symE, h1, l1, l2, this]
  simp [errName, l1, l2]
  have hE : symE ⟨nm, args, res⟩ = if args.all sortB then sortE res else 11 := by
    have a1 : 1 ≤ args.length := by omega
    have a2 : args.length ≤ 6 := by omega
    simp [symE, h1, a1, a2]
  refine SW.loopF (ι := { i : Nat // i ≤ args.length ∧ args.all sortB = (args.drop i).all sortB }) (fun i => [(23, .d (.int .i64 i.1))]) (fun _ => [(1, .cells [.str nm, .sl (strs args), .str res])]) (fun _ => []) (fun i => args.length - i.1) ⟨0, by simp⟩ (by simp) ?_
  rintro ⟨i, hi, he⟩
  by_cases hlt : i < args.length
  · have hw := wrap64s (show i < 9223372036854775807 by omega)
    simp [hlt]
    refine callK.mk ent_s_Check (s_Check_cs hG _) ?_
    cases g1 : sortB args[i]
    · simp [sortE, g1]
      rw [hE, all_stop he hlt g1]
      rfl
    · simp [sortE, g1]
      exact Again.mk ⟨i + 1, hlt, all_step he hlt g1⟩ (by simp [hw]) (by simp; omega)
  · simp [hlt]
    refine callK.mk ent_s_Check (s_Check_cs hG _) ?_
    simp
    rw [hE, all_end he hlt]
    rfl
theorem ent_r6_Sym : Enters Tryd.prog 15 := Enters.mk Tryd.func15 rfl
theorem r6_Sym_cs (y : SymL) : CS Tryd.prog G 15 [.agg (symC y)] (.d (.int .i64 (symE y))) none := by
  obtain ⟨nm, args, res⟩ := y
  refine CS.of_VK Tryd.func15 rfl Tryd.ntmps15 rfl ?_
  simp [symC]
  refine callK.mk ent_r4_Core (r4_Core_cs nm) ?_
  cases h1 : coreB nm
  · simp [errName, symE, h1]
  by_cases l1 : args.length < 1
  · have : ¬ 1 ≤ args.length := by omega
    simp [errName, symE, h1, l1, this]
  by_cases l2 : 6 < args.length
  · have : ¬ args.length ≤ 6 := by omega
    simp [errName, symE, h1, l1, l2, this]
  simp [errName, l1, l2]
  have hE : symE ⟨nm, args, res⟩ = if args.all sortB then sortE res else 11 := by
    have a1 : 1 ≤ args.length := by omega
    have a2 : args.length ≤ 6 := by omega
    simp [symE, h1, a1, a2]
  refine SW.loopF (ι := { i : Nat // i ≤ args.length ∧ args.all sortB = (args.drop i).all sortB }) (fun i => [(3, .d (.int .i64 i.1))]) (fun _ => [(1, .cells [.str nm, .sl (strs args), .str res])]) (fun _ => []) (fun i => args.length - i.1) ⟨0, by simp⟩ (by simp) ?_
  rintro ⟨i, hi, he⟩
  by_cases hlt : i < args.length
  · have hw := wrap64s (show i < 9223372036854775807 by omega)
    simp [hlt]
    refine callK.mk ent_r6_Check (r6_Check_cs _) ?_
    cases g1 : sortB args[i]
    · simp [sortE, g1]
      rw [hE, all_stop he hlt g1]
      rfl
    · simp [sortE, g1]
      exact Again.mk ⟨i + 1, hlt, all_step he hlt g1⟩ (by simp [hw]) (by simp; omega)
  · simp [hlt]
    refine callK.mk ent_r6_Check (r6_Check_cs _) ?_
    simp
    rw [hE, all_end he hlt]
    rfl
end Go.Proofs.YthhfdlhbhfkbdaaDoor
