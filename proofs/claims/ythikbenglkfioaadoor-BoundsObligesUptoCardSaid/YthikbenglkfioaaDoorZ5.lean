/- Joined texts. Names: the reference's parts of a text, core names. Names: the reference's core names. Sorts: Check and Sym, in the package and in its reference. Environments: variables. Environments: symbols and holes, and the reference's lists. No condition. -/
import Derived.Test.YthikbenglkfioaaDoorZ4
set_option linter.unusedVariables false
set_option linter.unusedSimpArgs false
set_option linter.unusedSectionVars false
namespace Go.Proofs.YthikbenglkfioaaDoor
open Go Go.VM
set_option maxRecDepth 100000
set_option maxHeartbeats 4000000
variable {G : GT}
/-- The parts, with the bytes of the first already read. -/
def partsC (cur s : List UInt8) : List (List UInt8) := match partsL s with
  | p :: ps => (cur ++ p) :: ps
  | [] => [cur]
theorem partsL_ne : ∀ s, partsL s ≠ []
  | [] => by simp [partsL]
  | c :: r => by
    unfold partsL
    split
    · simp
    · split <;> simp
theorem partsC_nil (s : List UInt8) : partsC [] s = partsL s := by
  unfold partsC
  cases h : partsL s with
  | nil => exact absurd h (partsL_ne s)
  | cons p ps => simp
theorem partsC_end (cur : List UInt8) : partsC cur [] = [cur] := by simp [partsC, partsL]
theorem partsC_dot (cur r : List UInt8) (c : UInt8) (h : c.toNat = 46) : partsC cur (c :: r) = cur :: partsL r := by simp [partsC, partsL, h]
theorem partsC_else (cur r : List UInt8) (c : UInt8) (h : c.toNat ≠ 46) : partsC cur (c :: r) = partsC (cur ++ [c]) r := by
  unfold partsC
  simp only [partsL, h, if_false]
  cases hp : partsL r with
  | nil => exact absurd hp (partsL_ne r)
  | cons p ps => simp
theorem take_drop_succ {s : List UInt8} {b i : Nat} (hb : b ≤ i) (h : i < s.length) : (s.take (i + 1)).drop b = (s.take i).drop b ++ [s[i]] := by
  rw [List.take_succ_eq_append_getElem h, List.drop_append_of_le_length (by simp; omega)]
theorem partsL_len : ∀ s, (partsL s).length ≤ s.length + 1
  | [] => by simp [partsL]
  | c :: r => by
    have := partsL_len r
    unfold partsL
    split
    · simp; omega
    · split
      · rename_i p ps h; rw [h] at this; simp at this ⊢; omega
      · simp
theorem part_word {s : List UInt8} (h : 0 < s.length) : wordB s = (smallB s[0].toNat && all8 wdB s) := by
  cases s with
  | nil => simp at h
  | cons c s => simp [wordB, Bool.and_comm]
end Go.Proofs.YthikbenglkfioaaDoor

set_option linter.unusedVariables false
set_option linter.unusedSimpArgs false
set_option linter.unusedSectionVars false
namespace Go.Proofs.YthikbenglkfioaaDoor
open Go Go.VM
set_option maxRecDepth 100000
set_option maxHeartbeats 4000000
variable {G : GT}
end Go.Proofs.YthikbenglkfioaaDoor

set_option linter.unusedVariables false
set_option linter.unusedSimpArgs false
set_option linter.unusedSectionVars false
namespace Go.Proofs.YthikbenglkfioaaDoor
open Go Go.VM
set_option maxRecDepth 100000
set_option maxHeartbeats 4000000
variable {G : GT}
/-- Is it a sort? -/
def sortB (s : List UInt8) : Bool := decide (s = [73, 110, 116]) || decide (s = [66, 111, 111, 108]) || decide (s = [67, 101, 108, 108]) || (coreB s && headB capB s)
def sortE (s : List UInt8) : Int := if sortB s then 0 else 11
theorem coreB_nil : coreB [] = false := rfl
theorem ent_s_Check : VM.Enters Tryd.prog 74 := VM.Enters.mk Tryd.func74 rfl
theorem s_Check_cs (hG : G 0 = some kwCells) (s : List UInt8) : CS Tryd.prog G 74 [.str s] (.d (.int .i64 (sortE s))) none := by
  refine CS.of_VK Tryd.func74 rfl Tryd.ntmps74 rfl ?_
  by_cases e1 : s = [73, 110, 116]
  · simp [e1, sortE, sortB]
  by_cases e2 : s = [66, 111, 111, 108]
  · simp [e2, sortE, sortB]
  by_cases e3 : s = [67, 101, 108, 108]
  · simp [e3, sortE, sortB]
  simp [e1, e2, e3]
  refine callK.mk ent_n_Core (n_Core_cs hG s) ?_
  have hs : sortB s = (coreB s && headB capB s) := by simp [sortB, e1, e2, e3]
  cases h1 : coreB s
  · simp [errName, sortE, hs, h1]
  · have h0 : 0 < s.length := by
      rcases lt_or_nil s with h | h
      · subst h; rw [coreB_nil] at h1; cases h1
      · exact h
    simp [errName, h0]
    have hh := headB_get (p := capB) h0
    by_cases c1 : s[0].toNat < 65
    · simp [c1]
      have : sortB s = false := by rw [hs, h1, hh]; simp [capB]; omega
      simp [sortE, this]
    · by_cases c2 : 90 < s[0].toNat
      · simp [c1, c2, h0]
        have : sortB s = false := by rw [hs, h1, hh]; simp [capB]; omega
        simp [sortE, this]
      · simp [c1, c2, h0]
        have : sortB s = true := by rw [hs, h1, hh]; simp [capB]; omega
        simp [sortE, this]
structure SymL where
  name : List UInt8
  args : List (List UInt8)
  res : List UInt8
def symC (y : SymL) : List D := [.str y.name, .sl (strs y.args), .str y.res]
def symE (y : SymL) : Int := if coreB y.name then (if 1 ≤ y.args.length ∧ y.args.length ≤ 6 then (if y.args.all sortB then sortE y.res else 11) else 13) else 3
theorem ent_s_Sym : VM.Enters Tryd.prog 126 := VM.Enters.mk Tryd.func126 rfl
theorem s_Sym_cs (hG : G 0 = some kwCells) (y : SymL) : CS Tryd.prog G 126 [.agg (symC y)] (.d (.int .i64 (symE y))) none := by
  obtain ⟨nm, args, res⟩ := y
  refine CS.of_VK Tryd.func126 rfl Tryd.ntmps126 rfl ?_
  simp [symC]
  refine callK.mk ent_n_Core (n_Core_cs hG nm) ?_
  cases h1 : coreB nm
  · simp [errName, symE, h1]
  by_cases l1 : args.length < 1
  · have : ¬ 1 ≤ args.length := by omega
    simp [errName, symE, h1, l1, this]
  by_cases l2 : 6 < args.length
  · have : ¬ args.length ≤ 6 := by omega
    simp [errName, symE, h1, l1, l2, this]
  simp [errName, l1, l2]
  have hE : symE ⟨nm, args, res⟩ = if args.all sortB then sortE res else 11 := by
    have a1 : 1 ≤ args.length := by omega
    have a2 : args.length ≤ 6 := by omega
    simp [symE, h1, a1, a2]
  refine SW.loopF (ι := { i : Nat // i ≤ args.length ∧ args.all sortB = (args.drop i).all sortB }) (fun i => [(23, .d (.int .i64 i.1))]) (fun _ => [(1, .cells [.d (.str nm), .d (.sl (strs args)), .d (.str res)])]) (fun _ => []) (fun i => args.length - i.1) ⟨0, by simp⟩ (by simp) ?_
  rintro ⟨i, hi, he⟩
  by_cases hlt : i < args.length
  · have hw := wrap64s (show i < 9223372036854775807 by omega)
    simp [hlt]
    refine callK.mk ent_s_Check (s_Check_cs hG _) ?_
    cases g1 : sortB args[i]
    · simp [sortE, g1]
      rw [hE, all_stop he hlt g1]
      rfl
    · simp [sortE, g1]
      exact Again.mk ⟨i + 1, hlt, all_step he hlt g1⟩ (by simp [hw]) (by simp; omega)
  · simp [hlt]
    refine callK.mk ent_s_Check (s_Check_cs hG _) ?_
    simp
    rw [hE, all_end he hlt]
    rfl
end Go.Proofs.YthikbenglkfioaaDoor

set_option linter.unusedVariables false
set_option linter.unusedSimpArgs false
set_option linter.unusedSectionVars false
namespace Go.Proofs.YthikbenglkfioaaDoor
open Go Go.VM
set_option maxRecDepth 100000
set_option maxHeartbeats 4000000
variable {G : GT}
/-- A set of names, as a map's entries. -/
def seenE (l : List (List UInt8)) : List (D × D) := l.map fun s => (.str s, .bool true)
theorem seenE_find (s : List UInt8) : ∀ l, findKeyD (.str s) (seenE l) = some (if s ∈ l then some (.bool true) else none)
  | [] => rfl
  | k :: r => by
    have ih := seenE_find s r
    simp only [seenE, List.map_cons] at ih ⊢
    unfold findKeyD
    by_cases h : s = k
    · simp [eqCell, h]
    · simp [eqCell, h, ih]
theorem seenE_set (s : List UInt8) : ∀ l, ¬ s ∈ l → setKeyD (.str s) (.bool true) (seenE l) = some (seenE (l ++ [s]))
  | [], _ => rfl
  | k :: r, h => by
    have ih := seenE_set s r (fun h' => h (.tail _ h'))
    have hk : ¬ s = k := fun h' => h (h' ▸ .head _)
    simp only [seenE, List.map_cons, List.cons_append] at ih ⊢
    unfold setKeyD
    simp [eqCell, hk, ih]
attribute [simp] seenE_find
/-- The cells of a variable. -/
def varC (x : List UInt8 × List UInt8) : List D := [.str x.1, .str x.2]
def varsC (l : List (List UInt8 × List UInt8)) : List (List D) := l.map varC
theorem varsC_len (l : List (List UInt8 × List UInt8)) : (varsC l).length = l.length := by simp [varsC]
theorem varsC_getE {l : List (List UInt8 × List UInt8)} {i : Nat} (h : i < (varsC l).length) : (varsC l)[i] = [.str (l[i]'(by rw [← varsC_len l]; exact h)).1, .str (l[i]'(by rw [← varsC_len l]; exact h)).2] := by simp [varsC, varC]
attribute [simp] varsC_len varsC_getE
/-- A name of a variable. -/
def vnB (n : List UInt8) : Bool := decide (n = [118]) || coreB n
def varsGo (seen : List (List UInt8)) : List (List UInt8 × List UInt8) → Int
  | [] => 0
  | x :: r => if vnB x.1 = false then 3 else if x.1 ∈ seen then 4 else if sortB x.2 = false then 11 else varsGo (seen ++ [x.1]) r
def varsE (l : List (List UInt8 × List UInt8)) : Int := if 24 < l.length then 7 else varsGo [] l
theorem varsGo_step {seen : List (List UInt8)} {l : List (List UInt8 × List UInt8)} {i : Nat} (h : i < l.length) :
    varsGo seen (l.drop i) = if vnB l[i].1 = false then 3 else if l[i].1 ∈ seen then 4 else if sortB l[i].2 = false then 11 else varsGo (seen ++ [l[i].1]) (l.drop (i + 1)) := by
  rw [List.drop_eq_getElem_cons h]
  rfl
theorem ent_s_vars : VM.Enters Tryd.prog 113 := VM.Enters.mk Tryd.func113 rfl
theorem s_vars_cs (hG : G 0 = some kwCells) (l : List (List UInt8 × List UInt8)) : CS Tryd.prog G 113 [.sl (varsC l)] (.d (.int .i64 (varsE l))) none := by
  refine CS.of_VK Tryd.func113 rfl Tryd.ntmps113 rfl ?_
  by_cases hl : 24 < l.length
  · simp [hl, varsE]
  simp [hl]
  have hE : varsE l = varsGo [] l := by simp [varsE, hl]
  refine SW.loopF (ι := { x : Nat × List (List UInt8) // x.1 ≤ l.length ∧ varsE l = varsGo x.2 (l.drop x.1) }) (fun x => [(13, .d (.int .i64 x.1.1))]) (fun x => [(10, .map (seenE x.1.2))]) (fun _ => []) (fun x => l.length - x.1.1) ⟨(0, []), by simp, by simpa using hE⟩ (by simp [seenE]) ?_
  rintro ⟨⟨i, seen⟩, hi, he⟩
  simp only at hi he
  by_cases hlt : i < l.length
  · have hw := wrap64s (show i < 9223372036854775807 by omega)
    rw [varsGo_step hlt] at he
    obtain ⟨n, so, hx⟩ : ∃ n so, l[i] = (n, so) := ⟨_, _, rfl⟩
    rw [hx] at he
    simp only at he
    by_cases hv : n = [118]
    rotate_left
    simp [hlt, hx, hv]
    refine callK.mk ent_n_Core (n_Core_cs hG _) ?_
    cases hc : coreB n
    · simp [errName, he, vnB, hv, hc]
    simp [errName]
    have hvn : vnB n = true := by simp [vnB, hc]
    rotate_left
    have hvn : vnB n = true := by simp [vnB, hv]
    subst hv
    simp [hlt, hx]
    all_goals
      simp only [hvn, Bool.true_eq_false, if_false] at he
    by_cases hm : [118] ∈ seen
    · simp [hm]
      simp [he, hm]
    · simp [hm, seenE_set]
      refine callK.mk ent_s_Check (s_Check_cs hG _) ?_
      cases g1 : sortB so
      · simp [sortE, g1, he, hm]
      · simp [sortE, g1]
        exact Again.mk ⟨(i + 1, seen ++ [[118]]), hlt, by simpa [hm, g1] using he⟩ (by simp [hw]) (by simp; omega)
    by_cases hm : n ∈ seen
    · simp [hm]
      simp [he, hm]
    · simp [hm, seenE_set]
      refine callK.mk ent_s_Check (s_Check_cs hG _) ?_
      cases g1 : sortB so
      · simp [sortE, g1, he, hm]
      · simp [sortE, g1]
        exact Again.mk ⟨(i + 1, seen ++ [n]), hlt, by simpa [hm, g1] using he⟩ (by simp [hw]) (by simp; omega)
  · simp [hlt]
    rw [he, List.drop_of_length_le (by omega)]
    rfl
end Go.Proofs.YthikbenglkfioaaDoor

set_option linter.unusedVariables false
set_option linter.unusedSimpArgs false
set_option linter.unusedSectionVars false
namespace Go.Proofs.YthikbenglkfioaaDoor
open Go Go.VM
set_option maxRecDepth 100000
set_option maxHeartbeats 4000000
variable {G : GT}
def symsC (l : List SymL) : List (List D) := l.map symC
theorem symsC_len (l : List SymL) : (symsC l).length = l.length := by simp [symsC]
theorem symsC_getE {l : List SymL} {i : Nat} (h : i < (symsC l).length) : (symsC l)[i] = [.str (l[i]'(by rw [← symsC_len l]; exact h)).name, .sl (strs (l[i]'(by rw [← symsC_len l]; exact h)).args), .str (l[i]'(by rw [← symsC_len l]; exact h)).res] := by simp [symsC, symC]
attribute [simp] symsC_len symsC_getE
def symsGo (seen : List (List UInt8)) : List SymL → Int
  | [] => 0
  | y :: r => if symE y = 0 then (if y.name ∈ seen then 4 else symsGo (seen ++ [y.name]) r) else symE y
def symsE (l : List SymL) : Int := if 64 < l.length then 7 else symsGo [] l
theorem symsGo_step {seen : List (List UInt8)} {l : List SymL} {i : Nat} (h : i < l.length) :
    symsGo seen (l.drop i) = if symE l[i] = 0 then (if l[i].name ∈ seen then 4 else symsGo (seen ++ [l[i].name]) (l.drop (i + 1))) else symE l[i] := by
  rw [List.drop_eq_getElem_cons h]
  rfl
theorem ent_s_syms : VM.Enters Tryd.prog 114 := VM.Enters.mk Tryd.func114 rfl
theorem s_syms_cs (hG : G 0 = some kwCells) (l : List SymL) : CS Tryd.prog G 114 [.sl (symsC l)] (.d (.int .i64 (symsE l))) none := by
  refine CS.of_VK Tryd.func114 rfl Tryd.ntmps114 rfl ?_
  by_cases hl : 64 < l.length
  · simp [hl, symsE]
  simp [hl]
  have hE : symsE l = symsGo [] l := by simp [symsE, hl]
  refine SW.loopF (ι := { x : Nat × List (List UInt8) // x.1 ≤ l.length ∧ symsE l = symsGo x.2 (l.drop x.1) }) (fun x => [(13, .d (.int .i64 x.1.1))]) (fun x => [(10, .map (seenE x.1.2))]) (fun _ => []) (fun x => l.length - x.1.1) ⟨(0, []), by simp, by simpa using hE⟩ (by simp [seenE]) ?_
  rintro ⟨⟨i, seen⟩, hi, he⟩
  simp only at hi he
  by_cases hlt : i < l.length
  · have hw := wrap64s (show i < 9223372036854775807 by omega)
    rw [symsGo_step hlt] at he
    simp [hlt]
    refine callK.mk ent_s_Sym (s_Sym_cs hG l[i]) ?_
    by_cases h0 : symE l[i] = 0
    · simp [h0]
      by_cases hm : l[i].name ∈ seen
      · simp [hm]
        simp [he, h0, hm]
      · simp [hm, seenE_set]
        exact Again.mk ⟨(i + 1, seen ++ [l[i].name]), hlt, by simpa [hm, h0] using he⟩ (by simp [hw]) (by simp; omega)
    · simp [h0]
      simp [he, h0]
  · simp [hlt]
    rw [he, List.drop_of_length_le (by omega)]
    rfl
end Go.Proofs.YthikbenglkfioaaDoor
