/- Environments: what is found; the sort of a type. No condition. -/
import Derived.Test.YthhfdlhbhfkbdaaDoorSj
set_option linter.unusedVariables false
set_option linter.unusedSimpArgs false
set_option linter.unusedSectionVars false
namespace Go.Proofs.YthhfdlhbhfkbdaaDoor
open Go Go.VM
set_option maxRecDepth 100000
set_option maxHeartbeats 4000000
variable {G : GT}
theorem ent_cloneS : Enters Tryd.prog 42 := Enters.mk Tryd.func42 rfl
theorem cloneS_cs (l : List (List UInt8)) (hl : l.length ≤ 1000000) : CS Tryd.prog G 42 [.sl (strs l)] (.d (.sl (strs l))) none := by
  refine CS.of_VK Tryd.func42 rfl Tryd.ntmps42 rfl ?_
  have hsz : l.length * 17 ≤ 140737488355328 := by omega
  by_cases h0 : l = []
  · subst h0
    simp [strs]
  · have h1 : ¬ l.length = 0 := fun h => h0 (List.eq_nil_of_length_eq_zero h)
    simp [h0, h1, hsz]
theorem varsC_two (l : List (List UInt8 × List UInt8)) : (∀ x, x ∈ varsC l → x.length = 2) = True := by
  simp only [eq_iff_iff, iff_true]
  intro x hx
  simp only [varsC, List.mem_map] at hx
  obtain ⟨y, _, rfl⟩ := hx
  rfl
attribute [simp] varsC_two
theorem ent_cloneV : Enters Tryd.prog 43 := Enters.mk Tryd.func43 rfl
theorem cloneV_cs (l : List (List UInt8 × List UInt8)) (hl : l.length ≤ 1000000) : CS Tryd.prog G 43 [.sl (varsC l)] (.d (.sl (varsC l))) none := by
  refine CS.of_VK Tryd.func43 rfl Tryd.ntmps43 rfl ?_
  have hsz : l.length * 33 ≤ 140737488355328 := by omega
  by_cases h0 : l = []
  · subst h0
    simp [varsC]
  · have h1 : ¬ l.length = 0 := fun h => h0 (List.eq_nil_of_length_eq_zero h)
    simp [h0, h1, hsz]
theorem ent_r6_Var : Enters Tryd.prog 20 := Enters.mk Tryd.func20 rfl
theorem r6_Var_cs (v : EnvL) (n : List UInt8) (hl : v.vars.length ≤ 1000000) : CS Tryd.prog G 20 [.agg (envC v), .str n] (.tup [.str (varR n v.vars).1, .bool (varR n v.vars).2]) none := by
  obtain ⟨vs, ss, hs⟩ := v
  simp only at hl ⊢
  refine CS.of_VK Tryd.func20 rfl Tryd.ntmps20 rfl ?_
  have hw0 : IntKind.i64.wrap ((vs.length : Int) - 1) = (vs.length : Int) - 1 := wrap64 (by omega)
  simp [envC, hw0]
  refine SW.loopF (ι := { i : Nat // i ≤ vs.length ∧ varR n vs = varR n (vs.take i) }) (fun i => [(6, .d (.int .i64 ((i.1 : Int) - 1)))]) (fun _ => [(2, .cells [.sl (varsC vs), .sl (symsC ss), .sl (holesC hs)])]) (fun _ => []) (fun i => i.1) ⟨vs.length, Nat.le_refl _, by rw [List.take_length]⟩ (by simp) ?_
  rintro ⟨i, hi, he⟩
  cases i with
  | zero =>
    simp
    rw [he]
    simp [varR]
  | succ i =>
    have hlt : i < vs.length := hi
    have hw : IntKind.i64.wrap ((i : Int) - 1) = (i : Int) - 1 := wrap64 (by omega)
    rw [varR_step hlt] at he
    have hs1 : ((i + 1 : Nat) : Int) - 1 = (i : Int) := by omega
    by_cases hk : vs[i].1 = n
    · simp [hs1, hlt, hk]
      simp [he, hk]
    · simp [hs1, hlt, hk]
      exact Again.mk ⟨i, by omega, by simpa [hk] using he⟩ (by simp [hw]) (by simp)
/-- A symbol of a name. -/
def symGo (n : List UInt8) (l : List SymL) : SymL × Bool := match l.find? fun y => decide (y.name = n) with
  | some y => (y, true)
  | none => (⟨[], [], []⟩, false)
theorem symGo_step {n : List UInt8} {l : List SymL} {i : Nat} (h : i < l.length) : symGo n (l.drop i) = if l[i].name = n then (l[i], true) else symGo n (l.drop (i + 1)) := by
  unfold symGo
  rw [List.drop_eq_getElem_cons h, List.find?_cons]
  by_cases hn : l[i].name = n <;> simp [hn]
def symR (n : List UInt8) (l : List SymL) : SymL × Bool :=
  if n = [116, 97, 103] then (⟨[116, 97, 103], [], [73, 110, 116]⟩, true) else if n = [118, 97, 108] then (⟨[118, 97, 108], [[67, 101, 108, 108]], [73, 110, 116]⟩, true) else symGo n l
theorem ent_s_Find : Enters Tryd.prog 21 := Enters.mk Tryd.func21 rfl
theorem s_Find_cs (v : EnvL) (n : List UInt8) (hl : v.syms.length ≤ 1000000) (ha : ∀ y ∈ v.syms, y.args.length ≤ 1000000) : CS Tryd.prog G 21 [.agg (envC v), .str n] (.tup [.agg (symC (symR n v.syms).1), .bool (symR n v.syms).2]) none := by
  obtain ⟨vs, ss, hs⟩ := v
  simp only at hl ha ⊢
  refine CS.of_VK Tryd.func21 rfl Tryd.ntmps21 rfl ?_
  by_cases e1 : n = [116, 97, 103]
  · simp [e1, symR, symC, strs]
  by_cases e2 : n = [118, 97, 108]
  · simp [e2, symR, symC, strs]
  have hR : symR n ss = symGo n ss := by simp [symR, e1, e2]
  simp [envC, e1, e2]
  refine SW.loopF (ι := { i : Nat // i ≤ ss.length ∧ symR n ss = symGo n (ss.drop i) }) (fun i => [(19, .d (.int .i64 i.1))]) (fun _ => [(2, .cells [.sl (varsC vs), .sl (symsC ss), .sl (holesC hs)]), (4, .cells [.str [], .nils, .str []])]) (fun _ => []) (fun i => ss.length - i.1) ⟨0, by simp, by simpa using hR⟩ (by simp) ?_
  rintro ⟨i, hi, he⟩
  by_cases hlt : i < ss.length
  · have hw := wrap64s (show i < 9223372036854775807 by omega)
    rw [symGo_step hlt] at he
    by_cases hk : ss[i].name = n
    · simp [hlt, hk]
      refine callK.mk ent_cloneS (cloneS_cs _ (ha _ (List.getElem_mem hlt))) ?_
      simp [he, hk, symC]
    · simp [hlt, hk]
      exact Again.mk ⟨i + 1, hlt, by simpa [hk] using he⟩ (by simp [hw]) (by simp; omega)
  · simp [hlt]
    rw [he, List.drop_of_length_le (by omega)]
    simp [symGo, symC, strs]
theorem ent_r6_Find : Enters Tryd.prog 22 := Enters.mk Tryd.func22 rfl
theorem r6_Find_cs (v : EnvL) (n : List UInt8) (hl : v.syms.length ≤ 1000000) : CS Tryd.prog G 22 [.agg (envC v), .str n] (.tup [.agg (symC (symR n v.syms).1), .bool (symR n v.syms).2]) none := by
  obtain ⟨vs, ss, hs⟩ := v
  simp only at hl ⊢
  refine CS.of_VK Tryd.func22 rfl Tryd.ntmps22 rfl ?_
  by_cases e1 : n = [116, 97, 103]
  · simp [e1, symR, symC, strs]
  by_cases e2 : n = [118, 97, 108]
  · simp [e2, symR, symC, strs]
  have hR : symR n ss = symGo n ss := by simp [symR, e1, e2]
  simp [envC, e1, e2]
  refine SW.loopF (ι := { i : Nat // i ≤ ss.length ∧ symR n ss = symGo n (ss.drop i) }) (fun i => [(6, .d (.int .i64 i.1))]) (fun _ => [(2, .cells [.sl (varsC vs), .sl (symsC ss), .sl (holesC hs)]), (4, .cells [.str [], .nils, .str []])]) (fun _ => []) (fun i => ss.length - i.1) ⟨0, by simp, by simpa using hR⟩ (by simp) ?_
  rintro ⟨i, hi, he⟩
  by_cases hlt : i < ss.length
  · have hw := wrap64s (show i < 9223372036854775807 by omega)
    rw [symGo_step hlt] at he
    by_cases hk : ss[i].name = n
    · simp [hlt, hk]
      simp [he, hk, symC]
    · simp [hlt, hk]
      exact Again.mk ⟨i + 1, hlt, by simpa [hk] using he⟩ (by simp [hw]) (by simp; omega)
  · simp [hlt]
    rw [he, List.drop_of_length_le (by omega)]
    simp [symGo, symC, strs]
def holeR (n : List UInt8) (l : List HoleL) : HoleL × Bool := match l.find? fun y => decide (y.name = n) with
  | some y => (y, true)
  | none => (⟨[], []⟩, false)
theorem holeR_step {n : List UInt8} {l : List HoleL} {i : Nat} (h : i < l.length) : holeR n (l.drop i) = if l[i].name = n then (l[i], true) else holeR n (l.drop (i + 1)) := by
  unfold holeR
  rw [List.drop_eq_getElem_cons h, List.find?_cons]
  by_cases hn : l[i].name = n <;> simp [hn]
theorem ent_s_Hole : Enters Tryd.prog 23 := Enters.mk Tryd.func23 rfl
theorem s_Hole_cs (v : EnvL) (n : List UInt8) (hl : v.holes.length ≤ 1000000) (ha : ∀ y ∈ v.holes, y.params.length ≤ 1000000) : CS Tryd.prog G 23 [.agg (envC v), .str n] (.tup [.agg (holeC (holeR n v.holes).1), .bool (holeR n v.holes).2]) none := by
  obtain ⟨vs, ss, hs⟩ := v
  simp only at hl ha ⊢
  refine CS.of_VK Tryd.func23 rfl Tryd.ntmps23 rfl ?_
  simp [envC]
  refine SW.loopF (ι := { i : Nat // i ≤ hs.length ∧ holeR n hs = holeR n (hs.drop i) }) (fun i => [(11, .d (.int .i64 i.1))]) (fun _ => [(2, .cells [.sl (varsC vs), .sl (symsC ss), .sl (holesC hs)]), (4, .cells [.str [], .nils])]) (fun _ => []) (fun i => hs.length - i.1) ⟨0, by simp⟩ (by simp) ?_
  rintro ⟨i, hi, he⟩
  by_cases hlt : i < hs.length
  · have hw := wrap64s (show i < 9223372036854775807 by omega)
    rw [holeR_step hlt] at he
    by_cases hk : hs[i].name = n
    · simp [hlt, hk]
      refine callK.mk ent_cloneV (cloneV_cs _ (ha _ (List.getElem_mem hlt))) ?_
      simp [he, hk, holeC]
    · simp [hlt, hk]
      exact Again.mk ⟨i + 1, hlt, by simpa [hk] using he⟩ (by simp [hw]) (by simp; omega)
  · simp [hlt]
    rw [he, List.drop_of_length_le (by omega)]
    simp [holeR, holeC, varsC]
theorem ent_r6_Hole : Enters Tryd.prog 24 := Enters.mk Tryd.func24 rfl
theorem r6_Hole_cs (v : EnvL) (n : List UInt8) (hl : v.holes.length ≤ 1000000) : CS Tryd.prog G 24 [.agg (envC v), .str n] (.tup [.agg (holeC (holeR n v.holes).1), .bool (holeR n v.holes).2]) none := by
  obtain ⟨vs, ss, hs⟩ := v
  simp only at hl ⊢
  refine CS.of_VK Tryd.func24 rfl Tryd.ntmps24 rfl ?_
  simp [envC]
  refine SW.loopF (ι := { i : Nat // i ≤ hs.length ∧ holeR n hs = holeR n (hs.drop i) }) (fun i => [(6, .d (.int .i64 i.1))]) (fun _ => [(2, .cells [.sl (varsC vs), .sl (symsC ss), .sl (holesC hs)]), (4, .cells [.str [], .nils])]) (fun _ => []) (fun i => hs.length - i.1) ⟨0, by simp⟩ (by simp) ?_
  rintro ⟨i, hi, he⟩
  by_cases hlt : i < hs.length
  · have hw := wrap64s (show i < 9223372036854775807 by omega)
    rw [holeR_step hlt] at he
    by_cases hk : hs[i].name = n
    · simp [hlt, hk]
      simp [he, hk, holeC]
    · simp [hlt, hk]
      exact Again.mk ⟨i + 1, hlt, by simpa [hk] using he⟩ (by simp [hw]) (by simp; omega)
  · simp [hlt]
    rw [he, List.drop_of_length_le (by omega)]
    simp [holeR, holeC, varsC]
end Go.Proofs.YthhfdlhbhfkbdaaDoor
