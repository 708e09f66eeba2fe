/- Bounds: different names; the walks. No condition. -/
import Derived.Test.YthikbenglkfioaaDoorBa
import Derived.Test.YthikbenglkfioaaDoorSp
set_option linter.unusedVariables false
set_option linter.unusedSimpArgs false
set_option linter.unusedSectionVars false
namespace Go.Proofs.YthikbenglkfioaaDoor
open Go Go.VM
set_option maxRecDepth 100000
set_option maxHeartbeats 8000000
variable {G : GT}
/-! ### Different names -/
theorem nodup_step {l : List Nm} {i : Nat} (h : i < l.length) (hd : (l.take i).Nodup) (hm : l[i] ∉ l.take i) : (l.take (i + 1)).Nodup := by
  rw [List.take_succ_eq_append_getElem h, List.nodup_append]
  refine ⟨hd, by simp, fun a ha b hb => ?_⟩
  rw [List.mem_singleton] at hb
  subst hb
  exact fun e => hm (e ▸ ha)
theorem nodup_bad {l : List Nm} {i : Nat} (h : i < l.length) (hm : l[i] ∈ l.take i) : ¬ l.Nodup := fun hd => by
  have e : l = l.take i ++ l[i] :: l.drop (i + 1) := by rw [← List.drop_eq_getElem_cons h, List.take_append_drop]
  rw [e, List.nodup_append] at hd
  exact hd.2.2 _ hm _ (.head _) rfl
theorem findI_first (s : Nm) : ∀ (l : List Nm) (j i : Nat) (h : i < l.length), l[i] = s → (findI s l j = ((j + i : Nat) : Int) ↔ s ∉ l.take i)
  | a :: r, j, 0, h, he => by
    simp only [List.getElem_cons_zero] at he
    simp [findI, he]
  | a :: r, j, i + 1, h, he => by
    simp only [List.getElem_cons_succ] at he
    have ih := findI_first s r (j + 1) i (by simpa using h) he
    simp only [findI, List.take_succ_cons, List.mem_cons, not_or]
    by_cases ha : a = s
    · simp only [ha, if_true, not_true_eq_false, false_and, iff_false]
      omega
    · rw [if_neg ha]
      have e : ((j + 1 + i : Nat) : Int) = ((j + (i + 1) : Nat) : Int) := by omega
      rw [e] at ih
      rw [ih]
      exact ⟨fun h => ⟨fun e => ha e.symm, h⟩, fun h => h.2⟩
theorem ent_n_Distinct : VM.Enters Tryd.prog 73 := VM.Enters.mk Tryd.func73 rfl
theorem n_Distinct_cs (l : List Nm) (hl : l.length ≤ 900000000) : CS Tryd.prog G 73 [.sl (strs l)] (.d (.bool (decide l.Nodup))) none := by
  refine CS.of_VK Tryd.func73 rfl Tryd.ntmps73 rfl ?_
  simp
  refine SW.loopF (ι := { i : Nat // i ≤ l.length ∧ (l.take i).Nodup }) (fun i => [(9, .d (.int .i64 i.1))]) (fun i => [(6, .map (seenE (l.take i.1)))]) (fun _ => []) (fun i => l.length - i.1) ⟨0, by simp⟩ (by simp [seenE]) ?_
  rintro ⟨i, hi, hd⟩
  try simp only at hi hd
  by_cases hlt : i < l.length
  · have hg := strs_get hlt
    have hw := wrap64s (show i < 9223372036854775807 by omega)
    by_cases hm : l[i] ∈ l.take i
    · have := nodup_bad hlt hm
      simp [hlt, hg, hm, this]
    · have ht : l.take (i + 1) = l.take i ++ [l[i]] := List.take_succ_eq_append_getElem hlt
      simp [hlt, hg, hm, seenE_set]
      exact Again.mk ⟨i + 1, hlt, nodup_step hlt hd hm⟩ (by simp [hw]) (by simp; omega)
  · have : i = l.length := by omega
    subst this
    rw [List.take_length] at hd
    simp [hd]
theorem ent_r36_names : VM.Enters Tryd.prog 49 := VM.Enters.mk Tryd.func49 rfl
theorem r36_names_cs (l : List Vr) (h : l.length ≤ 900000000) : CS Tryd.prog G 49 [.sl (l.map vrC)] (.d (.sl (strs (l.map (·.1))))) none := by
  refine CS.of_VK Tryd.func49 rfl Tryd.ntmps49 rfl ?_
  simp
  refine SW.loopF (ι := { i : Nat // i ≤ l.length }) (fun i => [(3, .d (.sl (strs ((l.map (·.1)).take i.1)))), (4, .d (.int .i64 i.1))]) (fun _ => []) (fun _ => [(9, [.t 3])]) (fun i => l.length - i.1) ⟨0, by simp⟩ (by simp) ?_
  rintro ⟨i, hi⟩
  by_cases hlt : i < l.length
  · have hg := vrs_get hlt
    have hw := wrap64s (show i < 9223372036854775807 by omega)
    have hsz : (min i l.length + 1) * 17 ≤ 140737488355328 := by omega
    have ht : (l.map (·.1)).take (i + 1) = (l.map (·.1)).take i ++ [l[i].1] := by
      rw [List.take_succ_eq_append_getElem (by simpa using hlt)]
      simp
    simp [hlt, hg, hsz]
    exact Again.mk ⟨i + 1, hlt⟩ (by simp [hw, ht, strs]) (by simp; omega)
  · have : i = l.length := by omega
    subst this
    have ht : (l.map (·.1)).take l.length = l.map (·.1) := List.take_of_length_le (by simp)
    simp [ht]
end Go.Proofs.YthikbenglkfioaaDoor
