/- The statement ClassesOrder. No condition. -/
import Derived.Test.YtbacejmdgfalpaaDoorKv
set_option linter.unusedVariables false
set_option linter.unusedSimpArgs false
set_option linter.unusedSectionVars false
namespace Go.Proofs.YtbacejmdgfalpaaDoor
open Go Go.VM
set_option maxRecDepth 100000
set_option maxHeartbeats 8000000
theorem sameTs_refl : ∀ l : List Ty, sameTs l l = true
  | [] => rfl
  | t :: r => by rw [sameTs, same_refl, sameTs_refl r]; rfl
theorem tys_at {l : List Ty} {i : Nat} (h : i < l.length) : (l.map tyC)[i]? = some (tyD l[i]) := by
  rw [List.getElem?_map, List.getElem?_eq_getElem h]
  simp [tyC_eq, tyD]
theorem ent_r19_SameAll : VM.Enters Tryd.prog 19 := VM.Enters.mk Tryd.func19 rfl
theorem r19_SameAll_cs (l : List Ty) (hl : l.length ≤ 900000000) (hn : ∀ u ∈ l, nodT u ≤ 900000000) : CS Tryd.prog G0 19 [.sl (l.map tyC), .sl (l.map tyC)] (.d (.bool true)) none := by
  refine CS.of_VK Tryd.func19 rfl Tryd.ntmps19 rfl ?_
  simp
  refine SW.loopF (ι := { i : Nat // i ≤ l.length }) (fun i => [(13, .d (.int .i64 i.1))]) (fun _ => []) (fun _ => []) (fun i => l.length - i.1) ⟨0, by simp⟩ (by simp) ?_
  rintro ⟨i, hi⟩
  by_cases hlt : i < l.length
  · have hw := wrap64s (show i < 9223372036854775807 by omega)
    have hg := tys_at hlt
    have hsm := r19_Same_cs (G := G0) l[i] l[i] (hn _ (List.getElem_mem hlt))
    rw [same_refl] at hsm
    simp [hlt, hg]
    refine ⟨lexOk.mk (by kernel_rfl), ?_⟩
    refine callK.mk ent_r19_Same hsm ?_
    simp
    exact Again.mk ⟨i + 1, hlt⟩ (by simp [hw]) (by simp; omega)
  · have : i = l.length := by omega
    subst this
    simp
theorem goF_mem {rc : Nm → Ty → Bool} {nm : Nm} {t : Ty} : ∀ {l : List In} {i : Nat} {p : Nat × List Ty}, goF rc nm t l i = some p → ∃ x ∈ l, x.ty.op ≠ 5 ∧ matT x.ty t = some p.2
  | [], _, _, h => by cases h
  | x :: r, i, p, h => by
    rw [goF] at h
    split at h
    · rename_i hu
      split at h
      · rename_i L hm
        split at h
        · cases h
          refine ⟨x, .head _, ?_, hm⟩
          unfold usable at hu
          exact (of_decide_eq_true hu).2.2
        · cases h
      · obtain ⟨y, h1, h2⟩ := goF_mem h
        exact ⟨y, .tail _ h1, h2⟩
    · obtain ⟨y, h1, h2⟩ := goF_mem h
      exact ⟨y, .tail _ h1, h2⟩
theorem findF_mem {l : List In} {n : Nat} {nm : Nm} {t : Ty} {p : Nat × List Ty} (h : findF l n nm t = some p) : ∃ x ∈ l, x.ty.op ≠ 5 ∧ matT x.ty t = some p.2 := by
  cases n with
  | zero => cases h
  | succ n => exact goF_mem h
theorem rev_at {α : Type} {l : List α} {i : Nat} (h : i < l.length) : l[l.length - 1 - i]? = some (l.reverse[i]'(by simpa using h)) := by
  rw [List.getElem_reverse, List.getElem?_eq_getElem (by omega)]
theorem rev_int {n i : Nat} (h : i < n) (hn : n ≤ 900000000) : IntKind.i64.wrap (IntKind.i64.wrap ((n : Int) - 1) - i) = ((n - 1 - i : Nat) : Int) := by
  have h1 : IntKind.i64.wrap ((n : Int) - 1) = (n : Int) - 1 := wrap64 (by omega)
  rw [h1, wrap64 (by omega)]
  omega
theorem take_rev {α β : Type} (f : α → β) {l : List α} {i : Nat} (h : i < l.length) : (l.reverse.take i).map f ++ [f (l.reverse[i]'(by simpa using h))] = (l.reverse.take (i + 1)).map f := by
  rw [List.take_succ_eq_append_getElem (by simpa using h)]
  simp
end Go.Proofs.YtbacejmdgfalpaaDoor
