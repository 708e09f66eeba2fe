/- Template: the closures that compare names; slices.IndexFunc and ContainsFunc with them. No condition. -/
import Derived.Test.YtmjpdmkgmlhfaaaDoorMl
set_option linter.unusedVariables false
set_option linter.unusedSimpArgs false
set_option linter.unusedSectionVars false
namespace Go.Proofs.YtmjpdmkgmlhfaaaDoor
open Go Go.VM
set_option maxRecDepth 100000
set_option maxHeartbeats 8000000
variable {G : GT}
def xH (x : Vr) : List (Nat × AObj) := [(100000, .cells [.d (.str x.1), .d (.str x.2)])]
/-- A closure that says whether a variable has the name of the one that it captured. -/
def EqC (G : GT) (f : FuncId) : Prop := VM.Enters Tryd.prog f ∧ ∀ x y : Vr, CH Tryd.prog G f ⟨[.d (.agg (vrC y)), .ptr 100000 0], xH x, []⟩ ⟨[.d (.bool (decide (y.1 = x.1)))], xH x, []⟩
theorem scope1_eq : EqC G 53 := by
  refine ⟨VM.Enters.mk Tryd.func53 rfl, fun x y => ?_⟩
  refine CH.of_VK Tryd.func53 rfl Tryd.ntmps53 rfl (by simp) ?_
  simp [xH, vrC]
theorem added1_eq : EqC G 83 := by
  refine ⟨VM.Enters.mk Tryd.func83 rfl, fun x y => ?_⟩
  refine CH.of_VK Tryd.func83 rfl Tryd.ntmps83 rfl (by simp) ?_
  simp [xH, vrC]
/-- Where the name is first found. -/
def idxV (nm : Nm) : List Vr → Nat → Int
  | [], _ => -1
  | y :: r, i => if y.1 = nm then (i : Int) else idxV nm r (i + 1)
theorem idxV_drop {nm : Nm} {l : List Vr} {i : Nat} (h : i < l.length) : idxV nm (l.drop i) i = if l[i].1 = nm then (i : Int) else idxV nm (l.drop (i + 1)) (i + 1) := by
  rw [List.drop_eq_getElem_cons h]
  rfl
theorem idxV_later (nm : Nm) : ∀ (l : List Vr) (i : Nat), decide (0 ≤ idxV nm l i) = laterB nm l
  | [], i => by simp [idxV, laterB]
  | y :: r, i => by
    have := idxV_later nm r (i + 1)
    unfold idxV laterB
    by_cases h : y.1 = nm
    · simp [h]
    · simp only [if_neg h, List.any_cons, decide_eq_false h, Bool.false_or]
      exact this
theorem ent_idxF : VM.Enters Tryd.prog 87 := VM.Enters.mk Tryd.func87 rfl
theorem idxF_ch {f : FuncId} (hf : EqC G f) (x : Vr) (l : List Vr) (hl : l.length ≤ 1000000) : CH Tryd.prog G 87 ⟨[.d (.sl (l.map vrC)), .clo f [.ptr 100000 0]], xH x, []⟩ ⟨[.d (.int .i64 (idxV x.1 l 0))], xH x, []⟩ := by
  refine CH.of_VK Tryd.func87 rfl Tryd.ntmps87 rfl (by simp) ?_
  simp
  refine SW.loopF (ι := { i : Nat // i ≤ l.length ∧ idxV x.1 l 0 = idxV x.1 (l.drop i) i }) (fun i => [(8, .d (.int .i64 i.1))]) (fun _ => xH x) (fun _ => []) (fun i => l.length - i.1) ⟨0, by simp⟩ (by simp [xH]) ?_
  rintro ⟨i, hi, hd⟩
  by_cases hlt : i < l.length
  · have hg := vrs_get hlt
    have hw := wrap64s (show i < 9223372036854775807 by omega)
    rw [idxV_drop hlt] at hd
    simp [hlt, hg, xH]
    refine callHK.mk hf.1 (hf.2 x l[i]) [(100000, 100000)] (by simp [xH]) (by simp) (by simp [xH]) (by simp; rfl) (by simp) ?_
    simp [xH]
    by_cases e : l[i].1 = x.1
    · rw [if_pos e] at hd
      simp [e, hd]
    · rw [if_neg e] at hd
      simp [e]
      exact Again.mk ⟨i + 1, hlt, hd⟩ (by simp [hw, xH]) (by simp; omega)
  · have hie : i = l.length := by omega
    subst hie
    simp [hd, idxV, xH]
theorem ent_conF : VM.Enters Tryd.prog 52 := VM.Enters.mk Tryd.func52 rfl
theorem conF_ch {f : FuncId} (hf : EqC G f) (x : Vr) (l : List Vr) (hl : l.length ≤ 1000000) : CH Tryd.prog G 52 ⟨[.d (.sl (l.map vrC)), .clo f [.ptr 100000 0]], xH x, []⟩ ⟨[.d (.bool (laterB x.1 l))], xH x, []⟩ := by
  have hq := idxV_later x.1 l 0
  refine CH.of_VK Tryd.func52 rfl Tryd.ntmps52 rfl (by simp) ?_
  simp [xH]
  refine callHK.mk ent_idxF (idxF_ch hf x l hl) [(100000, 100000)] (by simp [xH]) (by simp) (by simp [xH]) (by simp; rfl) (by simp) ?_
  simp [xH, hq]
end Go.Proofs.YtmjpdmkgmlhfaaaDoor
