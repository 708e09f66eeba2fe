/- Types in place of type variables: the walks of Subst. No condition. -/
import Derived.Test.YtcmpodbjhoeblaaDoorTx
set_option linter.unusedVariables false
set_option linter.unusedSimpArgs false
set_option linter.unusedSectionVars false
namespace Go.Proofs.YtcmpodbjhoeblaaDoor
open Go Go.VM
set_option maxRecDepth 100000
set_option maxHeartbeats 8000000
variable {G : GT}
theorem map_stepC {α : Type} (f : α → List D) {l : List α} {i : Nat} (h : i < l.length) : List.take (i + 1) (List.map f l) = List.take i (List.map f l) ++ [f l[i]] := by
  have := map_step f h
  rw [List.map_take, List.map_take] at this
  exact this
theorem len_mem {α : Type} {f : α → List D} {k : Nat} (hf : ∀ a, (f a).length = k) {l : List α} {i : Nat} : ∀ (x : List D), x ∈ List.take i (List.map f l) → x.length = k := fun x hx => by
  obtain ⟨t, _, rfl⟩ := List.mem_map.1 (List.mem_of_mem_take hx)
  exact hf t
mutual
/-- No list in a type is too long. -/
def LnT (m : Nat) : Ty → Prop
  | ⟨_, _, l, ns, p, ps⟩ => l.length ≤ m ∧ ns.length ≤ m ∧ nodP p ≤ m ∧ nodPs ps ≤ m ∧ LnTs m l
def LnTs (m : Nat) : List Ty → Prop
  | [] => True
  | t :: r => LnT m t ∧ LnTs m r
end
theorem LnTs_get {m : Nat} : ∀ {l : List Ty} {i : Nat} (_ : LnTs m l) (hi : i < l.length), LnT m l[i]
  | t :: r, 0, h, _ => h.1
  | t :: r, i + 1, h, hi => LnTs_get (i := i) h.2 (by simpa using hi)
mutual
theorem LnT_all {m : Nat} : ∀ t : Ty, allT t ≤ m → LnT m t
  | ⟨op, nm, l, ns, p, ps⟩, h => by
    simp only [allT] at h
    have := len_le_allTs l
    exact ⟨by omega, by omega, by omega, by omega, LnTs_all l (by omega)⟩
theorem LnTs_all {m : Nat} : ∀ l : List Ty, allTs l ≤ m → LnTs m l
  | [], _ => trivial
  | t :: r, h => by
    simp only [allTs] at h
    exact ⟨LnT_all t (by omega), LnTs_all r (by omega)⟩
end
theorem LnT_pred {m : Nat} : ∀ {t : Ty}, LnT m t → nodP t.pred ≤ m
  | ⟨_, _, _, _, _, _⟩, h => h.2.2.1
end Go.Proofs.YtcmpodbjhoeblaaDoor
