/- Predicates: the walks of filling, in the program and in the reference. No condition. -/
import Derived.Test.YthikbenglkfioaaGreatDoorPc
set_option linter.unusedVariables false
set_option linter.unusedSimpArgs false
set_option linter.unusedSectionVars false
namespace Go.Proofs.YthikbenglkfioaaGreatDoor
open Go Go.VM
set_option maxRecDepth 100000
set_option maxHeartbeats 8000000
variable {G : GT}
abbrev Vr := Nm × Nm
/-- An unknown predicate: its name, its parameters. -/
abbrev Ho := Nm × List Vr
/-- A solution. -/
abbrev So := Nm × Pr
def vrC (v : Vr) : List D := [.str v.1, .str v.2]
abbrev hoD (h : Ho) : List D := [.str h.1, .sl (h.2.map vrC)]
def hoC (h : Ho) : List D := hoD h
abbrev soD (s : So) : List D := [.str s.1, .int .i64 s.2.op, .str s.2.name, .int .i64 s.2.n, .sl (s.2.kids.map prC)]
def soC (s : So) : List D := soD s
theorem vrC_eq (v : Vr) : vrC v = [.str v.1, .str v.2] := rfl
theorem hoC_eq (h : Ho) : hoC h = [.str h.1, .sl (h.2.map vrC)] := rfl
theorem soC_eq (s : So) : soC s = [.str s.1, .int .i64 s.2.op, .str s.2.name, .int .i64 s.2.n, .sl (s.2.kids.map prC)] := rfl
attribute [simp] vrC_eq hoC_eq soC_eq
theorem vrs_get {l : List Vr} {i : Nat} (h : i < l.length) : (l.map vrC)[i]? = some [.str l[i].1, .str l[i].2] := by simp [h, vrC]
theorem hos_get {l : List Ho} {i : Nat} (h : i < l.length) : (l.map hoC)[i]? = some (hoD l[i]) := by simp [h, hoC]
theorem sos_get {l : List So} {i : Nat} (h : i < l.length) : (l.map soC)[i]? = some (soD l[i]) := by simp [h, soC]
def hoN (H : List Ho) : List (Nm × List Nm) := H.map fun h => (h.1, h.2.map (·.1))
theorem find_at {α : Type} {p : α → Bool} {l : List α} {i : Nat} (h : i < l.length) : (l.drop i).find? p = if p l[i] then some l[i] else (l.drop (i + 1)).find? p := by
  rw [List.drop_eq_getElem_cons h, List.find?_cons]
  cases p l[i] <;> rfl
theorem find_end {α : Type} {p : α → Bool} {l : List α} : (l.drop l.length).find? p = none := by simp
def hoF (H : List Ho) (nm : Nm) : Option Ho := H.find? fun h => decide (h.1 = nm)
def soF (S : List So) (nm : Nm) : Option So := S.find? fun s => decide (s.1 = nm)
theorem hoN_find (H : List Ho) (nm : Nm) : (hoN H).find? (fun h => decide (h.1 = nm)) = (hoF H nm).map fun h => (h.1, h.2.map (·.1)) := by
  unfold hoN hoF
  induction H with
  | nil => rfl
  | cons h r ih =>
    simp only [List.map_cons, List.find?_cons]
    cases decide (h.1 = nm)
    · exact ih
    · rfl
theorem solP_eq (H : List Ho) (S : List So) (nm : Nm) (kids : List Pr) : solP (hoN H) S nm kids = match soF S nm, hoF H nm with
    | some s, some h => if voidP s.2 then truP else substP (h.2.map (·.1)) kids s.2
    | _, _ => truP := by
  unfold solP
  rw [hoN_find]
  unfold soF
  cases List.find? (fun s => decide (s.1 = nm)) S <;> cases hoF H nm <;> rfl
theorem fst_step {l : List Vr} {i : Nat} (h : i < l.length) : strs (List.map (·.1) (l.take (i + 1))) = strs (List.map (·.1) (l.take i)) ++ [[.str l[i].1]] := by
  rw [List.take_succ_eq_append_getElem h, List.map_append, strs_app2]
  rfl
/-- The names of the parameters. -/
theorem subst_tru (ns : List Nm) (bys : List Pr) : substP ns bys truP = truP := by
  rw [substP_eq, pickP_none (by simp [truP])]
  rfl
/-! ### Filling -/
theorem fills_nod {H : List Ho} {S : List So} (hS : ∀ s ∈ S, nodP s.2 ≤ 10) (p : Pr) (hN : nodP p * 10 ^ depP p ≤ 900000000) :
    nodPs (p.kids.map (fillP (hoN H) S)) ≤ 900000000 ∧ ∀ k ∈ p.kids, nodP k * 10 ^ depP k ≤ 900000000 := by
  have hd := depP_eq p
  have hn := nodP_kids p
  have h1 := nods_fill (H := hoN H) hS p.kids (depPs p.kids 0) fun k hk => depPs_mem hk
  rw [fillPs_eq] at h1
  have hle : nodPs p.kids * 10 ^ depPs p.kids 0 ≤ nodP p * 10 ^ depP p := Nat.mul_le_mul (by omega) (Nat.pow_le_pow_right (by omega) (by omega))
  refine ⟨by omega, fun k hk => ?_⟩
  have h2 := nodPs_mem hk
  have h3 := depPs_mem (n := 0) hk
  have : nodP k * 10 ^ depP k ≤ nodP p * 10 ^ depP p := Nat.mul_le_mul (by omega) (Nat.pow_le_pow_right (by omega) (by omega))
  omega
theorem nod_of_pow {p : Pr} (hN : nodP p * 10 ^ depP p ≤ 900000000) : nodP p ≤ 900000000 := by
  have : nodP p * 1 ≤ nodP p * 10 ^ depP p := Nat.mul_le_mul_left _ (Nat.pow_pos (by omega))
  omega
theorem fillP_hole {H : List (Nm × List Nm)} {S : List (Nm × Pr)} {nm : Nm} {n : Int} {l : List Pr} : fillP H S ⟨5, nm, n, l⟩ = solP H S nm (l.map (fillP H S)) := by rw [fillP_eq]; simp
theorem fillP_other {H : List (Nm × List Nm)} {S : List (Nm × Pr)} {op : Int} {nm : Nm} {n : Int} {l : List Pr} (h : ¬ op = 5) : fillP H S ⟨op, nm, n, l⟩ = ⟨op, nm, n, l.map (fillP H S)⟩ := by rw [fillP_eq]; simp [h]
end Go.Proofs.YthikbenglkfioaaGreatDoor
