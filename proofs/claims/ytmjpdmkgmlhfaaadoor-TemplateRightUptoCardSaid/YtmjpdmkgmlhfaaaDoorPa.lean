/- Predicates: what the functions of the package 'pred' and its reference compute, plain. No condition. -/
import Derived.Test.YtmjpdmkgmlhfaaaDoorZ9
set_option linter.unusedVariables false
set_option linter.unusedSimpArgs false
set_option linter.unusedSectionVars false
namespace Go.Proofs.YtmjpdmkgmlhfaaaDoor
open Go Go.VM
set_option maxRecDepth 100000
set_option maxHeartbeats 4000000
def zerP : Pr := ⟨0, [], 0, []⟩
def truP : Pr := ⟨2, [], 1, []⟩
def falP : Pr := ⟨2, [], 0, []⟩
instance : DecidableEq Pr := fun a b => if h : samP a b = true then isTrue ((samP_iff a b).1 h) else isFalse fun e => h ((samP_iff a b).2 e)
/-- True, or the zero predicate. -/
def voidP (p : Pr) : Bool := decide (p = zerP) || decide (p = truP)
/-! ### Conjuncts -/
def splitP : Pr → List Pr
  | ⟨op, nm, n, [a, b]⟩ => if op = 15 then splitP a ++ splitP b else [⟨op, nm, n, [a, b]⟩]
  | ⟨op, nm, n, l⟩ => if voidP ⟨op, nm, n, l⟩ then [] else [⟨op, nm, n, l⟩]
theorem splitP_and (nm : Nm) (n : Int) (a b : Pr) : splitP ⟨15, nm, n, [a, b]⟩ = splitP a ++ splitP b := by rw [splitP, if_pos rfl]
theorem void_kids {p : Pr} (h : voidP p = true) : p.kids = [] := by
  simp only [voidP, Bool.or_eq_true, decide_eq_true_eq] at h
  rcases h with rfl | rfl <;> rfl
theorem splitP_other {p : Pr} (h : ¬ (p.op = 15 ∧ p.kids.length = 2)) : splitP p = if voidP p then [] else [p] := by
  obtain ⟨op, nm, n, l⟩ := p
  match l, h with
  | [], _ => rw [splitP]; simp
  | [a], _ => rw [splitP]; simp
  | [a, b], h =>
    have h5 : ¬ op = 15 := fun e => h ⟨e, rfl⟩
    rw [splitP, if_neg h5]
    cases hv : voidP ⟨op, nm, n, [a, b]⟩ with
    | false => simp
    | true => have := void_kids hv; simp at this
  | a :: b :: c :: r, _ => rw [splitP]; simp
mutual
theorem split_len : ∀ p : Pr, (splitP p).length ≤ nodP p
  | ⟨op, nm, n, l⟩ => by
    by_cases h : op = 15 ∧ l.length = 2
    · match l, h with
      | [a, b], ⟨h15, _⟩ =>
        subst h15
        rw [splitP_and]
        have h1 := split_len a
        have h2 := split_len b
        simp only [List.length_append, nodP, nodPs]
        omega
    · rw [splitP_other h]
      have := nodP_pos ⟨op, nm, n, l⟩
      split <;> simp <;> omega
end
/-! ### Predicates in place of variables -/
def pickP (ns : List Nm) (bys : List Pr) (op : Int) (nm : Nm) : Option Pr := if op = 3 ∧ 0 ≤ findI nm ns 0 then bys[(findI nm ns 0).toNat]? else none
mutual
def substP (ns : List Nm) (bys : List Pr) : Pr → Pr
  | ⟨op, nm, n, l⟩ => match pickP ns bys op nm with
    | some u => u
    | none => ⟨op, nm, n, substPs ns bys l⟩
def substPs (ns : List Nm) (bys : List Pr) : List Pr → List Pr
  | [] => []
  | t :: r => substP ns bys t :: substPs ns bys r
end
theorem substPs_eq (ns : List Nm) (bys : List Pr) : ∀ l, substPs ns bys l = l.map (substP ns bys)
  | [] => by simp [substPs]
  | t :: r => by simp [substPs, substPs_eq ns bys r]
theorem substP_eq (ns : List Nm) (bys : List Pr) (p : Pr) : substP ns bys p = match pickP ns bys p.op p.name with
    | some u => u
    | none => ⟨p.op, p.name, p.n, p.kids.map (substP ns bys)⟩ := by
  cases p
  rw [substP, substPs_eq]
theorem pickP_nil (op : Int) (nm : Nm) : pickP [] [] op nm = none := by
  unfold pickP
  split <;> rfl
mutual
theorem substP_nil : ∀ p : Pr, substP [] [] p = p
  | ⟨op, nm, n, l⟩ => by
    have := substPs_nil l
    rw [substP, pickP_nil]
    simp only [this]
theorem substPs_nil : ∀ l : List Pr, substPs [] [] l = l
  | [] => by simp [substPs]
  | t :: r => by
    have h1 := substP_nil t
    have h2 := substPs_nil r
    simp only [substPs, h1, h2]
end
/-! ### Solutions in place of unknown predicates -/
/-- What an applied unknown predicate becomes. -/
def solP (H : List (Nm × List Nm)) (S : List (Nm × Pr)) (nm : Nm) (kids : List Pr) : Pr :=
  match S.find? fun s => decide (s.1 = nm), H.find? fun h => decide (h.1 = nm) with
  | some s, some h => if voidP s.2 then truP else substP h.2 kids s.2
  | _, _ => truP
mutual
def fillP (H : List (Nm × List Nm)) (S : List (Nm × Pr)) : Pr → Pr
  | ⟨op, nm, n, l⟩ => if op = 5 then solP H S nm (fillPs H S l) else ⟨op, nm, n, fillPs H S l⟩
def fillPs (H : List (Nm × List Nm)) (S : List (Nm × Pr)) : List Pr → List Pr
  | [] => []
  | t :: r => fillP H S t :: fillPs H S r
end
theorem fillPs_eq (H : List (Nm × List Nm)) (S : List (Nm × Pr)) : ∀ l, fillPs H S l = l.map (fillP H S)
  | [] => by simp [fillPs]
  | t :: r => by simp [fillPs, fillPs_eq H S r]
theorem fillP_eq (H : List (Nm × List Nm)) (S : List (Nm × Pr)) (p : Pr) : fillP H S p = if p.op = 5 then solP H S p.name (p.kids.map (fillP H S)) else ⟨p.op, p.name, p.n, p.kids.map (fillP H S)⟩ := by
  cases p
  rw [fillP, fillPs_eq]
theorem fillP_void {H : List (Nm × List Nm)} {S : List (Nm × Pr)} {p : Pr} (h : voidP p = true) : fillP H S p = p := by
  simp only [voidP, Bool.or_eq_true, decide_eq_true_eq] at h
  rcases h with rfl | rfl <;> rfl
/-- Filling and taking apart is taking apart, filling and taking apart. -/
theorem split_fill (H : List (Nm × List Nm)) (S : List (Nm × Pr)) : ∀ p : Pr, splitP (fillP H S p) = (splitP p).flatMap fun q => splitP (fillP H S q)
  | ⟨op, nm, n, l⟩ => by
    by_cases h : op = 15 ∧ l.length = 2
    · match l, h with
      | [a, b], ⟨h15, _⟩ =>
        subst h15
        have h1 := split_fill H S a
        have h2 := split_fill H S b
        have e : fillP H S ⟨15, nm, n, [a, b]⟩ = ⟨15, nm, n, [fillP H S a, fillP H S b]⟩ := by rw [fillP_eq]; simp
        rw [e, splitP_and, splitP_and, List.flatMap_append, h1, h2]
    · rw [splitP_other (p := ⟨op, nm, n, l⟩) h]
      cases hv : voidP ⟨op, nm, n, l⟩ with
      | false => simp
      | true =>
        rw [fillP_void hv, splitP_other (p := ⟨op, nm, n, l⟩) h, hv]
        simp
/-! ### Levels, and how many nodes there are behind filling -/
mutual
def depP : Pr → Nat
  | ⟨_, _, _, l⟩ => depPs l 0 + 1
def depPs : List Pr → Nat → Nat
  | [], n => n
  | t :: r, n => depPs r (max n (depP t))
end
theorem depP_eq (p : Pr) : depP p = depPs p.kids 0 + 1 := by cases p; rfl
theorem depPs_app : ∀ (a b : List Pr) (n : Nat), depPs (a ++ b) n = depPs b (depPs a n)
  | [], b, n => by simp [depPs]
  | t :: a, b, n => by simp only [List.cons_append, depPs, depPs_app a b]
theorem depPs_step {l : List Pr} {i : Nat} (h : i < l.length) (n : Nat) : depPs (l.take (i + 1)) n = max (depPs (l.take i) n) (depP l[i]) := by
  rw [List.take_succ_eq_append_getElem h, depPs_app]
  simp [depPs]
mutual
theorem depP_le : ∀ p : Pr, depP p ≤ nodP p
  | ⟨op, nm, n, l⟩ => by
    have := depPs_le l 0
    simp only [depP, nodP]
    omega
theorem depPs_le : ∀ (l : List Pr) (n : Nat), depPs l n ≤ n + nodPs l
  | [], n => by simp [depPs]
  | t :: r, n => by
    have h1 := depP_le t
    have h2 := depPs_le r (max n (depP t))
    simp only [depPs, nodPs]
    omega
end
theorem depPs_ge : ∀ (l : List Pr) (n : Nat), n ≤ depPs l n
  | [], n => by simp [depPs]
  | t :: r, n => by
    have := depPs_ge r (max n (depP t))
    simp only [depPs]
    omega
theorem depPs_mem : ∀ {l : List Pr} {n : Nat} {k : Pr}, k ∈ l → depP k ≤ depPs l n
  | t :: r, n, k, h => by
    rcases List.mem_cons.1 h with rfl | h
    · have := depPs_ge r (max n (depP k))
      simp only [depPs]
      omega
    · simp only [depPs]
      exact depPs_mem h
theorem nodPs_mem : ∀ {l : List Pr} {k : Pr}, k ∈ l → nodP k ≤ nodPs l
  | t :: r, k, h => by
    simp only [nodPs]
    rcases List.mem_cons.1 h with rfl | h
    · omega
    · have := nodPs_mem h
      omega
mutual
theorem nod_subst {ns : List Nm} {bys : List Pr} {B : Nat} (hB : 1 ≤ B) (hb : ∀ u ∈ bys, nodP u ≤ B) : ∀ p : Pr, nodP (substP ns bys p) ≤ nodP p * B
  | ⟨op, nm, n, l⟩ => by
    have h := nods_subst (ns := ns) hB hb l
    rw [substP]
    split
    · rename_i u hu
      have hm : u ∈ bys := by
        unfold pickP at hu
        split at hu
        · exact List.mem_of_getElem? hu
        · cases hu
      have := hb u hm
      have h1 := nodP_pos ⟨op, nm, n, l⟩
      have : 1 * B ≤ nodP ⟨op, nm, n, l⟩ * B := Nat.mul_le_mul_right _ h1
      omega
    · simp only [nodP, Nat.add_mul]
      omega
theorem nods_subst {ns : List Nm} {bys : List Pr} {B : Nat} (hB : 1 ≤ B) (hb : ∀ u ∈ bys, nodP u ≤ B) : ∀ l : List Pr, nodPs (substPs ns bys l) ≤ nodPs l * B
  | [] => by simp [substPs, nodPs]
  | t :: r => by
    have h1 := nod_subst (ns := ns) hB hb t
    have h2 := nods_subst (ns := ns) hB hb r
    simp only [substPs, nodPs, Nat.add_mul]
    omega
end
mutual
theorem nod_fill {H : List (Nm × List Nm)} {S : List (Nm × Pr)} (hS : ∀ s ∈ S, nodP s.2 ≤ 10) : ∀ p : Pr, nodP (fillP H S p) ≤ nodP p * 10 ^ depP p
  | ⟨op, nm, n, l⟩ => by
    have h := nods_fill (H := H) hS l (depPs l 0) fun k hk => depPs_mem hk
    have e : depP ⟨op, nm, n, l⟩ = depPs l 0 + 1 := rfl
    have e2 : nodP ⟨op, nm, n, l⟩ = 1 + nodPs l := rfl
    rw [e, e2, fillP]
    obtain ⟨Q, hQ⟩ : ∃ Q, 10 ^ depPs l 0 = Q := ⟨_, rfl⟩
    have hQ1 : 1 ≤ Q := by rw [← hQ]; exact Nat.pow_pos (by omega)
    rw [hQ] at h
    rw [Nat.pow_succ, hQ]
    have hpos : 1 * (Q * 10) ≤ (1 + nodPs l) * (Q * 10) := Nat.mul_le_mul_right _ (by omega)
    have hall : ∀ u ∈ fillPs H S l, nodP u ≤ (1 + nodPs l) * Q := fun u hu => by
      have := nodPs_mem hu
      rw [Nat.add_mul]
      omega
    have hone : 1 ≤ (1 + nodPs l) * Q := Nat.le_trans hQ1 (Nat.le_mul_of_pos_left _ (by omega))
    split
    · unfold solP
      split
      · rename_i s h' hs hh
        split
        · simp only [truP, nodP, nodPs]
          omega
        · have h1 := nod_subst (ns := h'.2) hone hall s.2
          have h2 := hS s (List.mem_of_find?_eq_some hs)
          have h3 : nodP s.2 * ((1 + nodPs l) * Q) ≤ 10 * ((1 + nodPs l) * Q) := Nat.mul_le_mul_right _ h2
          have h4 : (1 + nodPs l) * (Q * 10) = 10 * ((1 + nodPs l) * Q) := by rw [← Nat.mul_assoc, Nat.mul_comm]
          omega
      · simp only [truP, nodP, nodPs]
        omega
    · simp only [nodP]
      have : nodPs l * Q * 10 = nodPs l * (Q * 10) := Nat.mul_assoc _ _ _
      rw [Nat.add_mul]
      omega
theorem nods_fill {H : List (Nm × List Nm)} {S : List (Nm × Pr)} (hS : ∀ s ∈ S, nodP s.2 ≤ 10) : ∀ (l : List Pr) (d : Nat), (∀ k ∈ l, depP k ≤ d) → nodPs (fillPs H S l) ≤ nodPs l * 10 ^ d
  | [], d, _ => by simp [fillPs, nodPs]
  | t :: r, d, hd => by
    have h1 := nod_fill (H := H) hS t
    have h2 := nods_fill (H := H) hS r d fun k hk => hd k (.tail _ hk)
    have h3 : nodP t * 10 ^ depP t ≤ nodP t * 10 ^ d := Nat.mul_le_mul_left _ (Nat.pow_le_pow_right (by omega) (hd t (.head _)))
    simp only [fillPs, nodPs, Nat.add_mul]
    omega
end
end Go.Proofs.YtmjpdmkgmlhfaaaDoor
