/- Joined texts. Predicates: what the functions of the package 'pred' and its reference compute, plain. Predicates: the walks of equality, copying, replacing, taking apart, filling, in the program and in the reference. Predicates: the walks of taking apart and filling, in the program and in the reference; levels. Predicates: the walks of filling, in the program and in the reference. The nodes of a predicate are yielded one after the other: the walk of visit, at every loop body. The check of a predicate: every node is checked, in the order of visit. The rules of the operations: what 'sorting.all' and 'sorting.ruleOf' give. Predicates: the error of a node; the walk of the program's check. No condition. -/
import Derived.Test.YtlglfkdjlbcpjaaGreatDoorZ9
import Derived.RangeFuncNested
import Derived.RangeFuncBound
import Derived.RangeFuncCalls
import Derived.RangeFuncLeaves
import Derived.Shelf.Abstract
import Derived.WalkKit
import Derived.OwnWalkIn
import Derived.TacticsInMore
import Derived.LoopNIn
import Derived.LoopIn
import Derived.Test.YtlglfkdjlbcpjaaGreatDoorProg
import Derived.Test.YtlglfkdjlbcpjaaGreatDoorZ6
import Derived.Test.YtlglfkdjlbcpjaaGreatDoorZ7
section
set_option linter.unusedVariables false
set_option linter.unusedSimpArgs false
set_option linter.unusedSectionVars false
namespace Go.Proofs.YtlglfkdjlbcpjaaGreatDoor
open Go Go.VM
set_option maxRecDepth 100000
set_option maxHeartbeats 4000000
def zerP : Pr := ⟨0, [], 0, []⟩
def truP : Pr := ⟨2, [], 1, []⟩
def falP : Pr := ⟨2, [], 0, []⟩
instance : DecidableEq Pr := fun a b => if h : samP a b = true then isTrue ((samP_iff a b).1 h) else isFalse fun e => h ((samP_iff a b).2 e)
/-- True, or the zero predicate. -/
def voidP (p : Pr) : Bool := decide (p = zerP) || decide (p = truP)
/-! ### Conjuncts -/
def splitP : Pr → List Pr
  | ⟨op, nm, n, [a, b]⟩ => if op = 15 then splitP a ++ splitP b else [⟨op, nm, n, [a, b]⟩]
  | ⟨op, nm, n, l⟩ => if voidP ⟨op, nm, n, l⟩ then [] else [⟨op, nm, n, l⟩]
theorem splitP_and (nm : Nm) (n : Int) (a b : Pr) : splitP ⟨15, nm, n, [a, b]⟩ = splitP a ++ splitP b := by rw [splitP, if_pos rfl]
theorem void_kids {p : Pr} (h : voidP p = true) : p.kids = [] := by
  simp only [voidP, Bool.or_eq_true, decide_eq_true_eq] at h
  rcases h with rfl | rfl <;> rfl
theorem splitP_other {p : Pr} (h : ¬ (p.op = 15 ∧ p.kids.length = 2)) : splitP p = if voidP p then [] else [p] := by
  obtain ⟨op, nm, n, l⟩ := p
  match l, h with
  | [], _ => rw [splitP]; simp
  | [a], _ => rw [splitP]; simp
  | [a, b], h =>
    have h5 : ¬ op = 15 := fun e => h ⟨e, rfl⟩
    rw [splitP, if_neg h5]
    cases hv : voidP ⟨op, nm, n, [a, b]⟩ with
    | false => simp
    | true => have := void_kids hv; simp at this
  | a :: b :: c :: r, _ => rw [splitP]; simp
mutual
theorem split_len : ∀ p : Pr, (splitP p).length ≤ nodP p
  | ⟨op, nm, n, l⟩ => by
    by_cases h : op = 15 ∧ l.length = 2
    · match l, h with
      | [a, b], ⟨h15, _⟩ =>
        subst h15
        rw [splitP_and]
        have h1 := split_len a
        have h2 := split_len b
        simp only [List.length_append, nodP, nodPs]
        omega
    · rw [splitP_other h]
      have := nodP_pos ⟨op, nm, n, l⟩
      split <;> simp <;> omega
end
/-! ### Predicates in place of variables -/
def pickP (ns : List Nm) (bys : List Pr) (op : Int) (nm : Nm) : Option Pr := if op = 3 ∧ 0 ≤ findI nm ns 0 then bys[(findI nm ns 0).toNat]? else none
mutual
def substP (ns : List Nm) (bys : List Pr) : Pr → Pr
  | ⟨op, nm, n, l⟩ => match pickP ns bys op nm with
    | some u => u
    | none => ⟨op, nm, n, substPs ns bys l⟩
def substPs (ns : List Nm) (bys : List Pr) : List Pr → List Pr
  | [] => []
  | t :: r => substP ns bys t :: substPs ns bys r
end
theorem substPs_eq (ns : List Nm) (bys : List Pr) : ∀ l, substPs ns bys l = l.map (substP ns bys)
  | [] => by simp [substPs]
  | t :: r => by simp [substPs, substPs_eq ns bys r]
theorem substP_eq (ns : List Nm) (bys : List Pr) (p : Pr) : substP ns bys p = match pickP ns bys p.op p.name with
    | some u => u
    | none => ⟨p.op, p.name, p.n, p.kids.map (substP ns bys)⟩ := by
  cases p
  rw [substP, substPs_eq]
theorem pickP_nil (op : Int) (nm : Nm) : pickP [] [] op nm = none := by
  unfold pickP
  split <;> rfl
mutual
theorem substP_nil : ∀ p : Pr, substP [] [] p = p
  | ⟨op, nm, n, l⟩ => by
    have := substPs_nil l
    rw [substP, pickP_nil]
    simp only [this]
theorem substPs_nil : ∀ l : List Pr, substPs [] [] l = l
  | [] => by simp [substPs]
  | t :: r => by
    have h1 := substP_nil t
    have h2 := substPs_nil r
    simp only [substPs, h1, h2]
end
/-! ### Solutions in place of unknown predicates -/
/-- What an applied unknown predicate becomes. -/
def solP (H : List (Nm × List Nm)) (S : List (Nm × Pr)) (nm : Nm) (kids : List Pr) : Pr :=
  match S.find? fun s => decide (s.1 = nm), H.find? fun h => decide (h.1 = nm) with
  | some s, some h => if voidP s.2 then truP else substP h.2 kids s.2
  | _, _ => truP
mutual
def fillP (H : List (Nm × List Nm)) (S : List (Nm × Pr)) : Pr → Pr
  | ⟨op, nm, n, l⟩ => if op = 5 then solP H S nm (fillPs H S l) else ⟨op, nm, n, fillPs H S l⟩
def fillPs (H : List (Nm × List Nm)) (S : List (Nm × Pr)) : List Pr → List Pr
  | [] => []
  | t :: r => fillP H S t :: fillPs H S r
end
theorem fillPs_eq (H : List (Nm × List Nm)) (S : List (Nm × Pr)) : ∀ l, fillPs H S l = l.map (fillP H S)
  | [] => by simp [fillPs]
  | t :: r => by simp [fillPs, fillPs_eq H S r]
theorem fillP_eq (H : List (Nm × List Nm)) (S : List (Nm × Pr)) (p : Pr) : fillP H S p = if p.op = 5 then solP H S p.name (p.kids.map (fillP H S)) else ⟨p.op, p.name, p.n, p.kids.map (fillP H S)⟩ := by
  cases p
  rw [fillP, fillPs_eq]
theorem fillP_void {H : List (Nm × List Nm)} {S : List (Nm × Pr)} {p : Pr} (h : voidP p = true) : fillP H S p = p := by
  simp only [voidP, Bool.or_eq_true, decide_eq_true_eq] at h
  rcases h with rfl | rfl <;> rfl
/-- Filling and taking apart is taking apart, filling and taking apart. -/
theorem split_fill (H : List (Nm × List Nm)) (S : List (Nm × Pr)) : ∀ p : Pr, splitP (fillP H S p) = (splitP p).flatMap fun q => splitP (fillP H S q)
  | ⟨op, nm, n, l⟩ => by
    by_cases h : op = 15 ∧ l.length = 2
    · match l, h with
      | [a, b], ⟨h15, _⟩ =>
        subst h15
        have h1 := split_fill H S a
        have h2 := split_fill H S b
        have e : fillP H S ⟨15, nm, n, [a, b]⟩ = ⟨15, nm, n, [fillP H S a, fillP H S b]⟩ := by rw [fillP_eq]; simp
        rw [e, splitP_and, splitP_and, List.flatMap_append, h1, h2]
    · rw [splitP_other (p := ⟨op, nm, n, l⟩) h]
      cases hv : voidP ⟨op, nm, n, l⟩ with
      | false => simp
      | true =>
        rw [fillP_void hv, splitP_other (p := ⟨op, nm, n, l⟩) h, hv]
        simp
/-! ### Levels, and how many nodes there are behind filling -/
mutual
def depP : Pr → Nat
  | ⟨_, _, _, l⟩ => depPs l 0 + 1
def depPs : List Pr → Nat → Nat
  | [], n => n
  | t :: r, n => depPs r (max n (depP t))
end
theorem depP_eq (p : Pr) : depP p = depPs p.kids 0 + 1 := by cases p; rfl
theorem depPs_app : ∀ (a b : List Pr) (n : Nat), depPs (a ++ b) n = depPs b (depPs a n)
  | [], b, n => by simp [depPs]
  | t :: a, b, n => by simp only [List.cons_append, depPs, depPs_app a b]
theorem depPs_step {l : List Pr} {i : Nat} (h : i < l.length) (n : Nat) : depPs (l.take (i + 1)) n = max (depPs (l.take i) n) (depP l[i]) := by
  rw [List.take_succ_eq_append_getElem h, depPs_app]
  simp [depPs]
mutual
theorem depP_le : ∀ p : Pr, depP p ≤ nodP p
  | ⟨op, nm, n, l⟩ => by
    have := depPs_le l 0
    simp only [depP, nodP]
    omega
theorem depPs_le : ∀ (l : List Pr) (n : Nat), depPs l n ≤ n + nodPs l
  | [], n => by simp [depPs]
  | t :: r, n => by
    have h1 := depP_le t
    have h2 := depPs_le r (max n (depP t))
    simp only [depPs, nodPs]
    omega
end
theorem depPs_ge : ∀ (l : List Pr) (n : Nat), n ≤ depPs l n
  | [], n => by simp [depPs]
  | t :: r, n => by
    have := depPs_ge r (max n (depP t))
    simp only [depPs]
    omega
theorem depPs_mem : ∀ {l : List Pr} {n : Nat} {k : Pr}, k ∈ l → depP k ≤ depPs l n
  | t :: r, n, k, h => by
    rcases List.mem_cons.1 h with rfl | h
    · have := depPs_ge r (max n (depP k))
      simp only [depPs]
      omega
    · simp only [depPs]
      exact depPs_mem h
theorem nodPs_mem : ∀ {l : List Pr} {k : Pr}, k ∈ l → nodP k ≤ nodPs l
  | t :: r, k, h => by
    simp only [nodPs]
    rcases List.mem_cons.1 h with rfl | h
    · omega
    · have := nodPs_mem h
      omega
mutual
theorem nod_subst {ns : List Nm} {bys : List Pr} {B : Nat} (hB : 1 ≤ B) (hb : ∀ u ∈ bys, nodP u ≤ B) : ∀ p : Pr, nodP (substP ns bys p) ≤ nodP p * B
  | ⟨op, nm, n, l⟩ => by
    have h := nods_subst (ns := ns) hB hb l
    rw [substP]
    split
    · rename_i u hu
      have hm : u ∈ bys := by
        unfold pickP at hu
        split at hu
        · exact List.mem_of_getElem? hu
        · cases hu
      have := hb u hm
      have h1 := nodP_pos ⟨op, nm, n, l⟩
      have : 1 * B ≤ nodP ⟨op, nm, n, l⟩ * B := Nat.mul_le_mul_right _ h1
      omega
    · simp only [nodP, Nat.add_mul]
      omega
theorem nods_subst {ns : List Nm} {bys : List Pr} {B : Nat} (hB : 1 ≤ B) (hb : ∀ u ∈ bys, nodP u ≤ B) : ∀ l : List Pr, nodPs (substPs ns bys l) ≤ nodPs l * B
  | [] => by simp [substPs, nodPs]
  | t :: r => by
    have h1 := nod_subst (ns := ns) hB hb t
    have h2 := nods_subst (ns := ns) hB hb r
    simp only [substPs, nodPs, Nat.add_mul]
    omega
end
mutual
theorem nod_fill {H : List (Nm × List Nm)} {S : List (Nm × Pr)} (hS : ∀ s ∈ S, nodP s.2 ≤ 10) : ∀ p : Pr, nodP (fillP H S p) ≤ nodP p * 10 ^ depP p
  | ⟨op, nm, n, l⟩ => by
    have h := nods_fill (H := H) hS l (depPs l 0) fun k hk => depPs_mem hk
    have e : depP ⟨op, nm, n, l⟩ = depPs l 0 + 1 := rfl
    have e2 : nodP ⟨op, nm, n, l⟩ = 1 + nodPs l := rfl
    rw [e, e2, fillP]
    obtain ⟨Q, hQ⟩ : ∃ Q, 10 ^ depPs l 0 = Q := ⟨_, rfl⟩
    have hQ1 : 1 ≤ Q := by rw [← hQ]; exact Nat.pow_pos (by omega)
    rw [hQ] at h
    rw [Nat.pow_succ, hQ]
    have hpos : 1 * (Q * 10) ≤ (1 + nodPs l) * (Q * 10) := Nat.mul_le_mul_right _ (by omega)
    have hall : ∀ u ∈ fillPs H S l, nodP u ≤ (1 + nodPs l) * Q := fun u hu => by
      have := nodPs_mem hu
      rw [Nat.add_mul]
      omega
    have hone : 1 ≤ (1 + nodPs l) * Q := Nat.le_trans hQ1 (Nat.le_mul_of_pos_left _ (by omega))
    split
    · unfold solP
      split
      · rename_i s h' hs hh
        split
        · simp only [truP, nodP, nodPs]
          omega
        · have h1 := nod_subst (ns := h'.2) hone hall s.2
          have h2 := hS s (List.mem_of_find?_eq_some hs)
          have h3 : nodP s.2 * ((1 + nodPs l) * Q) ≤ 10 * ((1 + nodPs l) * Q) := Nat.mul_le_mul_right _ h2
          have h4 : (1 + nodPs l) * (Q * 10) = 10 * ((1 + nodPs l) * Q) := by rw [← Nat.mul_assoc, Nat.mul_comm]
          omega
      · simp only [truP, nodP, nodPs]
        omega
    · simp only [nodP]
      have : nodPs l * Q * 10 = nodPs l * (Q * 10) := Nat.mul_assoc _ _ _
      rw [Nat.add_mul]
      omega
theorem nods_fill {H : List (Nm × List Nm)} {S : List (Nm × Pr)} (hS : ∀ s ∈ S, nodP s.2 ≤ 10) : ∀ (l : List Pr) (d : Nat), (∀ k ∈ l, depP k ≤ d) → nodPs (fillPs H S l) ≤ nodPs l * 10 ^ d
  | [], d, _ => by simp [fillPs, nodPs]
  | t :: r, d, hd => by
    have h1 := nod_fill (H := H) hS t
    have h2 := nods_fill (H := H) hS r d fun k hk => hd k (.tail _ hk)
    have h3 : nodP t * 10 ^ depP t ≤ nodP t * 10 ^ d := Nat.mul_le_mul_left _ (Nat.pow_le_pow_right (by omega) (hd t (.head _)))
    simp only [fillPs, nodPs, Nat.add_mul]
    omega
end
end Go.Proofs.YtlglfkdjlbcpjaaGreatDoor
end

section
set_option linter.unusedVariables false
set_option linter.unusedSimpArgs false
set_option linter.unusedSectionVars false
namespace Go.Proofs.YtlglfkdjlbcpjaaGreatDoor
open Go Go.VM
set_option maxRecDepth 100000
set_option maxHeartbeats 8000000
variable {G : GT}
theorem map_stepC {α : Type} (f : α → List D) {l : List α} {i : Nat} (h : i < l.length) : List.take (i + 1) (List.map f l) = List.take i (List.map f l) ++ [f l[i]] := by
  have := map_step f h
  rw [List.map_take, List.map_take] at this
  exact this
theorem len_mem {α : Type} {f : α → List D} {k : Nat} (hf : ∀ a, (f a).length = k) {l : List α} {i : Nat} : ∀ (x : List D), x ∈ List.take i (List.map f l) → x.length = k := fun x hx => by
  obtain ⟨t, _, rfl⟩ := List.mem_map.1 (List.mem_of_mem_take hx)
  exact hf t
/-- The cells of a predicate as an object. -/
abbrev prO (op : Int) (nm : Nm) (n : Int) (k : D) : AObj := .cells [.d (.int .i64 op), .d (.str nm), .d (.int .i64 n), .d k]
/-! ### Finding a text -/
theorem find_range (s : Nm) (l : List Nm) : findI s l 0 < 0 ∨ (0 ≤ findI s l 0 ∧ findI s l 0 < l.length) := by
  suffices h : ∀ (l : List Nm) (i : Nat), findI s l i < 0 ∨ ((i : Int) ≤ findI s l i ∧ findI s l i < i + l.length) by
    have := h l 0
    simpa using this
  intro l
  induction l with
  | nil => intro i; left; simp [findI]
  | cons k r ih =>
    intro i
    unfold findI
    split
    · right; simp; omega
    · rcases ih (i + 1) with h | ⟨h1, h2⟩
      · left; exact h
      · right; simp at h1 h2 ⊢; omega
/-! ### Equality -/
/-- The zero predicate, as it is built. -/
theorem zer_wk : WkL [.int .i64 0, .str [], .int .i64 0, .nils] (prD zerP) := by simp [zerP]
/-! ### Constants, void -/
def conP (b : Bool) : Pr := if b then truP else falP
theorem samP_dec (a b : Pr) : samP a b = decide (a = b) := by
  rw [Bool.eq_iff_iff, samP_iff]
  simp
/-! ### Copying -/
/-! ### Replacing -/
theorem pickP_none {ns : List Nm} {bys : List Pr} {op : Int} {nm : Nm} (h : ¬ (op = 3 ∧ 0 ≤ findI nm ns 0)) : pickP ns bys op nm = none := by
  unfold pickP
  rw [if_neg h]
theorem pickP_at {ns : List Nm} {bys : List Pr} {nm : Nm} {k : Nat} (h : findI nm ns 0 = (k : Int)) : pickP ns bys 3 nm = bys[k]? := by
  unfold pickP
  rw [if_pos ⟨rfl, by omega⟩, h]
  rfl
end Go.Proofs.YtlglfkdjlbcpjaaGreatDoor
end

section
set_option linter.unusedVariables false
set_option linter.unusedSimpArgs false
set_option linter.unusedSectionVars false
namespace Go.Proofs.YtlglfkdjlbcpjaaGreatDoor
open Go Go.VM
set_option maxRecDepth 100000
set_option maxHeartbeats 8000000
variable {G : GT}
/-! ### Taking apart -/
theorem void_not {p : Pr} (h : p.op = 15 ∧ p.kids.length = 2) : voidP p = false := by
  cases hv : voidP p with
  | false => rfl
  | true => have := void_kids hv; rw [this] at h; simp at h
theorem two_of {l : List Pr} (h : l.length = 2) : ∃ a b, l = [a, b] := by
  match l, h with
  | [a, b], _ => exact ⟨a, b, rfl⟩
/-! ### Replacing, in the reference -/
/-! ### Levels -/
theorem ent_r7_Depth : VM.Enters Tryz.prog 53 := VM.Enters.mk Tryz.func53 rfl
theorem r7_Depth_cs (p : Pr) : nodP p ≤ 900000000 → CS Tryz.prog G 53 [.agg (prD p)] (.d (.int .i64 (depP p))) none := by
  revert p
  refine Pr.ind fun p ih => ?_
  obtain ⟨op, nm, n, l⟩ := p
  intro hN
  simp only at ih
  have hn := nodP_kids ⟨op, nm, n, l⟩
  have hd := depP_eq ⟨op, nm, n, l⟩
  simp only at hn hd
  have hl := len_le_nodPs l
  have hle := depPs_le l 0
  refine CS.of_VK Tryz.func53 rfl Tryz.ntmps53 rfl ?_
  simp
  refine SW.loopF (ι := { i : Nat // i ≤ l.length }) (fun i => [(3, .d (.int .i64 (depPs (l.take i.1) 0))), (9, .d (.int .i64 i.1))]) (fun _ => [(1, prO op nm n (.sl (l.map prC)))]) (fun _ => []) (fun i => l.length - i.1) ⟨0, by simp⟩ (by simp [depPs]) ?_
  rintro ⟨i, hi⟩
  by_cases hlt : i < l.length
  · have hg := prs_get hlt
    have hw := wrap64s (show i < 9223372036854775807 by omega)
    have hs := depPs_step hlt 0
    have hb2 := nodPs_step hlt
    have hb3 := nodPs_take_le l (i + 1)
    simp [hlt, hg]
    refine callK.mk ent_r7_Depth (ih l[i] (List.getElem_mem hlt) (by omega)) ?_
    simp
    exact Again.mk ⟨i + 1, hlt⟩ (by simp [hw, hs]; split <;> omega) (by simp; omega)
  · have : i = l.length := by omega
    subst this
    have hw : IntKind.i64.wrap ((depPs l 0 : Int) + 1) = ((depPs l 0 + 1 : Nat) : Int) := wrap64s (by omega)
    simp [hw, hd]
end Go.Proofs.YtlglfkdjlbcpjaaGreatDoor
end

section
set_option linter.unusedVariables false
set_option linter.unusedSimpArgs false
set_option linter.unusedSectionVars false
namespace Go.Proofs.YtlglfkdjlbcpjaaGreatDoor
open Go Go.VM
set_option maxRecDepth 100000
set_option maxHeartbeats 8000000
variable {G : GT}
abbrev Vr := Nm × Nm
/-- An unknown predicate: its name, its parameters. -/
abbrev Ho := Nm × List Vr
/-- A solution. -/
abbrev So := Nm × Pr
def vrC (v : Vr) : List D := [.str v.1, .str v.2]
abbrev hoD (h : Ho) : List D := [.str h.1, .sl (h.2.map vrC)]
def hoC (h : Ho) : List D := hoD h
abbrev soD (s : So) : List D := [.str s.1, .int .i64 s.2.op, .str s.2.name, .int .i64 s.2.n, .sl (s.2.kids.map prC)]
def soC (s : So) : List D := soD s
theorem vrC_eq (v : Vr) : vrC v = [.str v.1, .str v.2] := rfl
theorem hoC_eq (h : Ho) : hoC h = [.str h.1, .sl (h.2.map vrC)] := rfl
theorem soC_eq (s : So) : soC s = [.str s.1, .int .i64 s.2.op, .str s.2.name, .int .i64 s.2.n, .sl (s.2.kids.map prC)] := rfl
attribute [simp] vrC_eq hoC_eq soC_eq
theorem vrs_get {l : List Vr} {i : Nat} (h : i < l.length) : (l.map vrC)[i]? = some [.str l[i].1, .str l[i].2] := by simp [h, vrC]
theorem hos_get {l : List Ho} {i : Nat} (h : i < l.length) : (l.map hoC)[i]? = some (hoD l[i]) := by simp [h, hoC]
theorem sos_get {l : List So} {i : Nat} (h : i < l.length) : (l.map soC)[i]? = some (soD l[i]) := by simp [h, soC]
def hoN (H : List Ho) : List (Nm × List Nm) := H.map fun h => (h.1, h.2.map (·.1))
theorem find_at {α : Type} {p : α → Bool} {l : List α} {i : Nat} (h : i < l.length) : (l.drop i).find? p = if p l[i] then some l[i] else (l.drop (i + 1)).find? p := by
  rw [List.drop_eq_getElem_cons h, List.find?_cons]
  cases p l[i] <;> rfl
theorem find_end {α : Type} {p : α → Bool} {l : List α} : (l.drop l.length).find? p = none := by simp
def hoF (H : List Ho) (nm : Nm) : Option Ho := H.find? fun h => decide (h.1 = nm)
def soF (S : List So) (nm : Nm) : Option So := S.find? fun s => decide (s.1 = nm)
theorem hoN_find (H : List Ho) (nm : Nm) : (hoN H).find? (fun h => decide (h.1 = nm)) = (hoF H nm).map fun h => (h.1, h.2.map (·.1)) := by
  unfold hoN hoF
  induction H with
  | nil => rfl
  | cons h r ih =>
    simp only [List.map_cons, List.find?_cons]
    cases decide (h.1 = nm)
    · exact ih
    · rfl
theorem solP_eq (H : List Ho) (S : List So) (nm : Nm) (kids : List Pr) : solP (hoN H) S nm kids = match soF S nm, hoF H nm with
    | some s, some h => if voidP s.2 then truP else substP (h.2.map (·.1)) kids s.2
    | _, _ => truP := by
  unfold solP
  rw [hoN_find]
  unfold soF
  cases List.find? (fun s => decide (s.1 = nm)) S <;> cases hoF H nm <;> rfl
theorem fst_step {l : List Vr} {i : Nat} (h : i < l.length) : strs (List.map (·.1) (l.take (i + 1))) = strs (List.map (·.1) (l.take i)) ++ [[.str l[i].1]] := by
  rw [List.take_succ_eq_append_getElem h, List.map_append, strs_app2]
  rfl
/-- The names of the parameters. -/
theorem subst_tru (ns : List Nm) (bys : List Pr) : substP ns bys truP = truP := by
  rw [substP_eq, pickP_none (by simp [truP])]
  rfl
/-! ### Filling -/
theorem fills_nod {H : List Ho} {S : List So} (hS : ∀ s ∈ S, nodP s.2 ≤ 10) (p : Pr) (hN : nodP p * 10 ^ depP p ≤ 900000000) :
    nodPs (p.kids.map (fillP (hoN H) S)) ≤ 900000000 ∧ ∀ k ∈ p.kids, nodP k * 10 ^ depP k ≤ 900000000 := by
  have hd := depP_eq p
  have hn := nodP_kids p
  have h1 := nods_fill (H := hoN H) hS p.kids (depPs p.kids 0) fun k hk => depPs_mem hk
  rw [fillPs_eq] at h1
  have hle : nodPs p.kids * 10 ^ depPs p.kids 0 ≤ nodP p * 10 ^ depP p := Nat.mul_le_mul (by omega) (Nat.pow_le_pow_right (by omega) (by omega))
  refine ⟨by omega, fun k hk => ?_⟩
  have h2 := nodPs_mem hk
  have h3 := depPs_mem (n := 0) hk
  have : nodP k * 10 ^ depP k ≤ nodP p * 10 ^ depP p := Nat.mul_le_mul (by omega) (Nat.pow_le_pow_right (by omega) (by omega))
  omega
theorem nod_of_pow {p : Pr} (hN : nodP p * 10 ^ depP p ≤ 900000000) : nodP p ≤ 900000000 := by
  have : nodP p * 1 ≤ nodP p * 10 ^ depP p := Nat.mul_le_mul_left _ (Nat.pow_pos (by omega))
  omega
theorem fillP_hole {H : List (Nm × List Nm)} {S : List (Nm × Pr)} {nm : Nm} {n : Int} {l : List Pr} : fillP H S ⟨5, nm, n, l⟩ = solP H S nm (l.map (fillP H S)) := by rw [fillP_eq]; simp
theorem fillP_other {H : List (Nm × List Nm)} {S : List (Nm × Pr)} {op : Int} {nm : Nm} {n : Int} {l : List Pr} (h : ¬ op = 5) : fillP H S ⟨op, nm, n, l⟩ = ⟨op, nm, n, l.map (fillP H S)⟩ := by rw [fillP_eq]; simp [h]
end Go.Proofs.YtlglfkdjlbcpjaaGreatDoor
end

section
set_option linter.unusedVariables false
set_option linter.unusedSimpArgs false
set_option linter.unusedSectionVars false
namespace Go.Proofs.YtlglfkdjlbcpjaaGreatDoor
open Go Go.VM Go.RowKit Go.Shelf
set_option maxRecDepth 100000
set_option maxHeartbeats 4000000
attribute [local go_sem] Oper.semAt_some
/-- Blocks other than those of X stay. -/
structure KeepX (X : Nat → Prop) (W W' : World) : Prop where
  os : W'.os = W.os
  tape : W'.tape = W.tape
  output : W'.output = W.output
  size : W.heap.size ≤ W'.heap.size
  block : ∀ k, k < W.heap.size → ¬ X k → W'.heap[k]? = W.heap[k]?
theorem KeepX.refl (X : Nat → Prop) (W : World) : KeepX X W W := ⟨rfl, rfl, rfl, Nat.le_refl _, fun _ _ _ => rfl⟩
theorem KeepX.trans {X : Nat → Prop} {A B C : World} (h : KeepX X A B) (k : KeepX X B C) : KeepX X A C :=
  ⟨k.os.trans h.os, k.tape.trans h.tape, k.output.trans h.output, Nat.le_trans h.size k.size, fun i hi hx => (k.block i (Nat.lt_of_lt_of_le hi h.size) hx).trans (h.block i hi hx)⟩
abbrev NoX : Nat → Prop := fun _ => False
theorem KeepX.up {X : Nat → Prop} {A B : World} (h : KeepX NoX A B) : KeepX X A B := ⟨h.os, h.tape, h.output, h.size, fun k hk _ => h.block k hk fun e => e⟩
theorem KeepX.cell {X : Nat → Prop} {A B : World} (h : KeepX X A B) {b o : Nat} (hb : b < A.heap.size) (hx : ¬ X b) : B.cell? ⟨b, o, none⟩ = A.cell? ⟨b, o, none⟩ := by
  unfold World.cell?
  rw [h.block b hb hx]
theorem KeepX.alloc {X : Nat → Prop} {A B : World} (h : KeepX X A B) (o : Obj) : KeepX X A (B.alloc o) :=
  h.trans ⟨rfl, rfl, rfl, by simp, fun k hk _ => by
    show (B.heap.push o)[k]? = _
    rw [Array.getElem?_push, if_neg (by omega)]⟩
/-- What a predicate's value looks like. -/
theorem V_pr {R : Nat → Nat → Prop} {w : World} {v : Value} {p : Pr} (h : V R w v (.agg (prC p))) :
    ∃ (ao : Option Addr) (cap : Nat) (nm : ByteArray), v = .agg #[.int .i64 p.op, .string nm, .int .i64 p.n, .slice ao p.kids.length cap] ∧
      ∀ (i : Nat) (hi : i < p.kids.length), ∃ b o, ao = some ⟨b, o, none⟩ ∧ ∃ f : Nat → Value, (∀ j, j < 4 → R b (o + i * 4 + j) ∧ w.cell? ⟨b, o + i * 4 + j, none⟩ = some (f j)) ∧ V R w (.agg #[f 0, f 1, f 2, f 3]) (.agg (prC p.kids[i])) := by
  obtain ⟨op, nm, n, ks⟩ := p
  rw [prC_eq] at h
  cases h with
  | agg cs _ h1 h2 h3 =>
    obtain ⟨l⟩ := cs
    match l, h1 with
    | [c0, c1, c2, c3], _ =>
      have g0 := h3 0 _ rfl
      have g1 := h3 1 _ rfl
      have g2 := h3 2 _ rfl
      have g3 := h3 3 _ rfl
      simp at g0 g1 g2 g3
      obtain ⟨es, hes⟩ : ∃ es, ks.map prC = es := ⟨_, rfl⟩
      simp only [hes] at g3
      cases g0
      cases g1
      cases g2
      have hlen : es.length = ks.length := by rw [← hes]; simp
      cases g3 with
      | emp ao cap =>
        have h0 : ks = [] := by simpa using hes
        subst h0
        exact ⟨ao, cap, _, rfl, fun i hi => by simp at hi⟩
      | sl b o m cap size es f k1 k2 k3 k4 k5 k6 k7 =>
        have hm : m = ks.length := by omega
        subst hm
        refine ⟨_, cap, _, rfl, fun i hi => ⟨b, o, rfl, f i, ?_⟩⟩
        simp only at hi
        have hg : es[i]? = some (prC ks[i]) := by rw [← hes]; simp [hi]
        have hs : size = 4 := by
          have := k4 _ (List.mem_of_getElem? hg)
          rw [prC_eq] at this
          simpa using this.symm
        subst hs
        refine ⟨fun j hj => k5 i j hi hj, ?_⟩
        have q : ∀ (j : Nat) (d : D), (prC ks[i])[j]? = some d → V R w (f i j) d := fun j d hd => k7 i j _ d hg hd
        have q1 : ∀ (j : Nat) (d : D), (prC ks[i])[j]? = some d → d.one = true := fun j d hd => k6 i j _ d hg hd
        refine .agg _ _ (by rw [prC_eq]; rfl) q1 fun j d hd => ?_
        have hj : j < 4 := by
          have := (List.getElem?_eq_some_iff.1 hd).1
          rw [prC_eq] at this
          simpa using this
        have hv := q j d hd
        match j, hj with
        | 0, _ => exact hv
        | 1, _ => exact hv
        | 2, _ => exact hv
        | 3, _ => exact hv
mutual
/-- The nodes, each before those of its kids. -/
def preP : Pr → List Pr
  | ⟨op, nm, n, l⟩ => ⟨op, nm, n, l⟩ :: prePs l
def prePs : List Pr → List Pr
  | [] => []
  | p :: r => preP p ++ prePs r
end
theorem preP_eq (p : Pr) : preP p = p :: prePs p.kids := by cases p; rfl
theorem prePs_app : ∀ a b : List Pr, prePs (a ++ b) = prePs a ++ prePs b
  | [], b => by simp [prePs]
  | p :: a, b => by simp only [List.cons_append, prePs, prePs_app a b, List.append_assoc]
theorem prePs_take {l : List Pr} {i : Nat} (h : i < l.length) : prePs (l.take (i + 1)) = prePs (l.take i) ++ preP l[i] := by
  rw [List.take_succ_eq_append_getElem h, prePs_app]
  simp [prePs]
theorem prePs_split (l : List Pr) (i : Nat) : prePs l = prePs (l.take i) ++ prePs (l.drop i) := by rw [← prePs_app, List.take_append_drop]
/-- What a call of yield does: it goes on, or it has said no more. -/
def Yields (P : Program) (L : List Pr) (l : Nat) (X : Nat → Prop) (R : Nat → Nat → Prop) (w0 : World) (J Jx : List Pr → World → Prop) : Prop :=
  ∀ (m : Nat) (pre : List Pr) (v : Value) (p : Pr) (W : World), pre ++ [p] <+: L → V R w0 v (.agg (prC p)) → KeepX X w0 W → J pre W → YieldAt Fence.wide m P l #[v] W fun e W' =>
    (e = .returned (.bool true) ∧ J (pre ++ [p]) W' ∧ KeepX X W W') ∨ (e = .returned (.bool false) ∧ Jx (pre ++ [p]) W' ∧ KeepX X W W')
theorem cell_box (W : World) (cs : Array Value) (T : TypeId) {j : Nat} {v : Value} (h : cs[j]? = some v) : (W.alloc (.cells cs T)).cell? ⟨W.heap.size, j, none⟩ = some v := by
  unfold World.cell?
  rw [World.alloc_heap_new]
  simp [h]
theorem visit_in (L : List Pr) (l : Nat) (X : Nat → Prop) (R : Nat → Nat → Prop) (w0 : World) (hX : ∀ b o, R b o → ¬ X b) (hR : ∀ b o, R b o → b < w0.heap.size) (hX2 : ∀ k, X k → k < w0.heap.size)
    (J Jx : List Pr → World → Prop) (hJ : ∀ s A B, J s A → KeepX NoX A B → J s B) (hY : Yields Tryz.prog L l X R w0 J Jx) :
    ∀ (p : Pr) (n : Nat) (v : Value) (pre : List Pr) (W : World), nodP p ≤ 1000000 → pre ++ preP p <+: L → V R w0 v (.agg (prC p)) → KeepX X w0 W → J pre W →
      CallsIn Fence.wide n Tryz.prog 80 #[v, .func (.yield l) #[] #[]] W fun e W' =>
        (e = .returned (.bool true) ∧ J (pre ++ preP p) W' ∧ KeepX X W W') ∨ (e = .returned (.bool false) ∧ ∃ q, q <+: preP p ∧ Jx (pre ++ q) W' ∧ KeepX X W W') := by
  refine Pr.ind fun p ih => ?_
  intro n v pre W hN hL hv hW hJ0
  have hN1 := nodP_kids p
  have hN2 := len_le_nodPs p.kids
  have hpk : ∀ (k : Nat) (h : k < p.kids.length), (pre ++ p :: prePs (p.kids.take k)) ++ preP p.kids[k] <+: L := fun k h => by
    refine List.IsPrefix.trans ⟨prePs (p.kids.drop (k + 1)), ?_⟩ hL
    rw [preP_eq p, prePs_split p.kids k, List.drop_eq_getElem_cons h]
    simp [prePs]
  obtain ⟨ao, cap, nm, rfl, hk⟩ := V_pr hv
  have hJ1 := hJ _ _ (W.alloc (.cells #[.int .i64 p.op, .string nm, .int .i64 p.n, .slice ao p.kids.length cap] 25)) hJ0 ((KeepX.refl NoX W).alloc _)
  have hW1 := hW.alloc (.cells #[.int .i64 p.op, .string nm, .int .i64 p.n, .slice ao p.kids.length cap] 25)
  obtain ⟨fn, tmps, assign, body, hy, hYR⟩ := hY (n - 1) pre _ p _ (((List.prefix_append_right_inj pre).2 ⟨prePs p.kids, by rw [preP_eq]; rfl⟩).trans hL) hv hW1 hJ1
  refine callsIn_of_wp Tryz.func80 rfl trivial ?_ rfl
  simp only [Tryz.ntmps80, List.size_toArray, List.length_cons, List.length_nil, Nat.reduceAdd, Nat.reduceSub, Array.replicate_succ, Array.replicate_zero, List.push_toArray, List.append_toArray, List.nil_append, List.cons_append]
  gi_wp2
  refine ⟨fun h => (by cases h), ?_⟩
  have hbx : ¬ X W.heap.size := fun h => by have := hX2 _ h; have := hW.size; omega
  refine hYR.mono ?_
  rintro e W3 (⟨rfl, hJ3, hK3⟩ | ⟨rfl, hJ3, hK3⟩)
  · have hWK : KeepX X W W3 := ((KeepX.refl X W).alloc _).trans hK3
    have hbox : W3.cell? ⟨W.heap.size, 3, none⟩ = some (.slice ao p.kids.length cap) := (hK3.cell (by simp) hbx).trans (cell_box W _ _ rfl)
    gi_wp2
    gi_loopw [14] (fun i wr => ∃ k : Nat, k ≤ p.kids.length ∧ i = .int .i64 k ∧ J (pre ++ p :: prePs (p.kids.take k)) wr ∧ KeepX X W wr) (fun i _ => p.kids.length - (intOf i).toNat)
    case atStart => exact ⟨0, Nat.zero_le _, rfl, by simpa [prePs] using hJ3, hWK⟩
    case round =>
      obtain ⟨k, hkl, rfl, hJk, hKk⟩ := hrel
      by_cases hlt : k < p.kids.length
      · obtain ⟨b, o, rfl, f, hf, hfv⟩ := hk k hlt
        have hcx : ∀ j, j < 4 → wr.cell? ⟨b, o + k * 4 + j, none⟩ = some (f j) := fun j hj => ((hW.trans hKk).cell (hR _ _ (hf j hj).1) (hX _ _ (hf j hj).1)).trans (hf j hj).2
        have h0 := hcx 0 (by omega)
        rw [Nat.add_zero] at h0
        have h1 := hcx 1 (by omega)
        have h2 := hcx 2 (by omega)
        have h3 := hcx 3 (by omega)
        have hfv2 := hfv
        have hb2 := nodPs_step hlt
        have hb3 := nodPs_take_le p.kids (k + 1)
        obtain ⟨ao2, cap2, nm2, he, _⟩ := V_pr hfv
        simp only [Value.agg.injEq, Array.mk.injEq, List.cons.injEq, and_true] at he
        obtain ⟨e0, e1, e2, e3⟩ := he
        rw [e0] at h0
        rw [e1] at h1
        rw [e2] at h2
        rw [e3] at h3
        rw [e0, e1, e2, e3] at hfv2
        gi_wp2
        refine ⟨trivial, fun h => (by cases h), (ih p.kids[k] (List.getElem_mem hlt) (n - 1) _ _ _ (by omega) (hpk k hlt) hfv2 ((hW.trans hKk).alloc _) (hJ _ _ _ hJk ((KeepX.refl NoX wr).alloc _))).mono ?_⟩
        rintro e W4 (⟨rfl, hJ4, hK4⟩ | ⟨rfl, q, hq, hJ4, hK4⟩)
        · have hw64 : RowKit.wrap64 ((k : Int) + 1) = (k : Int) + 1 := by unfold RowKit.wrap64; omega
          gi_wp2
          go_roundw
          case rel => exact ⟨k + 1, hlt, by simp [hw64], by rw [prePs_take hlt]; simpa using hJ4, (hKk.alloc _).trans hK4⟩
          case measure => simp [intOf, hw64]; omega
        · gi_wp2
          go_ret
          refine .inr ⟨rfl, p :: prePs (p.kids.take k) ++ q, ?_, by simpa using hJ4, (hKk.alloc _).trans hK4⟩
          rw [preP_eq, prePs_split p.kids k, List.drop_eq_getElem_cons hlt]
          obtain ⟨r, hr⟩ := hq
          exact ⟨r ++ prePs (p.kids.drop (k + 1)), by simp [prePs, ← hr]⟩
      · obtain rfl : k = p.kids.length := by omega
        gi_wp2
        go_ret
        exact .inl ⟨rfl, by rw [preP_eq]; simpa using hJk, hKk⟩
  · gi_wp2
    go_ret
    exact .inr ⟨rfl, [p], ⟨prePs p.kids, by rw [preP_eq]; rfl⟩, hJ3, ((KeepX.refl X W).alloc _).trans hK3⟩
end Go.Proofs.YtlglfkdjlbcpjaaGreatDoor
end

section
set_option linter.unusedVariables false
set_option linter.unusedSimpArgs false
set_option linter.unusedSectionVars false
namespace Go.Proofs.YtlglfkdjlbcpjaaGreatDoor
open Go Go.VM Go.RowKit Go.Shelf
set_option maxRecDepth 100000
set_option maxHeartbeats 4000000
attribute [local go_sem] Oper.semAt_some
theorem glob_keep {G : GT} {R : Nat → Nat → Prop} {w0 w : World} (h : Glob G (From w0.heap.size) R w0) (hs : w0.heap.size ≤ w.heap.size) (hR : ∀ b o, R b o → b < w0.heap.size) (hb : ∀ k, k < w0.heap.size → w.heap[k]? = w0.heap[k]?) : Glob G (From w.heap.size) R w := by
  intro g cs hg
  obtain ⟨h1, h2, arr, T, fr, h3, h4⟩ := h g cs hg
  have hl : g < w0.heap.size := by simpa [From] using h2
  have hc : ∀ b o, R b o → w.cell? ⟨b, o, none⟩ = w0.cell? ⟨b, o, none⟩ := fun b o hbo => by
    unfold World.cell?
    rw [hb b (hR b o hbo)]
  refine ⟨fun j d hj => ?_, by simp only [From]; omega, arr, T, fr, (hb g hl).trans h3, h4⟩
  obtain ⟨a1, a2, v, a3, a4⟩ := h1 j d hj
  exact ⟨a1, a2, v, (hc _ _ a2).trans a3, a4.step (fun _ _ h => h) hc⟩
theorem KeepX.of_step {R R' : Nat → Nat → Prop} {w w' : World} (h : Step (From w.heap.size) R w R' w') : KeepX NoX w w' :=
  ⟨h.below.os, h.below.tape, h.below.output, h.below.size, fun k hk _ => h.below.block k (by simp only [From]; omega)⟩
/-- A contract that gives a number, for a call within a round. -/
theorem cs_wide {P : Program} {G : GT} {f : FuncId} {ds : List D} {k : IntKind} {z : Int} {own : Option TypeId} (h : CS P G f ds (.d (.int k z)) own) {w : World} {R : Nat → Nat → Prop} {args : Array Value} (m : Nat) (hg : Glob G (From w.heap.size) R w) (hR : ∀ b o, R b o → b < w.heap.size) (hs : args.size = ds.length)
    (hv : ∀ (i : Nat) (d : D), ds[i]? = some d → V R w (args.getD i undef) d) : CallsIn Fence.wide m P f args w fun e w' => e = .returned (.int k z) ∧ KeepX NoX w w' :=
  callsIn_wide.2 ((h w R args hg hR hs hv).mono fun e w' ⟨v, R', he, hv', hst, _, _⟩ => by
    cases hv' id with
    | d v x hvx =>
      cases hvx
      exact ⟨he, KeepX.of_step hst⟩)
theorem KeepX.weaken {X Y : Nat → Prop} {A B : World} (h : KeepX X A B) (hXY : ∀ k, X k → Y k) : KeepX Y A B := ⟨h.os, h.tape, h.output, h.size, fun k hk hy => h.block k hk fun hx => hy (hXY k hx)⟩
theorem KeepX.putObj {X : Nat → Prop} (A : World) {l : Nat} (hl : X l) (o : Obj) : KeepX X A (A.putObj l o) := ⟨rfl, rfl, rfl, by simp, fun k _ hx => World.putObj_heap_other fun e => hx (e ▸ hl)⟩
theorem keep_new {X : Nat → Prop} {A B : World} (h : KeepX X A B) (hX : ∀ k, X k → A.heap.size ≤ k) : KeepX NoX A B := ⟨h.os, h.tape, h.output, h.size, fun k hk _ => h.block k hk fun hx => by have := hX k hx; omega⟩
theorem before1_in (L : List Pr) (l : Nat) (X : Nat → Prop) (R : Nat → Nat → Prop) (w0 : World) (hX : ∀ b o, R b o → ¬ X b) (hR : ∀ b o, R b o → b < w0.heap.size) (hX2 : ∀ k, X k → k < w0.heap.size)
    (J Jx : List Pr → World → Prop) (hJ : ∀ s A B, J s A → KeepX NoX A B → J s B) (hY : Yields Tryz.prog L l X R w0 J Jx) (p : Pr) (n : Nat) (c0 c1 c2 c3 : Value) (W : World) (bx : Nat) (hbx : W.heap[bx]? = some (.cells #[c0, c1, c2, c3] 25 (0, 0)))
    (hN : nodP p ≤ 1000000) (hL : preP p = L) (hv : V R w0 (.agg #[c0, c1, c2, c3]) (.agg (prC p))) (hW : KeepX X w0 W) (hJ0 : J [] W) :
    CallsIn Fence.wide n Tryz.prog 79 #[.func (.yield l) #[] #[], .pointer (some ⟨bx, 0, none⟩)] W fun e W' =>
        ∃ v, e = .returned v ∧ ((J L W' ∧ KeepX X W W') ∨ ∃ q, q <+: L ∧ Jx q W' ∧ KeepX X W W') := by
  have hvis := visit_in L l X R w0 hX hR hX2 J Jx hJ hY p (n - 1) _ [] W hN (by rw [List.nil_append, hL]; exact List.prefix_rfl) hv hW hJ0
  obtain ⟨ao, cap, nm, he, _⟩ := V_pr hv
  simp only [Value.agg.injEq, Array.mk.injEq, List.cons.injEq, and_true] at he
  obtain ⟨rfl, rfl, rfl, rfl⟩ := he
  have e0 : W.cell? ⟨bx, 0, none⟩ = some (.int .i64 p.op) := by unfold World.cell?; rw [hbx]; rfl
  have e1 : W.cell? ⟨bx, 1, none⟩ = some (.string nm) := by unfold World.cell?; rw [hbx]; rfl
  have e2 : W.cell? ⟨bx, 2, none⟩ = some (.int .i64 p.n) := by unfold World.cell?; rw [hbx]; rfl
  have e3 : W.cell? ⟨bx, 3, none⟩ = some (.slice ao p.kids.length cap) := by unfold World.cell?; rw [hbx]; rfl
  refine callsIn_of_wp Tryz.func79 rfl trivial ?_ rfl
  simp only [Tryz.ntmps79, List.size_toArray, List.length_cons, List.length_nil, Nat.reduceAdd, Nat.reduceSub, Array.replicate_succ, Array.replicate_zero, List.push_toArray, List.append_toArray, List.nil_append, List.cons_append]
  gi_wp2
  refine ⟨trivial, fun h => (by cases h), hvis.mono ?_⟩
  rintro e W4 (⟨rfl, hJ4, hK4⟩ | ⟨rfl, q, hq, hJ4, hK4⟩)
  · gi_wp2
    first | go_ret | go_ret2 | go_end0
    rw [hL] at hJ4
    exact ⟨_, rfl, .inl ⟨hJ4, hK4⟩⟩
  · gi_wp2
    first | go_ret | go_ret2 | go_end0
    rw [hL] at hq
    exact ⟨_, rfl, .inr ⟨q, hq, hJ4, hK4⟩⟩
theorem before_in (n : Nat) (c0 c1 c2 c3 : Value) (W : World) : CallsIn Fence.wide n Tryz.prog 47 #[.agg #[c0, c1, c2, c3]] W fun e W' => e = .returned (.func (.func 79) #[] #[.pointer (some ⟨W.heap.size, 0, none⟩)]) ∧ W' = W.alloc (.cells #[c0, c1, c2, c3] 25) := by
  refine callsIn_of_wp Tryz.func47 rfl trivial ?_ rfl
  simp only [Tryz.ntmps47, List.size_toArray, List.length_cons, List.length_nil, Nat.reduceAdd, Nat.reduceSub, Array.replicate_succ, Array.replicate_zero, List.push_toArray, List.append_toArray, List.nil_append, List.cons_append]
  gi_wp2
  first | go_ret | go_ret2 | go_end0
  exact ⟨rfl, rfl⟩
theorem wp_range (n : Nat) {g : Operand} {ps : Array Tmp} {assign body : Code} {Q : Exit → Act → World → Prop} {a : Act} {W : World} {bx : Nat} {c0 c1 c2 c3 : Value} (hg : a.eval g = .func (.func 79) #[] #[.pointer (some ⟨bx, 0, none⟩)])
    (hbx : W.heap[bx]? = some (.cells #[c0, c1, c2, c3] 25 (0, 0))) (hps : ps.size = 1) {R : Nat → Nat → Prop} {p : Pr} (hv : V R W (.agg #[c0, c1, c2, c3]) (.agg (prC p))) (hN : nodP p ≤ 1000000) (hR : ∀ b o, R b o → b < W.heap.size)
    (b1 : Nat) (hb1 : b1 < W.heap.size) (hRb : ∀ b o, R b o → b ≠ b1) (hbb : bx ≠ b1)
    (I Ix : List Pr → World → Prop) (hI : ∀ s A B, I s A → (∀ k, k < W.heap.size → B.heap[k]? = A.heap[k]?) → I s B) (hIx : ∀ s A B, Ix s A → (∀ k, k < W.heap.size → B.heap[k]? = A.heap[k]?) → Ix s B) (h0 : I [] W)
    (hround : ∀ (m l : Nat) (pre : List Pr) (q : Pr) (vq : Value) (W1 : World), W.heap.size ≤ l → l < W1.heap.size → pre ++ [q] <+: preP p → V R W vq (.agg (prC q)) → KeepX (fun k => k = b1) W W1 → I pre W1 →
      assign.wpIn (Fence.wide.inRound l) m Tryz.prog (Exit.then (fun a₁ w₁ => KeepX NoX W1 w₁ ∧ ∀ w2, KeepX (fun k => k = l) w₁ w2 → body.wpIn (Fence.wide.inRound l) m Tryz.prog (fun e _ w3 => match e with
        | .normal => KeepX (fun k => k = b1) w2 w3 ∧ I (pre ++ [q]) w3
        | .ret => KeepX (fun k => k = b1) w2 w3 ∧ Ix (pre ++ [q]) w3
        | _ => False) a₁ w2) (fun _ _ _ => False)) { tmps := (ps.zip #[vq]).foldl (fun t (p, v) => t.setIfInBounds p v) a.tmps, defers := [] } W1)
    (hdone : ∀ (D : Nat) (W' : World), W.heap.size ≤ D → I (preP p) W' → KeepX (fun k => k = b1) W W' → W'.heap[D]? = some (.deferred (some [])) → Q .normal { a with defers := { target := .collected D, args := #[] } :: a.defers } W')
    (hstop : ∀ (D : Nat) (pre : List Pr) (W' : World), W.heap.size ≤ D → pre <+: preP p → Ix pre W' → KeepX (fun k => k = b1) W W' → W'.heap[D]? = some (.deferred (some [])) → Q .ret { a with defers := { target := .collected D, args := #[] } :: a.defers } W') :
    (Code.rangeFunc g ps assign body).wpIn Fence.wide n Tryz.prog Q a W := by
  refine wpIn_rangeFunc ?_
  intro fn hfn
  rw [show Fence.wide.round = none from rfl]
  obtain ⟨rec, hrec⟩ : ∃ rec : LoopState → Option Code → Loop, rec = fun st pe => { state := st, pending := pe, fn, tmps := a.tmps, params := ps, assign, body, defers := W.heap.size } := ⟨_, rfl⟩
  obtain ⟨W1, hW1⟩ : ∃ W1, (W.alloc (.deferred (some []))).alloc (.loop (rec .ready none)) = W1 := ⟨_, rfl⟩
  have hL1 : W1.heap[W.heap.size + 1]? = some (.loop (rec .ready none)) := by
    rw [← hW1]; have := World.alloc_heap_new (W.alloc (.deferred (some []))) (.loop (rec .ready none)); rwa [World.size_alloc] at this
  have hD1 : W1.heap[W.heap.size]? = some (.deferred (some [])) := by
    rw [← hW1]; exact (Below.heap_alloc _ _ _ (by simp)).trans (World.alloc_heap_new W _)
  have hK1 : KeepX NoX W W1 := by rw [← hW1]; exact ((KeepX.refl _ _).alloc _).alloc _
  have hs1 : W1.heap.size = W.heap.size + 2 := by rw [← hW1]; simp
  have hI1 : I [] W1 := hI _ _ _ h0 fun k hk => hK1.block k hk id
  have hv1 : V R W1 (.agg #[c0, c1, c2, c3]) (.agg (prC p)) := hv.step (fun _ _ h => h) fun b o hbo => hK1.cell (hR b o hbo) id
  have hfin : ∀ {A : World}, KeepX (fun k => k = W.heap.size + 1 ∨ k = b1) W1 A → KeepX (fun k => k = b1) W A := fun h =>
    ⟨h.os.trans hK1.os, h.tape.trans hK1.tape, h.output.trans hK1.output, Nat.le_trans hK1.size h.size, fun k hk hx => (h.block k (by omega) (by rintro (e | e); (· omega); exact hx e)).trans (hK1.block k hk id)⟩
  refine ⟨W.heap.size + 1, [{ target := .collected W.heap.size, args := #[] }], W1, { target := .fn (.func 79) #[.pointer (some ⟨bx, 0, none⟩)], args := #[.func (.yield (W.heap.size + 1)) #[] #[]] }, W1, 79,
    #[.func (.yield (W.heap.size + 1)) #[] #[], .pointer (some ⟨bx, 0, none⟩)], W1, ?_, ?_, ?_, ?_, fun h => (by cases h), ?_⟩
  · rw [← hW1, hrec]; exact run_enterLoop_outer _ _ _ _ _
  · simp only [resolve, hg]
    simp [go_sem]
  · exact fun f' _ => trivial
  · simp [invoke, go_sem, enters_of Tryz.func79 (by kernel_rfl) rfl]
  · refine (before1_in (preP p) (W.heap.size + 1) (fun k => k = W.heap.size + 1 ∨ k = b1) R W1 (fun b o hbo => by rintro (e | e); (· have := hR b o hbo; omega); exact hRb b o hbo e) (fun b o hbo => by have := hR b o hbo; omega) (fun k hk => by rcases hk with e | e <;> omega)
      (fun pre A => I pre A ∧ A.heap[W.heap.size + 1]? = some (.loop (rec .ready none)) ∧ A.heap[W.heap.size]? = some (.deferred (some [])))
      (fun pre A => Ix pre A ∧ A.heap[W.heap.size + 1]? = some (.loop (rec .done (some .ret))) ∧ A.heap[W.heap.size]? = some (.deferred (some [])))
      ?hj ?hy p _ c0 c1 c2 c3 W1 bx ((hK1.block _ (Array.getElem?_eq_some_iff.1 hbx).1 id).trans hbx) hN rfl hv1 (KeepX.refl _ _) ⟨hI1, hL1, hD1⟩).mono ?_
    case hj =>
      rintro s A B ⟨hi, hl, hd⟩ hk
      have hlt : W.heap.size + 1 < A.heap.size := (Array.getElem?_eq_some_iff.1 hl).1
      exact ⟨hI _ _ _ hi fun k hk' => hk.block k (by omega) id, (hk.block _ hlt id).trans hl, (hk.block _ (by omega) id).trans hd⟩
    case hy =>
      rintro m pre vq q A hpre hvq hKA ⟨hi, hl, hd⟩
      have hlt : W.heap.size + 1 < A.heap.size := (Array.getElem?_eq_some_iff.1 hl).1
      have hy := run_yield (P := Tryz.prog) (args := #[vq]) hl (by rw [hrec]; exact hps.symm)
      rw [hrec] at hy
      refine ⟨fn, _, assign, body, hy, roundIn_of_wpIn hfn ?_⟩
      clear hy
      have hvW : V R W vq (.agg (prC q)) := hvq.step (fun _ _ h => h) fun b o hbo => (hK1.cell (hR b o hbo) id).symm
      refine wpIn_mono (hround m (W.heap.size + 1) pre q vq A (by omega) hlt hpre hvW (hfin hKA) hi) ?_
      rintro e a1 w1 hq
      cases e with
      | normal =>
        obtain ⟨hka, hbody⟩ := hq
        have hl1 := (hka.block _ hlt id).trans hl
        refine ⟨_, run_beginRound hl1 (by rw [hrec]), ?_⟩
        have hkb : KeepX (fun k => k = W.heap.size + 1) w1 (w1.putObj (W.heap.size + 1) (.loop { rec .ready none with state := .busy })) := KeepX.putObj (X := fun k => k = W.heap.size + 1) _ rfl _
        have hl2 : (w1.putObj (W.heap.size + 1) (.loop { rec .ready none with state := .busy })).heap[W.heap.size + 1]? = some (.loop { rec .ready none with state := .busy }) := World.putObj_heap_same (Array.getElem?_eq_some_iff.1 hl1).1
        have hsz := hka.size
        refine wpIn_mono (hbody _ hkb) ?_
        have fin : ∀ (jump : Option Code) (w3 : World), KeepX (fun k => k = b1) (w1.putObj (W.heap.size + 1) (.loop { rec .ready none with state := .busy })) w3 →
            (Instr.endRound (W.heap.size + 1) jump).run Tryz.prog w3 = .ok (.bool jump.isNone) (w3.putObj (W.heap.size + 1) (.loop (rec (if jump.isNone then .ready else .done) jump))) ∧
            (w3.putObj (W.heap.size + 1) (.loop (rec (if jump.isNone then .ready else .done) jump))).heap[W.heap.size + 1]? = some (.loop (rec (if jump.isNone then .ready else .done) jump)) ∧
            (w3.putObj (W.heap.size + 1) (.loop (rec (if jump.isNone then .ready else .done) jump))).heap[W.heap.size]? = some (.deferred (some [])) ∧
            KeepX (fun k => k = W.heap.size + 1 ∨ k = b1) A (w3.putObj (W.heap.size + 1) (.loop (rec (if jump.isNone then .ready else .done) jump))) := fun jump w3 hk3 => by
          have hl3 := (hk3.block _ (by simp; omega) (by omega)).trans hl2
          have := run_endRound (P := Tryz.prog) jump hl3
          rw [hrec] at this ⊢
          refine ⟨this, World.putObj_heap_same (Array.getElem?_eq_some_iff.1 hl3).1, ?_, ?_⟩
          · refine (World.putObj_heap_other (by omega)).trans ((hk3.block _ (by simp; omega) (by omega)).trans ?_)
            exact (World.putObj_heap_other (by omega)).trans ((hka.block _ (by omega) id).trans hd)
          · exact (hka.weaken fun _ h => h.elim).trans ((hkb.weaken fun _ h => .inl h).trans ((hk3.weaken fun _ h => .inr h).trans (KeepX.putObj _ (.inl rfl) _)))
        rintro e a3 w3 hp
        cases e with
        | normal =>
          obtain ⟨hk3, hi3⟩ := hp
          obtain ⟨h1, h2, h3, h4⟩ := fin none w3 hk3
          exact ⟨_, _, h1, .inl ⟨rfl, ⟨hI _ _ _ hi3 fun k hk => World.putObj_heap_other (by omega), h2, h3⟩, h4⟩⟩
        | ret =>
          obtain ⟨hk3, hi3⟩ := hp
          obtain ⟨h1, h2, h3, h4⟩ := fin (some .ret) w3 hk3
          exact ⟨_, _, h1, .inr ⟨rfl, ⟨hIx _ _ _ hi3 fun k hk => World.putObj_heap_other (by omega), h2, h3⟩, h4⟩⟩
        | exit id => exact hp.elim
        | goto t => exact hp.elim
        | panic ch => exact hp.elim
        | outgrown => exact hp.elim
      | ret => exact hq.elim
      | exit id => exact hq.elim
      | goto t => exact hq.elim
      | panic ch => exact hq.elim
      | outgrown => exact hq.elim
    · rintro e W2 ⟨v, rfl, (⟨⟨hi, hl, hd⟩, hK⟩ | ⟨pre, hpre, ⟨hi, hl, hd⟩, hK⟩)⟩
      · refine ⟨none, _, by have := run_endLoop (P := Tryz.prog) hl (by rw [hrec]; simp); rw [hrec] at this; exact this, ?_⟩
        exact hdone _ _ (Nat.le_refl _) (hI _ _ _ hi fun k hk => World.putObj_heap_other (by omega)) (hfin (hK.trans (KeepX.putObj _ (.inl rfl) _))) ((World.putObj_heap_other (by omega)).trans hd)
      · refine ⟨some .ret, _, by have := run_endLoop (P := Tryz.prog) hl (by rw [hrec]; simp); rw [hrec] at this; exact this, ?_⟩
        exact wpIn_ret (hstop _ pre _ (Nat.le_refl _) hpre (hIx _ _ _ hi fun k hk => World.putObj_heap_other (by omega)) (hfin (hK.trans (KeepX.putObj _ (.inl rfl) _))) ((World.putObj_heap_other (by omega)).trans hd))
theorem box_at {W : World} {b : Nat} {v : Value} {T : TypeId} (h : W.heap[b]? = some (.cells #[v] T (0, 0))) : W.cell? ⟨b, 0, none⟩ = some v ∧ W.frozen? ⟨b, 0, none⟩ = false := by
  unfold World.cell? World.frozen?
  rw [h]
  simp
theorem row_at {W : World} {b : Nat} {cs : Array Value} {T : TypeId} (h : W.heap[b]? = some (.cells cs T (0, 0))) (j : Nat) (v : Value) (hj : cs[j]? = some v) : W.cell? ⟨b, j, none⟩ = some v := by
  unfold World.cell?
  rw [h]
  simp [hj]
theorem set_at {W : World} {b : Nat} {v : Value} {T : TypeId} (h : W.heap[b]? = some (.cells #[v] T (0, 0))) (u : Value) : (W.setCell ⟨b, 0, none⟩ u).heap[b]? = some (.cells #[u] T (0, 0)) := by
  obtain ⟨hlt, hh⟩ := Array.getElem?_eq_some_iff.1 h
  show (W.heap.modify b _)[b]? = _
  rw [Array.getElem?_eq_getElem (by rw [Array.size_modify]; exact hlt), Array.getElem_modify_self, hh]
  simp
theorem KeepX.set {X : Nat → Prop} (A : World) {b : Nat} (hl : X b) (u : Value) : KeepX X A (A.setCell ⟨b, 0, none⟩ u) := ⟨rfl, rfl, rfl, by show A.heap.size ≤ (A.heap.modify _ _).size; rw [Array.size_modify]; exact Nat.le_refl _, fun k _ hx => Below.heap_setCell A ⟨b, 0, none⟩ u k fun e => hx (by rw [show k = b from e]; exact hl)⟩
/-- The first error of the nodes. -/
def firstE (e : Pr → Int) : List Pr → Int
  | [] => 0
  | p :: r => if e p = 0 then firstE e r else e p
theorem firstE_zero {e : Pr → Int} : ∀ {l : List Pr}, (∀ q ∈ l, e q = 0) → firstE e l = 0
  | [], _ => rfl
  | p :: r, h => by
    rw [firstE, if_pos (h p (by simp))]
    exact firstE_zero fun q hq => h q (by simp [hq])
theorem firstE_at {e : Pr → Int} {p : Pr} : ∀ {l r : List Pr}, (∀ q ∈ l, e q = 0) → e p ≠ 0 → firstE e (l ++ p :: r) = e p
  | [], r, _, hp => by simp [firstE, hp]
  | q :: l, r, h, hp => by
    rw [List.cons_append, firstE, if_pos (h q (by simp))]
    exact firstE_at (fun q hq => h q (by simp [hq])) hp
def chkP (e : Pr → Int) (p : Pr) : Int := if 400 < nodP p then 7 else if 40 < depP p then 8 else firstE e (preP p)
theorem pred_Check_of {G : GT} (e : Pr → Int) (p : Pr) (hN : nodP p ≤ 1000000) (hNod : CS Tryz.prog G 45 [.agg (prC p)] (.d (.int .i64 (nodP p))) none) (hDep : CS Tryz.prog G 46 [.agg (prC p)] (.d (.int .i64 (depP p))) none)
    (hnode : ∀ q ∈ preP p, CS Tryz.prog G 48 [.agg (prC q)] (.d (.int .i64 (e q))) none) : CS Tryz.prog G 23 [.agg (prC p)] (.d (.int .i64 (chkP e p))) none := by
  refine CS.ofLib fun w R args hg hR hs hv => ?_
  have ha : args = #[args.getD 0 undef] := by
    obtain ⟨l⟩ := args
    match l, hs with
    | [a], _ => rfl
  have hv0 := hv 0 _ rfl
  rw [ha]
  generalize args.getD 0 undef = v at hv0
  clear hv ha hs args
  obtain ⟨ao, cap, nm, rfl, hk⟩ := V_pr hv0
  refine (callsIn_wide (n := 10)).1 (callsIn_of_wp_marks Tryz.func23 rfl trivial ?_ rfl)
  simp only [Tryz.ntmps23, List.size_toArray, List.length_cons, List.length_nil, Nat.reduceAdd, Nat.reduceSub, Array.replicate_succ, Array.replicate_zero, List.push_toArray, List.append_toArray, List.nil_append, List.cons_append]
  have hcall : ∀ {f : FuncId} {z : Int} (m : Nat) (q : Pr) (vq : Value) (W : World), CS Tryz.prog G f [.agg (prC q)] (.d (.int .i64 z)) none → V R w vq (.agg (prC q)) → KeepX NoX w W →
      CallsIn Fence.wide m Tryz.prog f #[vq] W fun e w' => e = .returned (.int .i64 z) ∧ KeepX NoX W w' := fun m q vq W hc hvq hW => by
    refine cs_wide hc (R := R) m (glob_keep hg hW.size hR fun k hk => hW.block k hk id) (fun b o hbo => Nat.lt_of_lt_of_le (hR b o hbo) hW.size) rfl fun i d hd => ?_
    match i, hd with
    | 0, hd =>
      cases hd
      exact hvq.step (fun _ _ h => h) fun b o hbo => hW.cell (hR b o hbo) id
  gi_wp2
  obtain ⟨W2, hW2⟩ : ∃ W2, (w.alloc (.cells #[.int .i64 p.op, .string nm, .int .i64 p.n, .slice ao p.kids.length cap] 25)).alloc (.cells #[.int .i64 0] 28) = W2 := ⟨_, rfl⟩
  have hK2 : KeepX NoX w W2 := by rw [← hW2]; exact ((KeepX.refl _ _).alloc _).alloc _
  have hs2 : W2.heap.size = w.heap.size + 2 := by rw [← hW2]; simp
  have hB2 : W2.heap[w.heap.size + 1]? = some (.cells #[.int .i64 0] 28 (0, 0)) := by
    rw [← hW2]; have := World.alloc_heap_new (w.alloc (.cells #[.int .i64 p.op, .string nm, .int .i64 p.n, .slice ao p.kids.length cap] 25)) (.cells #[.int .i64 0] 28); rwa [World.size_alloc] at this
  have hA2 : W2.heap[w.heap.size]? = some (.cells #[.int .i64 p.op, .string nm, .int .i64 p.n, .slice ao p.kids.length cap] 25 (0, 0)) := by
    rw [← hW2]; exact (Below.heap_alloc _ _ _ (by simp)).trans (World.alloc_heap_new w _)
  rw [hW2]
  refine ⟨trivial, (hcall _ p _ _ hNod hv0 hK2).mono ?_⟩
  rintro _ W3 ⟨rfl, hK3⟩
  have hB3 := (hK3.block _ (by omega) id).trans hB2
  have hA3 := (hK3.block _ (by omega) id).trans hA2
  have hs3 := hK3.size
  obtain ⟨hc3, hf3⟩ := box_at hB3
  have q0 := (row_at hA3 0 _ rfl)
  have q1 := (row_at hA3 1 _ rfl)
  have q2 := (row_at hA3 2 _ rfl)
  have q3 := (row_at hA3 3 _ rfl)
  have fin : ∀ {W : World} {z : Int} {K : World}, K.heap[w.heap.size + 1]? = some (.cells #[.int .i64 z] 28 (0, 0)) → KeepX NoX w W → z = chkP e p → ∃ v, Ending.returned (.int .i64 z) = .returned v ∧ V R W v (.int .i64 (chkP e p)) ∧ Below w.heap.size w W := fun h hk hz => ⟨_, rfl, hz ▸ .int _ _, ⟨hk.os, hk.tape, hk.output, hk.size, fun k h' => hk.block k h' id⟩⟩
  by_cases h1 : 400 < nodP p
  · gi_wp2
    have hS := set_at hB3 (.int .i64 7)
    have hc := (box_at hS).1
    exact ⟨_, by simp [results, Tryz.f23, go_sem, hc], fin hS (keep_new (((hK2.trans hK3).weaken fun _ h => h.elim).trans (KeepX.set (X := fun k => k = w.heap.size + 1) _ rfl _)) (by intro k hk; omega)) (by simp [chkP, h1])⟩
  · gi_wp2
    refine ⟨trivial, (hcall _ p _ _ hDep hv0 (hK2.trans hK3)).mono ?_⟩
    rintro _ W4 ⟨rfl, hK4⟩
    have hs4 := hK4.size
    have hB4 := (hK4.block _ (by omega) id).trans hB3
    have hA4 := (hK4.block _ (by omega) id).trans hA3
    obtain ⟨hc4, hf4⟩ := box_at hB4
    have r0 := (row_at hA4 0 _ rfl)
    have r1 := (row_at hA4 1 _ rfl)
    have r2 := (row_at hA4 2 _ rfl)
    have r3 := (row_at hA4 3 _ rfl)
    have hKw4 := (hK2.trans hK3).trans hK4
    by_cases h2 : 40 < depP p
    · gi_wp2
      have hS := set_at hB4 (.int .i64 8)
      have hc := (box_at hS).1
      exact ⟨_, by simp [results, Tryz.f23, go_sem, hc], fin hS (keep_new ((hKw4.weaken fun _ h => h.elim).trans (KeepX.set (X := fun k => k = w.heap.size + 1) _ rfl _)) (by intro k hk; omega)) (by simp [chkP, h1, h2])⟩
    · gi_wp2
      refine ⟨trivial, (before_in _ _ _ _ _ _).mono ?_⟩
      rintro _ W5 ⟨rfl, rfl⟩
      gi_wp2
      obtain ⟨W5, hW5⟩ : ∃ W5, W4.alloc (.cells #[.int .i64 p.op, .string nm, .int .i64 p.n, .slice ao p.kids.length cap] 25) = W5 := ⟨_, rfl⟩
      have hK5 : KeepX NoX W4 W5 := by rw [← hW5]; exact (KeepX.refl _ _).alloc _
      have hB5 := (hK5.block _ (by omega) id).trans hB4
      have hA5 : W5.heap[W4.heap.size]? = some (.cells #[.int .i64 p.op, .string nm, .int .i64 p.n, .slice ao p.kids.length cap] 25 (0, 0)) := by rw [← hW5]; exact World.alloc_heap_new _ _
      have hs5 : W5.heap.size = W4.heap.size + 1 := by rw [← hW5]; simp
      have hKw5 := hKw4.trans hK5
      rw [hW5]
      refine wp_range 10 (W := W5) (R := R) (p := p) rfl hA5 rfl (hv0.step (fun _ _ h => h) fun b o hbo => hKw5.cell (hR b o hbo) id) hN (fun b o hbo => by have := hR b o hbo; omega) (w.heap.size + 1) (by omega) (fun b o hbo => by have := hR b o hbo; omega) (by omega)
        (fun pre A => A.heap[w.heap.size + 1]? = some (.cells #[.int .i64 0] 28 (0, 0)) ∧ ∀ q ∈ pre, e q = 0)
        (fun pre A => ∃ pre' q, pre = pre' ++ [q] ∧ (∀ x ∈ pre', e x = 0) ∧ e q ≠ 0 ∧ A.heap[w.heap.size + 1]? = some (.cells #[.int .i64 (e q)] 28 (0, 0)))
        (fun s A B h hk => ⟨(hk _ (by omega)).trans h.1, h.2⟩) (fun s A B ⟨pre', q, h1, h2, h3, h4⟩ hk => ⟨pre', q, h1, h2, h3, (hk _ (by omega)).trans h4⟩) ⟨hB5, by simp⟩ ?hround ?hdone ?hstop
      case hround =>
        rintro m l pre q vq W6 hl hl6 hpre hvq hK6 ⟨hB6, hz⟩
        obtain ⟨ao2, cap2, nm2, rfl, _⟩ := V_pr hvq
        have hqm : q ∈ preP p := hpre.subset (by simp)
        have hvw : V R w _ (.agg (prC q)) := hvq.step (fun _ _ h => h) fun b o hbo => (hKw5.cell (hR b o hbo) id).symm
        gi_wp2
        refine ⟨(KeepX.refl _ _).alloc _, fun w2 hk2 => ?_⟩
        have hA7 := (hk2.block W6.heap.size (by simp) (by omega)).trans (World.alloc_heap_new _ _)
        have hs6 := hK6.size
        have hB7 := ((hk2.block (w.heap.size + 1) (by simp; omega) (by omega)).trans (Below.heap_alloc _ _ _ (by omega))).trans hB6
        have hs7 := hk2.size
        simp only [World.size_alloc] at hs7
        have hKw7 : KeepX NoX w w2 := keep_new (X := fun k => k = w.heap.size + 1 ∨ k = l) ((hKw5.weaken fun _ h => h.elim).trans ((hK6.weaken fun _ h => .inl h).trans (((KeepX.refl _ _).alloc _).trans (hk2.weaken fun _ h => .inr h)))) (by rintro k (hk | hk) <;> omega)
        have t0 := (row_at hA7 0 _ rfl)
        have t1 := (row_at hA7 1 _ rfl)
        have t2 := (row_at hA7 2 _ rfl)
        have t3 := (row_at hA7 3 _ rfl)
        gi_wp2
        refine ⟨trivial, fun h => (by cases h), (CallsIn.inRound l (hcall _ q _ _ (hnode q hqm) hvw hKw7)).mono ?_⟩
        rintro _ W8 ⟨rfl, hK8⟩
        have hB8 := (hK8.block _ (by omega) id).trans hB7
        obtain ⟨hc8, hf8⟩ := box_at hB8
        by_cases he : e q = 0
        · gi_wp2
          have hall : ∀ x, x ∈ pre ∨ x = q → e x = 0 := fun x hx => hx.elim (hz x) fun hx => by subst hx; exact he
          first | exact hall | exact ⟨hK8.up, hall⟩ | exact ⟨hK8.up, hB8, hall⟩
        · gi_wp2
          have hS := set_at hB8 (.int .i64 (e q))
          exact ⟨hK8.up.trans (KeepX.set (X := fun k => k = w.heap.size + 1) _ rfl _), pre, q, ⟨rfl, rfl⟩, hz, he, hS⟩
      case hdone =>
        rintro D W' hD ⟨hB', hz⟩ hK' hD'
        obtain ⟨hc', hf'⟩ := box_at hB'
        gi_wp2
        have hS := set_at hB' (.int .i64 0)
        have hDs := ((KeepX.set (X := fun k => k = w.heap.size + 1) W' rfl (.int .i64 0)).block D (Array.getElem?_eq_some_iff.1 hD').1 (by omega)).trans hD'
        refine ⟨by simp, .inl ⟨_, _, rfl, run_takeDeferred hDs, ?_⟩⟩
        have hS2 := (World.putObj_heap_other (r := D) (o := .deferred none) (show w.heap.size + 1 ≠ D by omega)).trans hS
        have hc := (box_at hS2).1
        exact ⟨_, by simp [results, Tryz.f23, go_sem, hc], fin hS2 (keep_new (X := fun k => k = w.heap.size + 1 ∨ k = D) ((hKw5.weaken fun _ h => h.elim).trans ((hK'.weaken fun _ h => .inl h).trans ((KeepX.set (X := fun k => k = w.heap.size + 1 ∨ k = D) _ (.inl rfl) _).trans (KeepX.putObj _ (.inr rfl) _)))) (by rintro k (hk | hk) <;> omega)) (by simp [chkP, h1, h2, firstE_zero hz])⟩
      case hstop =>
        rintro D pre W' hD hpre ⟨pre', q, rfl, hz, hq, hB'⟩ hK' hD'
        gi_wp2
        refine ⟨by simp, .inl ⟨_, _, rfl, run_takeDeferred hD', ?_⟩⟩
        have hS2 := (World.putObj_heap_other (r := D) (o := .deferred none) (show w.heap.size + 1 ≠ D by omega)).trans hB'
        have hc := (box_at hS2).1
        have hfe : firstE e (preP p) = e q := by
          obtain ⟨r, hr⟩ := hpre
          rw [← hr, List.append_assoc]
          exact firstE_at hz hq
        exact ⟨_, by simp [results, Tryz.f23, go_sem, hc], fin hS2 (keep_new (X := fun k => k = w.heap.size + 1 ∨ k = D) ((hKw5.weaken fun _ h => h.elim).trans ((hK'.weaken fun _ h => .inl h).trans (KeepX.putObj _ (.inr rfl) _))) (by rintro k (hk | hk) <;> omega)) (by simp [chkP, h1, h2, hfe])⟩
end Go.Proofs.YtlglfkdjlbcpjaaGreatDoor
end

section
set_option linter.unusedVariables false
set_option linter.unusedSimpArgs false
set_option linter.unusedSectionVars false
namespace Go.Proofs.YtlglfkdjlbcpjaaGreatDoor
open Go Go.VM
set_option maxRecDepth 100000
set_option maxHeartbeats 8000000
variable {G : GT}
/-- A call where the order is fixed, of a function that gives a closure. -/
theorem callK_clo {P : Program} {ro qn : Bool} {ls : List (Option VM.Loc)} {f : FuncId} {ds : List D} {r : DV} {own : Option TypeId} {dst : Option Tmp} {all : Array Oper} {rest : List Oper} {k : List KI} {st : St} {Q : Exit → St → Prop} (he : VM.Enters P f) (hc : CS P G f ds r own)
    (h : VK P G (.ops false all rest :: k) .normal (finish st dst r (if qn then .no else ownOA own)) Q) : callK P G false ro qn f ds ls dst all rest k st Q := by
  unfold callK
  exact .inl ⟨r, own, ⟨he, hc⟩, fun h => (by cases h), h⟩
end Go.Proofs.YtlglfkdjlbcpjaaGreatDoor
end

section
set_option linter.unusedVariables false
set_option linter.unusedSimpArgs false
set_option linter.unusedSectionVars false
namespace Go.Proofs.YtlglfkdjlbcpjaaGreatDoor
open Go Go.VM
set_option maxRecDepth 100000
set_option maxHeartbeats 8000000
variable {G : GT}
def namB (op : Int) : Bool := decide (op = 3) || (decide (op = 4) || decide (op = 5))
def leastK (op : Int) : Int := if op = 1 ∨ op = 2 ∨ op = 3 then 0 else if op = 4 ∨ op = 5 then 1 else if op = 9 ∨ op = 14 then 1 else 2
def mostK (op : Int) : Int := if op = 1 ∨ op = 2 ∨ op = 3 then 0 else if op = 4 ∨ op = 5 then 24 else if op = 9 ∨ op = 14 then 1 else 2
def headK (l : List Pr) : Int := match l with
  | [] => 1
  | k :: _ => k.op
/-- A name that a node may have although it is none. -/
def freeN (op : Int) (nm : Nm) : Bool := (decide (op = 3) && decide (nm = [118])) || (decide (op = 4) && (decide (nm = [116, 97, 103]) || decide (nm = [118, 97, 108])))
def argE (op : Int) (nm : Nm) (n : Int) (len : Int) : Bool := (!namB op && !decide (nm = [])) || (!decide (op = 1) && !decide (op = 2) && !decide (n = 0)) || decide (len < leastK op) || decide (mostK op < len)
def rangeE (op n : Int) : Bool := (decide (op = 1) && !inB n) || (decide (op = 2) && !decide (n = 0) && !decide (n = 1))
/-- The error of a node. -/
def nodeE (p : Pr) : Int :=
  if p.op < 1 ∨ 18 < p.op then 1
  else if argE p.op p.name p.n p.kids.length then 1
  else if rangeE p.op p.n then 2
  else if namB p.op && !coreB p.name && !freeN p.op p.name then 3
  else if p.op = 8 ∧ headK p.kids ≠ 1 then 6
  else 0
theorem ent_pred_named : VM.Enters Tryz.prog 82 := VM.Enters.mk Tryz.func82 rfl
theorem pred_named_cs (op : Int) : CS Tryz.prog G 82 [.int .i64 op] (.d (.bool (namB op))) none := by
  refine CS.of_VK Tryz.func82 rfl Tryz.ntmps82 rfl ?_
  by_cases h3 : op = 3
  · simp [h3, namB]
  · by_cases h4 : op = 4
    · simp [h4, namB]
    · simp [h3, h4, namB]
theorem ent_pred_kids : VM.Enters Tryz.prog 81 := VM.Enters.mk Tryz.func81 rfl
theorem pred_kids_cs (op : Int) : CS Tryz.prog G 81 [.int .i64 op] (.tup [.int .i64 (leastK op), .int .i64 (mostK op)]) none := by
  refine CS.of_VK Tryz.func81 rfl Tryz.ntmps81 rfl ?_
  by_cases h1 : op = 1
  · simp [h1, leastK, mostK]
  by_cases h2 : op = 2
  · simp [h2, leastK, mostK]
  by_cases h3 : op = 3
  · simp [h3, leastK, mostK]
  by_cases h4 : op = 4
  · simp [h4, leastK, mostK]
  by_cases h5 : op = 5
  · simp [h5, leastK, mostK]
  by_cases h9 : op = 9
  · simp [h9, leastK, mostK]
  by_cases h14 : op = 14
  · simp [h14, leastK, mostK]
  · simp [h1, h2, h3, h4, h5, h9, h14, leastK, mostK]
theorem named_ops {op : Int} (h : namB op = true) : op = 3 ∨ op = 4 ∨ op = 5 := by simpa [namB] using h
theorem named_not {op : Int} (h : namB op = false) : ¬ op = 3 ∧ ¬ op = 4 ∧ ¬ op = 5 := by simpa [namB] using h
theorem ent_pred_node : VM.Enters Tryz.prog 48 := VM.Enters.mk Tryz.func48 rfl
theorem pred_node_cs (hG : G 3 = some kwCells) (p : Pr) (hlen : p.kids.length ≤ 900000000) : CS Tryz.prog G 48 [.agg (prD p)] (.d (.int .i64 (nodeE p))) none := by
  obtain ⟨op, nm, n, l⟩ := p
  simp only at hlen
  have hm : nodeE ⟨op, nm, n, l⟩ = if op < 1 ∨ 18 < op then 1 else if argE op nm n l.length then 1 else if rangeE op n then 2 else if namB op && !coreB nm && !freeN op nm then 3 else if op = 8 ∧ headK l ≠ 1 then 6 else 0 := rfl
  refine CS.of_VK Tryz.func48 rfl Tryz.ntmps48 rfl ?_
  by_cases a1 : op < 1
  · simp [a1] at hm
    simp [a1, hm]
  by_cases a2 : 18 < op
  · simp [a2] at hm
    simp [a1, a2, hm]
  rw [if_neg (by omega)] at hm
  simp [a1, a2]
  refine callK.mk ent_pred_kids (pred_kids_cs op) ?_
  simp
  refine callK.mk ent_pred_named (pred_named_cs op) ?_
  cases hn : namB op
  · obtain ⟨n3, n4, n5⟩ := named_not hn
    by_cases b1 : nm = []
    rotate_left
    · have b1' : nm.isEmpty = false := by cases nm <;> simp at b1 ⊢
      simp [argE, hn, b1] at hm
      simp (maxSteps := 4000000) [hn, b1, b1', hm]
    subst b1
    by_cases o1 : op = 1
    · subst o1
      have el : leastK 1 = 0 := rfl
      have em : mostK 1 = 0 := rfl
      by_cases k0 : l = []
      rotate_left
      · have kl : 0 < l.length := List.length_pos_iff.2 k0
        have kl' : ¬ ((l.length : Int) < 0) := by omega
        simp [argE, hn, el, em, kl, kl'] at hm
        simp (maxSteps := 4000000) [hn, el, em, kl, kl', hm]
      subst k0
      simp [argE, hn, el, em] at hm
      simp (maxSteps := 4000000) [hn, el, em]
      refine callK.mk ent_m_In (m_In_cs n) ?_
      cases hi : inB n
      · simp [rangeE, hi] at hm
        simp [hm]
      · simp [rangeE, hi] at hm
        simp
        refine callK.mk ent_pred_named (pred_named_cs 1) ?_
        simp (maxSteps := 4000000) [hn, hm]
    by_cases o2 : op = 2
    · subst o2
      have el : leastK 2 = 0 := rfl
      have em : mostK 2 = 0 := rfl
      by_cases k0 : l = []
      rotate_left
      · have kl : 0 < l.length := List.length_pos_iff.2 k0
        have kl' : ¬ ((l.length : Int) < 0) := by omega
        simp [argE, hn, el, em, kl, kl'] at hm
        simp (maxSteps := 4000000) [hn, el, em, kl, kl', hm]
      subst k0
      simp [argE, hn, el, em] at hm
      by_cases c0 : n = 0
      · simp [rangeE, c0] at hm
        simp (maxSteps := 4000000) [hn, el, em, c0]
        refine callK.mk ent_pred_named (pred_named_cs 2) ?_
        simp (maxSteps := 4000000) [hn, hm]
      · by_cases c1 : n = 1
        · simp [rangeE, c1] at hm
          simp (maxSteps := 4000000) [hn, el, em, c1]
          refine callK.mk ent_pred_named (pred_named_cs 2) ?_
          simp (maxSteps := 4000000) [hn, hm]
        · simp [rangeE, c0, c1] at hm
          simp (maxSteps := 4000000) [hn, el, em, c0, c1, hm]
    by_cases c0 : n = 0
    rotate_left
    · simp [argE, hn, o1, o2, c0] at hm
      simp (maxSteps := 4000000) [hn, o1, o2, c0, hm]
    subst c0
    by_cases d1 : (l.length : Int) < leastK op
    · simp [argE, hn, d1] at hm
      simp (maxSteps := 4000000) [hn, o1, o2, d1, hm]
    by_cases d2 : mostK op < (l.length : Int)
    · simp [argE, hn, d1, d2] at hm
      simp (maxSteps := 4000000) [hn, o1, o2, d1, d2, hm]
    simp [argE, rangeE, hn, o1, o2, d1, d2] at hm
    simp (maxSteps := 4000000) [hn, o1, o2, d1, d2]
    refine callK.mk ent_pred_named (pred_named_cs op) ?_
    by_cases o8 : op = 8
    · subst o8
      have el : leastK 8 = 2 := rfl
      match l, d1 with
      | [], d1 => exact absurd (by rw [el]; simp) d1
      | k :: r, d1 =>
        by_cases e1 : k.op = 1
        · simp [headK, e1] at hm
          simp (maxSteps := 4000000) [hn, e1, hm]
        · simp [headK, e1] at hm
          simp (maxSteps := 4000000) [hn, e1, hm]
    · simp [o8] at hm
      simp (maxSteps := 4000000) [hn, o8, hm]
  · have ho := named_ops hn
    have o1 : ¬ op = 1 := by omega
    have o2 : ¬ op = 2 := by omega
    have o8 : ¬ op = 8 := by omega
    by_cases c0 : n = 0
    rotate_left
    · simp [argE, hn, o1, o2, c0] at hm
      simp (maxSteps := 4000000) [hn, o1, o2, c0, hm]
    subst c0
    by_cases d1 : (l.length : Int) < leastK op
    · simp [argE, hn, d1] at hm
      simp (maxSteps := 4000000) [hn, o1, o2, d1, hm]
    by_cases d2 : mostK op < (l.length : Int)
    · simp [argE, hn, d1, d2] at hm
      simp (maxSteps := 4000000) [hn, o1, o2, d1, d2, hm]
    simp [argE, rangeE, hn, o1, o2, o8, d1, d2] at hm
    simp (maxSteps := 4000000) [hn, o1, o2, d1, d2]
    refine callK.mk ent_pred_named (pred_named_cs op) ?_
    simp [hn]
    refine callK.mk ent_n_Core (n_Core_cs hG nm) ?_
    cases hc : coreB nm
    rotate_left
    · simp [hc] at hm
      simp [errName, o8, hm]
    simp [hc] at hm
    simp [errName]
    by_cases o3 : op = 3
    · subst o3
      by_cases v1 : nm = [118]
      · simp [freeN, v1] at hm
        simp [v1, hm]
      · simp [freeN, v1] at hm
        simp [v1, hm]
    by_cases o4 : op = 4
    · subst o4
      by_cases v1 : nm = [116, 97, 103]
      · simp [freeN, v1] at hm
        simp [v1, hm]
      · by_cases v2 : nm = [118, 97, 108]
        · simp [freeN, v2] at hm
          simp [v2, hm]
        · simp [freeN, v1, v2] at hm
          simp [v1, v2, hm]
    · simp [freeN, o3, o4] at hm
      simp [o3, o4, hm]
/-! ### Sizes -/
theorem ent_pred_Nodes : VM.Enters Tryz.prog 45 := VM.Enters.mk Tryz.func45 rfl
theorem pred_Nodes_cs (p : Pr) : nodP p ≤ 900000000 → CS Tryz.prog G 45 [.agg (prD p)] (.d (.int .i64 (nodP p))) none := by
  revert p
  refine Pr.ind fun p ih => ?_
  obtain ⟨op, nm, n, l⟩ := p
  intro hN
  simp only at ih
  have hn := nodP_kids ⟨op, nm, n, l⟩
  simp only at hn
  have hl := len_le_nodPs l
  refine CS.of_VK Tryz.func45 rfl Tryz.ntmps45 rfl ?_
  simp
  refine SW.loopF (ι := { i : Nat // i ≤ l.length }) (fun i => [(3, .d (.int .i64 (1 + nodPs (l.take i.1) : Nat))), (9, .d (.int .i64 i.1))]) (fun _ => [(1, prO op nm n (.sl (l.map prC)))]) (fun _ => []) (fun i => l.length - i.1) ⟨0, by simp⟩ (by simp [nodPs]) ?_
  rintro ⟨i, hi⟩
  by_cases hlt : i < l.length
  · have hg := prs_get hlt
    have hw := wrap64s (show i < 9223372036854775807 by omega)
    have hb2 := nodPs_step hlt
    have hb3 := nodPs_take_le l (i + 1)
    have hw2 : IntKind.i64.wrap (((1 + nodPs (l.take i) : Nat) : Int) + (nodP l[i] : Int)) = ((1 + nodPs (l.take (i + 1)) : Nat) : Int) := by rw [wrap64 (by omega), hb2]; omega
    simp [hlt, hg]
    refine callK.mk ent_pred_Nodes (ih l[i] (List.getElem_mem hlt) (by omega)) ?_
    simp
    exact Again.mk ⟨i + 1, hlt⟩ (by simp at hw2; simp [hw, hw2]) (by simp; omega)
  · have : i = l.length := by omega
    subst this
    simp [hn]
theorem ent_pred_Depth : VM.Enters Tryz.prog 46 := VM.Enters.mk Tryz.func46 rfl
theorem pred_Depth_cs (p : Pr) : nodP p ≤ 900000000 → CS Tryz.prog G 46 [.agg (prD p)] (.d (.int .i64 (depP p))) none := by
  revert p
  refine Pr.ind fun p ih => ?_
  obtain ⟨op, nm, n, l⟩ := p
  intro hN
  simp only at ih
  have hn := nodP_kids ⟨op, nm, n, l⟩
  have hd := depP_eq ⟨op, nm, n, l⟩
  simp only at hn hd
  have hl := len_le_nodPs l
  have hle := depPs_le l 0
  refine CS.of_VK Tryz.func46 rfl Tryz.ntmps46 rfl ?_
  simp
  refine SW.loopF (ι := { i : Nat // i ≤ l.length }) (fun i => [(3, .d (.int .i64 (depPs (l.take i.1) 0))), (9, .d (.int .i64 i.1))]) (fun _ => [(1, prO op nm n (.sl (l.map prC)))]) (fun _ => []) (fun i => l.length - i.1) ⟨0, by simp⟩ (by simp [depPs]) ?_
  rintro ⟨i, hi⟩
  by_cases hlt : i < l.length
  · have hg := prs_get hlt
    have hw := wrap64s (show i < 9223372036854775807 by omega)
    have hs := depPs_step hlt 0
    have hb2 := nodPs_step hlt
    have hb3 := nodPs_take_le l (i + 1)
    simp [hlt, hg]
    refine callK.mk ent_pred_Depth (ih l[i] (List.getElem_mem hlt) (by omega)) ?_
    simp
    exact Again.mk ⟨i + 1, hlt⟩ (by simp [hw, hs]; split <;> omega) (by simp; omega)
  · have : i = l.length := by omega
    subst this
    have hw : IntKind.i64.wrap ((depPs l 0 : Int) + 1) = ((depPs l 0 + 1 : Nat) : Int) := wrap64s (by omega)
    simp [hw, hd]
/-! ### The check -/
mutual
theorem preP_nod : ∀ (p q : Pr), q ∈ preP p → nodP q ≤ nodP p
  | ⟨op, nm, n, l⟩, q, h => by
    simp only [preP, List.mem_cons] at h
    rcases h with rfl | h
    · exact Nat.le_refl _
    · have := prePs_nod l q h
      simp only [nodP]
      omega
theorem prePs_nod : ∀ (l : List Pr) (q : Pr), q ∈ prePs l → nodP q ≤ nodPs l
  | [], q, h => by simp [prePs] at h
  | t :: r, q, h => by
    simp only [prePs, List.mem_append] at h
    simp only [nodPs]
    rcases h with h | h
    · have := preP_nod t q h
      omega
    · have := prePs_nod r q h
      omega
end
/-- The error of a predicate. -/
def chkE (p : Pr) : Int := chkP nodeE p
theorem ent_pred_Check : VM.Enters Tryz.prog 23 := VM.Enters.mk Tryz.func23 rfl
theorem pred_Check_cs (hG : G 3 = some kwCells) (p : Pr) (hN : nodP p ≤ 1000000) : CS Tryz.prog G 23 [.agg (prD p)] (.d (.int .i64 (chkE p))) none := by
  have h := pred_Check_of (G := G) nodeE p hN (by have := pred_Nodes_cs (G := G) p (by omega); rwa [prC_eq]) (by have := pred_Depth_cs (G := G) p (by omega); rwa [prC_eq]) (fun q hq => by
    have h1 := preP_nod p q hq
    have h2 := nodP_kids q
    have h3 := len_le_nodPs q.kids
    have := pred_node_cs hG q (by omega)
    rwa [prC_eq])
  rwa [prC_eq] at h
end Go.Proofs.YtlglfkdjlbcpjaaGreatDoor
end
