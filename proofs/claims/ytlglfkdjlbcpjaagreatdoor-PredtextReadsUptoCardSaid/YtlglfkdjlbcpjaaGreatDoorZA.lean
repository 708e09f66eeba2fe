/- Joined texts. Environments: holes, Env, Var. Environments: what is found; the sort of a type. Environments: equality, in the reference. No condition. -/
import Derived.Test.YtlglfkdjlbcpjaaGreatDoorZ5
set_option linter.unusedVariables false
set_option linter.unusedSimpArgs false
set_option linter.unusedSectionVars false
namespace Go.Proofs.YtlglfkdjlbcpjaaGreatDoor
open Go Go.VM
set_option maxRecDepth 100000
set_option maxHeartbeats 4000000
variable {G : GT}
structure HoleL where
  name : List UInt8
  params : List (List UInt8 × List UInt8)
def holeC (h : HoleL) : List D := [.str h.name, .sl (varsC h.params)]
def holesC (l : List HoleL) : List (List D) := l.map holeC
theorem holesC_len (l : List HoleL) : (holesC l).length = l.length := by simp [holesC]
theorem holesC_getE {l : List HoleL} {i : Nat} (h : i < (holesC l).length) : (holesC l)[i] = [.str (l[i]'(by rw [← holesC_len l]; exact h)).name, .sl (varsC (l[i]'(by rw [← holesC_len l]; exact h)).params)] := by simp [holesC, holeC]
attribute [simp] holesC_len holesC_getE
def holesGo (seen : List (List UInt8)) : List HoleL → Int
  | [] => 0
  | h :: r => if coreB h.name = false then 3 else if h.name ∈ seen then 4 else if h.params.length = 0 then 13 else if varsE h.params = 0 then holesGo (seen ++ [h.name]) r else varsE h.params
def holesE (l : List HoleL) : Int := if 40 < l.length then 7 else holesGo [] l
theorem holesGo_step {seen : List (List UInt8)} {l : List HoleL} {i : Nat} (h : i < l.length) :
    holesGo seen (l.drop i) = if coreB l[i].name = false then 3 else if l[i].name ∈ seen then 4 else if l[i].params.length = 0 then 13 else if varsE l[i].params = 0 then holesGo (seen ++ [l[i].name]) (l.drop (i + 1)) else varsE l[i].params := by
  rw [List.drop_eq_getElem_cons h]
  rfl
structure EnvL where
  vars : List (List UInt8 × List UInt8)
  syms : List SymL
  holes : List HoleL
def envC (v : EnvL) : List D := [.sl (varsC v.vars), .sl (symsC v.syms), .sl (holesC v.holes)]
def envE (v : EnvL) : Int := if varsE v.vars = 0 then (if symsE v.syms = 0 then holesE v.holes else symsE v.syms) else varsE v.vars
/-- The last variable of a name. -/
def varR (n : List UInt8) (l : List (List UInt8 × List UInt8)) : List UInt8 × Bool := match l.reverse.find? fun x => decide (x.1 = n) with
  | some x => (x.2, true)
  | none => ([], false)
theorem varR_step {n : List UInt8} {l : List (List UInt8 × List UInt8)} {i : Nat} (h : i < l.length) : varR n (l.take (i + 1)) = if l[i].1 = n then (l[i].2, true) else varR n (l.take i) := by
  unfold varR
  rw [List.take_succ_eq_append_getElem h, List.reverse_append, List.reverse_cons, List.reverse_nil, List.nil_append, List.singleton_append, List.find?_cons]
  by_cases hn : l[i].1 = n <;> simp [hn]
end Go.Proofs.YtlglfkdjlbcpjaaGreatDoor

set_option linter.unusedVariables false
set_option linter.unusedSimpArgs false
set_option linter.unusedSectionVars false
namespace Go.Proofs.YtlglfkdjlbcpjaaGreatDoor
open Go Go.VM
set_option maxRecDepth 100000
set_option maxHeartbeats 4000000
variable {G : GT}
theorem varsC_two (l : List (List UInt8 × List UInt8)) : (∀ x, x ∈ varsC l → x.length = 2) = True := by
  simp only [eq_iff_iff, iff_true]
  intro x hx
  simp only [varsC, List.mem_map] at hx
  obtain ⟨y, _, rfl⟩ := hx
  rfl
attribute [simp] varsC_two
/-- A symbol of a name. -/
def symGo (n : List UInt8) (l : List SymL) : SymL × Bool := match l.find? fun y => decide (y.name = n) with
  | some y => (y, true)
  | none => (⟨[], [], []⟩, false)
theorem symGo_step {n : List UInt8} {l : List SymL} {i : Nat} (h : i < l.length) : symGo n (l.drop i) = if l[i].name = n then (l[i], true) else symGo n (l.drop (i + 1)) := by
  unfold symGo
  rw [List.drop_eq_getElem_cons h, List.find?_cons]
  by_cases hn : l[i].name = n <;> simp [hn]
def symR (n : List UInt8) (l : List SymL) : SymL × Bool :=
  if n = [116, 97, 103] then (⟨[116, 97, 103], [], [73, 110, 116]⟩, true) else if n = [118, 97, 108] then (⟨[118, 97, 108], [[67, 101, 108, 108]], [73, 110, 116]⟩, true) else symGo n l
def holeR (n : List UInt8) (l : List HoleL) : HoleL × Bool := match l.find? fun y => decide (y.name = n) with
  | some y => (y, true)
  | none => (⟨[], []⟩, false)
theorem holeR_step {n : List UInt8} {l : List HoleL} {i : Nat} (h : i < l.length) : holeR n (l.drop i) = if l[i].name = n then (l[i], true) else holeR n (l.drop (i + 1)) := by
  unfold holeR
  rw [List.drop_eq_getElem_cons h, List.find?_cons]
  by_cases hn : l[i].name = n <;> simp [hn]
end Go.Proofs.YtlglfkdjlbcpjaaGreatDoor

set_option linter.unusedVariables false
set_option linter.unusedSimpArgs false
set_option linter.unusedSectionVars false
namespace Go.Proofs.YtlglfkdjlbcpjaaGreatDoor
open Go Go.VM
set_option maxRecDepth 100000
set_option maxHeartbeats 4000000
variable {G : GT}
/-- Two lists of one length, compared place by place from i on. -/
theorem eq_step {α : Type} {a b : List α} {i : Nat} {p : Prop} (hl : a.length = b.length) (he : p = (a.drop i = b.drop i)) (h : i < a.length) (hb : i < b.length) : (a[i] = b[i] → p = (a.drop (i + 1) = b.drop (i + 1))) ∧ (¬ a[i] = b[i] → ¬ p) := by
  rw [List.drop_eq_getElem_cons h, List.drop_eq_getElem_cons hb] at he
  constructor
  · intro hx
    rw [he, hx]
    exact propext ⟨fun h => (List.cons.inj h).2, fun h => by rw [h]⟩
  · intro hx hp
    rw [he] at hp
    exact hx (List.cons.inj hp).1
theorem cast_eq_cast (n m : Nat) : ((n : Int) = (m : Int)) = (n = m) := propext Int.ofNat_inj
attribute [simp] cast_eq_cast
theorem eq_end {α : Type} {a b : List α} {i : Nat} {p : Prop} (hl : a.length = b.length) (he : p = (a.drop i = b.drop i)) (h : ¬ i < a.length) : p := by
  rw [he, List.drop_of_length_le (by omega), List.drop_of_length_le (by omega)]
theorem SymL.ext_iff (a b : SymL) : a = b ↔ a.name = b.name ∧ a.args = b.args ∧ a.res = b.res := by
  cases a; cases b; simp
theorem HoleL.ext_iff (a b : HoleL) : a = b ↔ a.name = b.name ∧ a.params = b.params := by
  cases a; cases b; simp
instance : DecidableEq SymL := fun a b => decidable_of_iff _ (SymL.ext_iff a b).symm
instance : DecidableEq HoleL := fun a b => decidable_of_iff _ (HoleL.ext_iff a b).symm
end Go.Proofs.YtlglfkdjlbcpjaaGreatDoor
