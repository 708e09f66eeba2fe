/- Constraints: trees, clauses, what the functions of the package 'constraint' and its reference compute, plain. No condition. -/
import Derived.Test.YthikbenglkfioaaDoorPd
set_option linter.unusedVariables false
set_option linter.unusedSimpArgs false
set_option linter.unusedSectionVars false
namespace Go.Proofs.YthikbenglkfioaaDoor
open Go Go.VM
set_option maxRecDepth 100000
set_option maxHeartbeats 4000000
/-- A constraint. -/
structure Cn where
  op : Int
  name : Nm
  sort : Nm
  pred : Pr
  tag : Int
  kids : List Cn
/-- A clause. -/
structure Cl where
  vars : List Vr
  hyps : List Pr
  head : Pr
  tag : Int
theorem Cn.ind {M : Cn → Prop} (h : ∀ c : Cn, (∀ k ∈ c.kids, M k) → M c) : ∀ c, M c
  | ⟨op, nm, s, p, t, ks⟩ => h _ fun k hk => Cn.ind h k
def cnC : Cn → List D
  | ⟨op, nm, s, p, t, ks⟩ => [.int .i64 op, .str nm, .str s, .int .i64 p.op, .str p.name, .int .i64 p.n, .sl (p.kids.map prC), .int .i64 t, .sl (ks.map cnC)]
abbrev cnD (c : Cn) : List D := [.int .i64 c.op, .str c.name, .str c.sort, .int .i64 c.pred.op, .str c.pred.name, .int .i64 c.pred.n, .sl (c.pred.kids.map prC), .int .i64 c.tag, .sl (c.kids.map cnC)]
theorem cnC_eq (c : Cn) : cnC c = [.int .i64 c.op, .str c.name, .str c.sort, .int .i64 c.pred.op, .str c.pred.name, .int .i64 c.pred.n, .sl (c.pred.kids.map prC), .int .i64 c.tag, .sl (c.kids.map cnC)] := by
  cases c
  rw [cnC]
theorem cns_nine (l : List Cn) : (∀ x, x ∈ l.map cnC → x.length = 9) = True := eq_true fun x hx => by
  obtain ⟨p, _, rfl⟩ := List.mem_map.1 hx
  rw [cnC_eq]; rfl
theorem cns_nine' (l : List Cn) : (∀ x, x ∈ l → (cnC x).length = 9) = True := eq_true fun x _ => by rw [cnC_eq]; rfl
attribute [simp] cnC_eq cns_nine cns_nine'
theorem cns_get {l : List Cn} {i : Nat} (h : i < l.length) : (l.map cnC)[i]? = some (cnD l[i]) := by simp [h, cnC_eq]
abbrev clD (c : Cl) : List D := [.sl (c.vars.map vrC), .sl (c.hyps.map prC), .int .i64 c.head.op, .str c.head.name, .int .i64 c.head.n, .sl (c.head.kids.map prC), .int .i64 c.tag]
mutual
/-- How many constraints there are in a constraint. -/
def nodC : Cn → Nat
  | ⟨_, _, _, _, _, l⟩ => 1 + nodCs l
def nodCs : List Cn → Nat
  | [] => 0
  | t :: r => nodC t + nodCs r
end
theorem nodC_eq (c : Cn) : nodC c = 1 + nodCs c.kids := by cases c; rfl
/-! ### Flat -/
def varsC2 (c : Cn) (vs : List Vr) : List Vr := if c.op = 2 ∧ c.name ≠ [] then vs ++ [(c.name, c.sort)] else vs
def hypsC2 (c : Cn) (hs : List Pr) : List Pr := if c.op = 2 then hs ++ splitP c.pred else hs
mutual
/-- The clauses of a constraint below variables and hypotheses. -/
def flatC : Cn → List Vr → List Pr → List Cl
  | ⟨op, nm, s, p, t, l⟩, vs, hs => if op = 3 then (splitP p).map fun q => ⟨vs, hs, q, t⟩ else flatCs l (varsC2 ⟨op, nm, s, p, t, l⟩ vs) (hypsC2 ⟨op, nm, s, p, t, l⟩ hs)
def flatCs : List Cn → List Vr → List Pr → List Cl
  | [], _, _ => []
  | c :: r, vs, hs => flatC c vs hs ++ flatCs r vs hs
end
theorem flatC_eq (c : Cn) (vs : List Vr) (hs : List Pr) : flatC c vs hs = if c.op = 3 then (splitP c.pred).map fun q => ⟨vs, hs, q, c.tag⟩ else flatCs c.kids (varsC2 c vs) (hypsC2 c hs) := by cases c; rfl
theorem flatCs_app (vs : List Vr) (hs : List Pr) : ∀ a b : List Cn, flatCs (a ++ b) vs hs = flatCs a vs hs ++ flatCs b vs hs
  | [], b => by simp [flatCs]
  | c :: a, b => by simp only [List.cons_append, flatCs, flatCs_app vs hs a b, List.append_assoc]
mutual
def headsC : Cn → Nat
  | ⟨op, _, _, _, _, l⟩ => if op = 3 then 1 else headsCs l
def headsCs : List Cn → Nat
  | [] => 0
  | c :: r => headsC c + headsCs r
end
theorem headsC_eq (c : Cn) : headsC c = if c.op = 3 then 1 else headsCs c.kids := by cases c; rfl
theorem headsCs_app : ∀ a b : List Cn, headsCs (a ++ b) = headsCs a + headsCs b
  | [], b => by simp [headsCs]
  | c :: a, b => by
    simp only [List.cons_append, headsCs, headsCs_app a b]
    omega
def addC (op : Int) (nm : Nm) (acc : List Nm) : List Nm := if op = 2 ∧ nm ≠ [] ∧ nm ∉ acc then acc ++ [nm] else acc
mutual
/-- The names of the variables, each once. -/
def namesC : Cn → List Nm → List Nm
  | ⟨op, nm, _, _, _, l⟩, acc => if op = 3 then acc else namesCs l (addC op nm acc)
def namesCs : List Cn → List Nm → List Nm
  | [], acc => acc
  | c :: r, acc => namesCs r (namesC c acc)
end
/-! ### And -/
mutual
/-- The kids of a conjunction. -/
def andC : Cn → List Cn
  | ⟨op, nm, s, p, t, l⟩ => if op = 2 ∨ op = 3 then [⟨op, nm, s, p, t, l⟩] else andCs l
def andCs : List Cn → List Cn
  | [] => []
  | c :: r => andC c ++ andCs r
end
theorem andC_eq (c : Cn) : andC c = if c.op = 2 ∨ c.op = 3 then [c] else andCs c.kids := by cases c; rfl
mutual
theorem flat_and : ∀ (c : Cn) (vs : List Vr) (hs : List Pr), flatCs (andC c) vs hs = flatC c vs hs
  | ⟨op, nm, s, p, t, l⟩, vs, hs => by
    have h := flats_and l vs hs
    simp only [andC]
    by_cases h2 : op = 2
    · simp [h2, flatCs]
    · by_cases h3 : op = 3
      · simp [h3, flatCs]
      · simp [h2, h3, h, flatC, varsC2, hypsC2]
theorem flats_and : ∀ (l : List Cn) (vs : List Vr) (hs : List Pr), flatCs (andCs l) vs hs = flatCs l vs hs
  | [], vs, hs => by simp [andCs]
  | c :: r, vs, hs => by
    have h1 := flat_and c vs hs
    have h2 := flats_and r vs hs
    simp only [andCs, flatCs, flatCs_app, h1, h2]
end
mutual
theorem heads_and : ∀ c : Cn, headsCs (andC c) = headsC c
  | ⟨op, nm, s, p, t, l⟩ => by
    have h := headss_and l
    simp only [andC]
    by_cases h2 : op = 2
    · simp [h2, headsCs]
    · by_cases h3 : op = 3
      · simp [h3, headsCs]
      · simp [h2, h3, h, headsC]
theorem headss_and : ∀ l : List Cn, headsCs (andCs l) = headsCs l
  | [] => by simp [andCs]
  | c :: r => by
    have h1 := heads_and c
    have h2 := headss_and r
    simp only [andCs, headsCs, headsCs_app, h1, h2]
end
/-! ### Fill -/
mutual
def fillC (H : List (Nm × List Nm)) (S : List (Nm × Pr)) : Cn → Cn
  | ⟨op, nm, s, p, t, l⟩ => ⟨op, nm, s, if p = zerP then p else fillP H S p, t, fillCs H S l⟩
def fillCs (H : List (Nm × List Nm)) (S : List (Nm × Pr)) : List Cn → List Cn
  | [] => []
  | c :: r => fillC H S c :: fillCs H S r
end
theorem fill_zero (H : List (Nm × List Nm)) (S : List (Nm × Pr)) (p : Pr) : (if p = zerP then p else fillP H S p) = fillP H S p := by
  split
  · rename_i h; subst h; rfl
  · rfl
/-- A clause, filled and taken apart. -/
def fillL (H : List (Nm × List Nm)) (S : List (Nm × Pr)) (c : Cl) : List Cl := (splitP (fillP H S c.head)).map fun q => ⟨c.vars, c.hyps.flatMap fun h => splitP (fillP H S h), q, c.tag⟩
mutual
theorem flat_fill (H : List (Nm × List Nm)) (S : List (Nm × Pr)) : ∀ (c : Cn) (vs : List Vr) (hs : List Pr), flatC (fillC H S c) vs (hs.flatMap fun h => splitP (fillP H S h)) = (flatC c vs hs).flatMap (fillL H S)
  | ⟨op, nm, s, p, t, l⟩, vs, hs => by
    simp only [fillC, fill_zero]
    by_cases h3 : op = 3
    · subst h3
      simp only [flatC, if_true, List.flatMap_map, fillL, split_fill H S p, List.map_flatMap]
    · have e1 : varsC2 ⟨op, nm, s, fillP H S p, t, fillCs H S l⟩ vs = varsC2 ⟨op, nm, s, p, t, l⟩ vs := rfl
      have e2 : hypsC2 ⟨op, nm, s, fillP H S p, t, fillCs H S l⟩ (hs.flatMap fun h => splitP (fillP H S h)) = (hypsC2 ⟨op, nm, s, p, t, l⟩ hs).flatMap fun h => splitP (fillP H S h) := by
        simp only [hypsC2]
        split
        · rw [List.flatMap_append, split_fill H S p]
        · rfl
      have h := flats_fill H S l (varsC2 ⟨op, nm, s, p, t, l⟩ vs) (hypsC2 ⟨op, nm, s, p, t, l⟩ hs)
      simp only [flatC, if_neg h3, e1, e2, h]
theorem flats_fill (H : List (Nm × List Nm)) (S : List (Nm × Pr)) : ∀ (l : List Cn) (vs : List Vr) (hs : List Pr), flatCs (fillCs H S l) vs (hs.flatMap fun h => splitP (fillP H S h)) = (flatCs l vs hs).flatMap (fillL H S)
  | [], vs, hs => by simp [fillCs, flatCs]
  | c :: r, vs, hs => by
    have h1 := flat_fill H S c vs hs
    have h2 := flats_fill H S r vs hs
    simp only [fillCs, flatCs, h1, h2, List.flatMap_append]
end
end Go.Proofs.YthikbenglkfioaaDoor
