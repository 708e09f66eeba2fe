/- Constraints: sizes; equality. No condition. -/
import Derived.Test.YthikbenglkfioaaGreatDoorCa
set_option linter.unusedVariables false
set_option linter.unusedSimpArgs false
set_option linter.unusedSectionVars false
namespace Go.Proofs.YthikbenglkfioaaGreatDoor
open Go Go.VM
set_option maxRecDepth 100000
set_option maxHeartbeats 4000000
/-! ### Sizes -/
mutual
/-- Constraints and nodes of predicates, all together. -/
def wtC : Cn → Nat
  | ⟨_, _, _, p, _, l⟩ => 1 + nodP p + wtCs l
def wtCs : List Cn → Nat
  | [] => 0
  | c :: r => wtC c + wtCs r
end
theorem wtC_eq (c : Cn) : wtC c = 1 + nodP c.pred + wtCs c.kids := by cases c; rfl
mutual
theorem wtC_sz : ∀ c : Cn, wtC c ≤ szL (cnC c)
  | ⟨op, nm, s, p, t, l⟩ => by
    have h1 := wtCs_sz l
    have h2 := nodPs_sz p.kids
    have h3 := nodP_kids p
    rw [cnC_eq]
    simp only [wtC, szL, szD]
    omega
theorem wtCs_sz : ∀ l : List Cn, wtCs l ≤ szLL (l.map cnC)
  | [] => by simp [wtCs, szLL]
  | t :: r => by
    have h1 := wtC_sz t
    have h2 := wtCs_sz r
    simp only [wtCs, List.map_cons, szLL]
    omega
end
theorem wtCs_app : ∀ a b : List Cn, wtCs (a ++ b) = wtCs a + wtCs b
  | [], b => by simp [wtCs]
  | t :: a, b => by
    simp only [List.cons_append, wtCs, wtCs_app a b]
    omega
theorem wtCs_step {l : List Cn} {i : Nat} (h : i < l.length) : wtCs (l.take (i + 1)) = wtCs (l.take i) + wtC l[i] := by
  rw [List.take_succ_eq_append_getElem h, wtCs_app]
  simp [wtCs]
theorem wtCs_take_le : ∀ (l : List Cn) (i : Nat), wtCs (l.take i) ≤ wtCs l
  | [], i => by simp
  | t :: r, 0 => by simp [wtCs]
  | t :: r, i + 1 => by
    have := wtCs_take_le r i
    simp only [List.take_succ_cons, wtCs]
    omega
theorem wtC_pos (c : Cn) : 1 ≤ wtC c := by rw [wtC_eq]; omega
theorem len_le_wtCs : ∀ l : List Cn, l.length ≤ wtCs l
  | [] => by simp
  | t :: r => by
    have h1 := wtC_pos t
    have h2 := len_le_wtCs r
    simp only [wtCs, List.length_cons]
    omega
theorem wtCs_mem : ∀ {l : List Cn} {c : Cn}, c ∈ l → wtC c ≤ wtCs l
  | t :: r, c, h => by
    simp only [wtCs]
    rcases List.mem_cons.1 h with rfl | h
    · omega
    · have := wtCs_mem h
      omega
mutual
theorem nodC_wt : ∀ c : Cn, nodC c ≤ wtC c
  | ⟨op, nm, s, p, t, l⟩ => by
    have := nodCs_wt l
    simp only [nodC, wtC]
    omega
theorem nodCs_wt : ∀ l : List Cn, nodCs l ≤ wtCs l
  | [] => by simp [nodCs]
  | t :: r => by
    have h1 := nodC_wt t
    have h2 := nodCs_wt r
    simp only [nodCs, wtCs]
    omega
end
theorem nodCs_app : ∀ a b : List Cn, nodCs (a ++ b) = nodCs a + nodCs b
  | [], b => by simp [nodCs]
  | t :: a, b => by
    simp only [List.cons_append, nodCs, nodCs_app a b]
    omega
theorem nodCs_step {l : List Cn} {i : Nat} (h : i < l.length) : nodCs (l.take (i + 1)) = nodCs (l.take i) + nodC l[i] := by
  rw [List.take_succ_eq_append_getElem h, nodCs_app]
  simp [nodCs]
mutual
theorem flatC_len : ∀ (c : Cn) (vs : List Vr) (hs : List Pr), (flatC c vs hs).length ≤ wtC c
  | ⟨op, nm, s, p, t, l⟩, vs, hs => by
    have h1 := flatCs_len l (varsC2 ⟨op, nm, s, p, t, l⟩ vs) (hypsC2 ⟨op, nm, s, p, t, l⟩ hs)
    have h2 := split_len p
    simp only [flatC, wtC]
    split <;> simp <;> omega
theorem flatCs_len : ∀ (l : List Cn) (vs : List Vr) (hs : List Pr), (flatCs l vs hs).length ≤ wtCs l
  | [], vs, hs => by simp [flatCs]
  | c :: r, vs, hs => by
    have h1 := flatC_len c vs hs
    have h2 := flatCs_len r vs hs
    simp only [flatCs, List.length_append, wtCs]
    omega
end
theorem flatCs_step {l : List Cn} {i : Nat} (h : i < l.length) (vs : List Vr) (hs : List Pr) : flatCs (l.take (i + 1)) vs hs = flatCs (l.take i) vs hs ++ flatC l[i] vs hs := by
  rw [List.take_succ_eq_append_getElem h, flatCs_app]
  simp [flatCs]
mutual
theorem headsC_le : ∀ c : Cn, headsC c ≤ wtC c
  | ⟨op, nm, s, p, t, l⟩ => by
    have := headsCs_le l
    simp only [headsC, wtC]
    split <;> omega
theorem headsCs_le : ∀ l : List Cn, headsCs l ≤ wtCs l
  | [] => by simp [headsCs]
  | t :: r => by
    have h1 := headsC_le t
    have h2 := headsCs_le r
    simp only [headsCs, wtCs]
    omega
end
theorem headsCs_step {l : List Cn} {i : Nat} (h : i < l.length) : headsCs (l.take (i + 1)) = headsCs (l.take i) + headsC l[i] := by
  rw [List.take_succ_eq_append_getElem h, headsCs_app]
  simp [headsCs]
theorem andCs_app : ∀ a b : List Cn, andCs (a ++ b) = andCs a ++ andCs b
  | [], b => by simp [andCs]
  | c :: a, b => by simp only [List.cons_append, andCs, andCs_app a b, List.append_assoc]
theorem andCs_step {l : List Cn} {i : Nat} (h : i < l.length) : andCs (l.take (i + 1)) = andCs (l.take i) ++ andC l[i] := by
  rw [List.take_succ_eq_append_getElem h, andCs_app]
  simp [andCs]
mutual
theorem andC_len : ∀ c : Cn, (andC c).length ≤ nodC c
  | ⟨op, nm, s, p, t, l⟩ => by
    have := andCs_len l
    simp only [andC, nodC]
    split <;> simp <;> omega
theorem andCs_len : ∀ l : List Cn, (andCs l).length ≤ nodCs l
  | [] => by simp [andCs]
  | t :: r => by
    have h1 := andC_len t
    have h2 := andCs_len r
    simp only [andCs, nodCs, List.length_append]
    omega
end
mutual
theorem andC_wt : ∀ c : Cn, wtCs (andC c) ≤ wtC c
  | ⟨op, nm, s, p, t, l⟩ => by
    have := andCs_wt l
    simp only [andC, wtC]
    split <;> simp [wtCs, wtC] <;> omega
theorem andCs_wt : ∀ l : List Cn, wtCs (andCs l) ≤ wtCs l
  | [] => by simp [andCs]
  | t :: r => by
    have h1 := andC_wt t
    have h2 := andCs_wt r
    simp only [andCs, wtCs, wtCs_app]
    omega
end
/-! ### Names -/
theorem namesC_eq (c : Cn) (acc : List Nm) : namesC c acc = if c.op = 3 then acc else namesCs c.kids (addC c.op c.name acc) := by cases c; rfl
theorem namesCs_app : ∀ (a b : List Cn) (acc : List Nm), namesCs (a ++ b) acc = namesCs b (namesCs a acc)
  | [], b, acc => by simp [namesCs]
  | t :: a, b, acc => by simp only [List.cons_append, namesCs, namesCs_app a b]
theorem namesCs_step {l : List Cn} {i : Nat} (h : i < l.length) (acc : List Nm) : namesCs (l.take (i + 1)) acc = namesC l[i] (namesCs (l.take i) acc) := by
  rw [List.take_succ_eq_append_getElem h, namesCs_app]
  simp [namesCs]
theorem addC_len (op : Int) (nm : Nm) (acc : List Nm) : (addC op nm acc).length ≤ acc.length + 1 := by
  unfold addC
  split <;> simp
mutual
theorem namesC_len : ∀ (c : Cn) (acc : List Nm), (namesC c acc).length ≤ acc.length + nodC c
  | ⟨op, nm, s, p, t, l⟩, acc => by
    have h1 := addC_len op nm acc
    have h2 := namesCs_len l (addC op nm acc)
    simp only [namesC, nodC]
    split <;> omega
theorem namesCs_len : ∀ (l : List Cn) (acc : List Nm), (namesCs l acc).length ≤ acc.length + nodCs l
  | [], acc => by simp [namesCs]
  | c :: r, acc => by
    have h1 := namesC_len c acc
    have h2 := namesCs_len r (namesC c acc)
    simp only [namesCs, nodCs]
    omega
end
/-! ### Equality -/
mutual
def samC : Cn → Cn → Bool
  | ⟨o, n, s, p, t, l⟩, ⟨o', n', s', p', t', l'⟩ => decide (o = o') && (decide (n = n') && (decide (s = s') && (decide (t = t') && (samP p p' && (decide (l.length = l'.length) && samCs l l')))))
def samCs : List Cn → List Cn → Bool
  | a :: r, b :: s => samC a b && samCs r s
  | [], _ => true
  | _ :: _, [] => true
end
theorem samC_eq (a b : Cn) : samC a b = (decide (a.op = b.op) && (decide (a.name = b.name) && (decide (a.sort = b.sort) && (decide (a.tag = b.tag) && (samP a.pred b.pred && (decide (a.kids.length = b.kids.length) && samCs a.kids b.kids)))))) := by cases a; cases b; rfl
mutual
theorem samC_refl : ∀ a : Cn, samC a a = true
  | ⟨o, n, s, p, t, l⟩ => by
    have h1 := samCs_refl l
    have h2 := (samP_iff p p).2 rfl
    simp [samC, h1, h2]
theorem samCs_refl : ∀ l : List Cn, samCs l l = true
  | [] => by simp [samCs]
  | a :: r => by
    have h1 := samC_refl a
    have h2 := samCs_refl r
    simp [samCs, h1, h2]
end
theorem samCs_drop {l k : List Cn} {i : Nat} (h : i < l.length) (h' : i < k.length) : samCs (l.drop i) (k.drop i) = (samC l[i] k[i] && samCs (l.drop (i + 1)) (k.drop (i + 1))) := by
  rw [List.drop_eq_getElem_cons h, List.drop_eq_getElem_cons h']
  rfl
theorem samCs_end (l k : List Cn) : samCs (l.drop l.length) k = true := by simp [samCs]
instance : DecidableEq Cl := fun a b => if h : a.vars = b.vars ∧ a.hyps = b.hyps ∧ a.head = b.head ∧ a.tag = b.tag then isTrue (by cases a; cases b; simp at h; obtain ⟨rfl, rfl, rfl, rfl⟩ := h; rfl) else isFalse fun e => h (by rw [e]; exact ⟨rfl, rfl, rfl, rfl⟩)
theorem lists_cmp {α : Type} [DecidableEq α] {a b : List α} {i : Nat} (h : i < a.length) (h' : i < b.length) : decide (a.drop i = b.drop i) = (decide (a[i] = b[i]) && decide (a.drop (i + 1) = b.drop (i + 1))) := by
  rw [List.drop_eq_getElem_cons h, List.drop_eq_getElem_cons h']
  by_cases h1 : a[i] = b[i] <;> simp only [List.cons.injEq, h1, true_and, false_and, decide_true, decide_false, Bool.true_and, Bool.false_and]
/-! ### How clauses lie in cells -/
def clC (c : Cl) : List D := clD c
theorem clC_eq (c : Cl) : clC c = [.sl (c.vars.map vrC), .sl (c.hyps.map prC), .int .i64 c.head.op, .str c.head.name, .int .i64 c.head.n, .sl (c.head.kids.map prC), .int .i64 c.tag] := rfl
theorem cls_seven (l : List Cl) : (∀ x, x ∈ l.map clC → x.length = 7) = True := eq_true fun x hx => by
  obtain ⟨p, _, rfl⟩ := List.mem_map.1 hx
  rw [clC_eq]; rfl
theorem cls_seven' (l : List Cl) : (∀ x, x ∈ l → (clC x).length = 7) = True := eq_true fun x _ => by rw [clC_eq]; rfl
theorem vrs_two (l : List Vr) : (∀ x, x ∈ l.map vrC → x.length = 2) = True := eq_true fun x hx => by
  obtain ⟨p, _, rfl⟩ := List.mem_map.1 hx
  rfl
attribute [simp] clC_eq cls_seven cls_seven' vrs_two
theorem cls_get {l : List Cl} {i : Nat} (h : i < l.length) : (l.map clC)[i]? = some (clD l[i]) := by simp [h]
abbrev cnO (op : Int) (nm s : Nm) (p : Pr) (tag : Int) (ks : D) : AObj := .cells [.d (.int .i64 op), .d (.str nm), .d (.str s), .d (.int .i64 p.op), .d (.str p.name), .d (.int .i64 p.n), .d (.sl (p.kids.map prC)), .d (.int .i64 tag), .d ks]
abbrev cnZ : AObj := .cells [.d (.int .i64 0), .d (.str []), .d (.str []), .d (.int .i64 0), .d (.str []), .d (.int .i64 0), .d .nils, .d (.int .i64 0), .d .nils]
end Go.Proofs.YthikbenglkfioaaGreatDoor
