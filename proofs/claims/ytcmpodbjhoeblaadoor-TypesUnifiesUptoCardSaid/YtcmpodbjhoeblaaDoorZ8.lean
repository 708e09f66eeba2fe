/- Joined texts. Predicates and types as trees, and how they lie in cells. The variables of a type: the walk of the closure that collects them, and of the reference. The variables of a type: the functions. How many types and predicates there are, how many levels. Plain types, bare types; whether types are the same; first order. No condition. -/
import Derived.Test.YtcmpodbjhoeblaaDoorZ6
import Derived.Test.YtcmpodbjhoeblaaDoorZ4
import Derived.Test.YtcmpodbjhoeblaaDoorUp
section
set_option linter.unusedVariables false
set_option linter.unusedSimpArgs false
set_option linter.unusedSectionVars false
namespace Go.Proofs.YtcmpodbjhoeblaaDoor
open Go Go.VM
set_option maxRecDepth 100000
set_option maxHeartbeats 4000000
abbrev Nm := List UInt8
theorem strs_app2 (l k : List Nm) : strs (l ++ k) = strs l ++ strs k := by simp [strs]
theorem strs_nil : strs [] = [] := rfl
attribute [simp] strs_nil
/-- A predicate. -/
structure Pr where
  op : Int
  name : Nm
  n : Int
  kids : List Pr
/-- A type. -/
structure Ty where
  op : Int
  name : Nm
  args : List Ty
  names : List Nm
  pred : Pr
  preds : List Pr
theorem Pr.ind {M : Pr → Prop} (h : ∀ p : Pr, (∀ k ∈ p.kids, M k) → M p) : ∀ p, M p
  | ⟨op, nm, n, ks⟩ => h _ fun k hk => Pr.ind h k
theorem Ty.ind {M : Ty → Prop} (h : ∀ t : Ty, (∀ k ∈ t.args, M k) → M t) : ∀ t, M t
  | ⟨op, nm, l, ns, p, ps⟩ => h _ fun k hk => Ty.ind h k
def prC : Pr → List D
  | ⟨op, nm, n, ks⟩ => [.int .i64 op, .str nm, .int .i64 n, .sl (ks.map prC)]
abbrev prD (p : Pr) : List D := [.int .i64 p.op, .str p.name, .int .i64 p.n, .sl (p.kids.map prC)]
theorem prC_eq (p : Pr) : prC p = [.int .i64 p.op, .str p.name, .int .i64 p.n, .sl (p.kids.map prC)] := by
  cases p
  rw [prC]
def tyC : Ty → List D
  | ⟨op, nm, l, ns, p, ps⟩ => [.int .i64 op, .str nm, .sl (l.map tyC), .sl (strs ns), .int .i64 p.op, .str p.name, .int .i64 p.n, .sl (p.kids.map prC), .sl (ps.map prC)]
abbrev tyD (t : Ty) : List D := [.int .i64 t.op, .str t.name, .sl (t.args.map tyC), .sl (strs t.names), .int .i64 t.pred.op, .str t.pred.name, .int .i64 t.pred.n, .sl (t.pred.kids.map prC), .sl (t.preds.map prC)]
theorem tyC_eq (t : Ty) : tyC t = [.int .i64 t.op, .str t.name, .sl (t.args.map tyC), .sl (strs t.names), .int .i64 t.pred.op, .str t.pred.name, .int .i64 t.pred.n, .sl (t.pred.kids.map prC), .sl (t.preds.map prC)] := by
  cases t
  rw [tyC]
theorem prs_four (l : List Pr) : (∀ x, x ∈ l.map prC → x.length = 4) = True := eq_true fun x hx => by
  obtain ⟨p, _, rfl⟩ := List.mem_map.1 hx
  rw [prC_eq]; rfl
theorem tys_nine (l : List Ty) : (∀ x, x ∈ l.map tyC → x.length = 9) = True := eq_true fun x hx => by
  obtain ⟨p, _, rfl⟩ := List.mem_map.1 hx
  rw [tyC_eq]; rfl
theorem prs_four' (l : List Pr) : (∀ x, x ∈ l → (prC x).length = 4) = True := eq_true fun x _ => by rw [prC_eq]; rfl
theorem tys_nine' (l : List Ty) : (∀ x, x ∈ l → (tyC x).length = 9) = True := eq_true fun x _ => by rw [tyC_eq]; rfl
attribute [simp] prC_eq tyC_eq prs_four tys_nine prs_four' tys_nine'
theorem prs_get {l : List Pr} {i : Nat} (h : i < l.length) : (l.map prC)[i]? = some (prD l[i]) := by simp [h, prC_eq]
theorem tys_get {l : List Ty} {i : Nat} (h : i < l.length) : (l.map tyC)[i]? = some (tyD l[i]) := by simp [h, tyC_eq]
end Go.Proofs.YtcmpodbjhoeblaaDoor
end

section
set_option linter.unusedVariables false
set_option linter.unusedSimpArgs false
set_option linter.unusedSectionVars false
namespace Go.Proofs.YtcmpodbjhoeblaaDoor
open Go Go.VM
set_option maxRecDepth 100000
set_option maxHeartbeats 8000000
variable {G : GT}
mutual
/-- How many types there are in a type. -/
def nodT : Ty → Nat
  | ⟨_, _, l, _, _, _⟩ => 1 + nodTs l
def nodTs : List Ty → Nat
  | [] => 0
  | t :: r => nodT t + nodTs r
end
mutual
theorem nodT_sz : ∀ t : Ty, nodT t ≤ szL (tyC t)
  | ⟨op, nm, l, ns, p, ps⟩ => by
    have := nodTs_sz l
    rw [tyC_eq]
    simp only [nodT, szL, szD]
    omega
theorem nodTs_sz : ∀ l : List Ty, nodTs l ≤ szLL (l.map tyC)
  | [] => by simp [nodTs, szLL]
  | t :: r => by
    have h1 := nodT_sz t
    have h2 := nodTs_sz r
    simp only [nodTs, List.map_cons, szLL]
    omega
end
theorem nodTs_app : ∀ a b : List Ty, nodTs (a ++ b) = nodTs a + nodTs b
  | [], b => by simp [nodTs]
  | t :: a, b => by
    simp only [List.cons_append, nodTs, nodTs_app a b]
    omega
theorem nodT_args (t : Ty) : nodT t = 1 + nodTs t.args := by cases t; rfl
theorem nodTs_step {l : List Ty} {i : Nat} (h : i < l.length) : nodTs (l.take (i + 1)) = nodTs (l.take i) + nodT l[i] := by
  rw [List.take_succ_eq_append_getElem h, nodTs_app]
  simp [nodTs]
theorem nodTs_take_le : ∀ (l : List Ty) (i : Nat), nodTs (l.take i) ≤ nodTs l
  | [], i => by simp
  | t :: r, 0 => by simp [nodTs]
  | t :: r, i + 1 => by
    have := nodTs_take_le r i
    simp only [List.take_succ_cons, nodTs]
    omega
theorem nodT_pos (t : Ty) : 1 ≤ nodT t := by rw [nodT_args]; omega
theorem len_le_nodTs : ∀ l : List Ty, l.length ≤ nodTs l
  | [] => by simp
  | t :: r => by
    have h1 := nodT_pos t
    have h2 := len_le_nodTs r
    simp only [nodTs, List.length_cons]
    omega
/-- One more variable. -/
def addV (op : Int) (nm : Nm) (acc : List Nm) : List Nm := if op = 5 ∧ nm ∉ acc then acc ++ [nm] else acc
mutual
def varsT : Ty → List Nm → List Nm
  | ⟨op, nm, l, _, _, _⟩, acc => varsTs l (addV op nm acc)
def varsTs : List Ty → List Nm → List Nm
  | [], acc => acc
  | t :: r, acc => varsTs r (varsT t acc)
end
theorem varsT_eq (t : Ty) (acc : List Nm) : varsT t acc = varsTs t.args (addV t.op t.name acc) := by cases t; rfl
theorem varsTs_app : ∀ (a b : List Ty) (acc : List Nm), varsTs (a ++ b) acc = varsTs b (varsTs a acc)
  | [], b, acc => by simp [varsTs]
  | t :: a, b, acc => by simp only [List.cons_append, varsTs, varsTs_app a b]
theorem varsTs_step {l : List Ty} {i : Nat} (h : i < l.length) (acc : List Nm) : varsTs (l.take (i + 1)) acc = varsT l[i] (varsTs (l.take i) acc) := by
  rw [List.take_succ_eq_append_getElem h, varsTs_app]
  simp [varsTs]
theorem addV_len (op : Int) (nm : Nm) (acc : List Nm) : (addV op nm acc).length ≤ acc.length + 1 := by
  unfold addV
  split <;> simp
mutual
theorem varsT_len : ∀ (t : Ty) (acc : List Nm), (varsT t acc).length ≤ acc.length + nodT t
  | ⟨op, nm, l, ns, p, ps⟩, acc => by
    have h1 := addV_len op nm acc
    have h2 := varsTs_len l (addV op nm acc)
    simp only [varsT, nodT]
    omega
theorem varsTs_len : ∀ (l : List Ty) (acc : List Nm), (varsTs l acc).length ≤ acc.length + nodTs l
  | [], acc => by simp [varsTs]
  | t :: r, acc => by
    have h1 := varsT_len t acc
    have h2 := varsTs_len r (varsT t acc)
    simp only [varsTs, nodTs]
    omega
end
def seenOf (acc : List Nm) : List (D × D) := acc.map fun n => (.str n, .bool true)
theorem seen_find (nm : Nm) : ∀ acc : List Nm, findKeyD (.str nm) (seenOf acc) = some (if nm ∈ acc then some (.bool true) else none)
  | [] => by simp [seenOf, findKeyD]
  | x :: r => by
    have := seen_find nm r
    simp only [seenOf] at this
    simp only [seenOf, List.map_cons, findKeyD, eqCell]
    by_cases h : nm = x
    · subst h; simp
    · simp [h, this]
theorem seen_set {nm : Nm} : ∀ {acc : List Nm}, nm ∉ acc → setKeyD (.str nm) (.bool true) (seenOf acc) = some (seenOf (acc ++ [nm]))
  | [], _ => by simp [seenOf, setKeyD]
  | x :: r, h => by
    have h1 : ¬ nm = x := fun e => h (by simp [e])
    have := seen_set (nm := nm) (acc := r) fun hx => h (by simp [hx])
    simp only [seenOf] at this
    simp [seenOf, setKeyD, eqCell, h1, this]
theorem seenOf_nil : seenOf [] = [] := rfl
attribute [simp] seenOf_nil
def vH (acc : List Nm) : List (Nat × AObj) := [(100000, .cells [.mp 100003]), (100001, .cells [.d (.sl (strs acc))]), (100002, .cells [.clo 42 [.ptr 100000 0, .ptr 100001 0, .ptr 100002 0]]), (100003, .map (seenOf acc))]
theorem ent_vars1 : VM.Enters Tryd.prog 42 := VM.Enters.mk Tryd.func42 rfl
theorem vars1_ch : ∀ (t : Ty) (acc : List Nm), acc.length + nodT t ≤ 1000000000 →
    CH Tryd.prog G 42 ⟨[.d (.agg (tyD t)), .ptr 100000 0, .ptr 100001 0, .ptr 100002 0], vH acc, [(9, [.c 100001 0])]⟩ ⟨[.tup []], vH (varsT t acc), [(9, [.c 100001 0])]⟩ := by
  refine Ty.ind fun t ih => ?_
  obtain ⟨op, nm, l, ns, p, ps⟩ := t
  intro acc hacc
  simp only at ih
  have hn := nodT_args ⟨op, nm, l, ns, p, ps⟩
  simp only at hn
  have hl := len_le_nodTs l
  refine CH.of_VK Tryd.func42 rfl Tryd.ntmps42 rfl (by simp) ?_
  have hv := varsT_eq ⟨op, nm, l, ns, p, ps⟩ acc
  simp only at hv
  have ha2 := addV_len op nm acc
  have htl := nodTs_take_le l
  obtain ⟨acc2, hac⟩ : ∃ acc2, addV op nm acc = acc2 := ⟨_, rfl⟩
  rw [hac] at hv ha2
  by_cases h5 : op = 5
  · subst h5
    by_cases hm : nm ∈ acc
    · have : acc2 = acc := by rw [← hac]; simp [addV, hm]
      subst this
      simp [seen_find, hm, vH]
      refine SW.loopF (ι := { i : Nat // i ≤ l.length }) (fun i => [(28, .d (.int .i64 i.1))]) (fun i => (4, .cells [.d (.int .i64 5), .d (.str nm), .d (.sl (l.map tyC)), .d (.sl (strs ns)), .d (.int .i64 p.op), .d (.str p.name), .d (.int .i64 p.n), .d (.sl (p.kids.map prC)), .d (.sl (ps.map prC))]) :: vH (varsTs (l.take i.1) acc2)) (fun _ => [(9, [.c 100001 0])]) (fun i => l.length - i.1) ⟨0, by simp⟩ (by simp [varsTs, vH]) ?_
      rintro ⟨i, hi⟩
      by_cases hlt : i < l.length
      · have hg := tys_get hlt
        have hw := wrap64s (show i < 9223372036854775807 by omega)
        have hs := varsTs_step hlt acc2
        have hb := varsTs_len (l.take i) acc2
        have hb2 := nodTs_step hlt
        have hb3 := nodTs_take_le l (i + 1)
        simp [hlt, hg, vH]
        refine callHK.mk ent_vars1 (ih l[i] (List.getElem_mem hlt) (varsTs (l.take i) acc2) (by omega)) [(100000, 100000), (100001, 100001), (100002, 100002), (100003, 100003)] (by simp [vH]) (by simp) (by simp [vH]) (by simp; rfl) (by simp) ?_
        simp [vH]
        exact Again.mk ⟨i + 1, hlt⟩ (by simp [hw, hs, vH]) (by simp; omega)
      · have : i = l.length := by omega
        subst this
        simp [vH, hv]
    · have : acc2 = acc ++ [nm] := by rw [← hac]; simp [addV, hm]
      subst this
      have hsz : (acc.length + 1) * 17 ≤ 140737488355328 := by omega
      simp [seen_find, hm, seen_set, vH, hsz]
      refine SW.loopF (ι := { i : Nat // i ≤ l.length }) (fun i => [(28, .d (.int .i64 i.1))]) (fun i => (4, .cells [.d (.int .i64 5), .d (.str nm), .d (.sl (l.map tyC)), .d (.sl (strs ns)), .d (.int .i64 p.op), .d (.str p.name), .d (.int .i64 p.n), .d (.sl (p.kids.map prC)), .d (.sl (ps.map prC))]) :: vH (varsTs (l.take i.1) (acc ++ [nm]))) (fun _ => [(9, [.c 100001 0])]) (fun i => l.length - i.1) ⟨0, by simp⟩ (by simp [varsTs, vH]) ?_
      rintro ⟨i, hi⟩
      by_cases hlt : i < l.length
      · have hg := tys_get hlt
        have hw := wrap64s (show i < 9223372036854775807 by omega)
        have hs := varsTs_step hlt (acc ++ [nm])
        have hb := varsTs_len (l.take i) (acc ++ [nm])
        have hb2 := nodTs_step hlt
        have hb3 := nodTs_take_le l (i + 1)
        simp [hlt, hg, vH]
        refine callHK.mk ent_vars1 (ih l[i] (List.getElem_mem hlt) (varsTs (l.take i) (acc ++ [nm])) (by omega)) [(100000, 100000), (100001, 100001), (100002, 100002), (100003, 100003)] (by simp [vH]) (by simp) (by simp [vH]) (by simp; rfl) (by simp) ?_
        simp [vH]
        exact Again.mk ⟨i + 1, hlt⟩ (by simp [hw, hs, vH]) (by simp; omega)
      · have : i = l.length := by omega
        subst this
        simp [vH, hv]
  · have : acc2 = acc := by rw [← hac]; simp [addV, h5]
    subst this
    simp [h5, vH]
    refine SW.loopF (ι := { i : Nat // i ≤ l.length }) (fun i => [(28, .d (.int .i64 i.1))]) (fun i => (4, .cells [.d (.int .i64 op), .d (.str nm), .d (.sl (l.map tyC)), .d (.sl (strs ns)), .d (.int .i64 p.op), .d (.str p.name), .d (.int .i64 p.n), .d (.sl (p.kids.map prC)), .d (.sl (ps.map prC))]) :: vH (varsTs (l.take i.1) acc2)) (fun _ => [(9, [.c 100001 0])]) (fun i => l.length - i.1) ⟨0, by simp⟩ (by simp [varsTs, vH]) ?_
    rintro ⟨i, hi⟩
    by_cases hlt : i < l.length
    · have hg := tys_get hlt
      have hw := wrap64s (show i < 9223372036854775807 by omega)
      have hs := varsTs_step hlt acc2
      have hb := varsTs_len (l.take i) acc2
      have hb2 := nodTs_step hlt
      have hb3 := nodTs_take_le l (i + 1)
      simp [hlt, hg, vH]
      refine callHK.mk ent_vars1 (ih l[i] (List.getElem_mem hlt) (varsTs (l.take i) acc2) (by omega)) [(100000, 100000), (100001, 100001), (100002, 100002), (100003, 100003)] (by simp [vH]) (by simp) (by simp [vH]) (by simp; rfl) (by simp) ?_
      simp [vH]
      exact Again.mk ⟨i + 1, hlt⟩ (by simp [hw, hs, vH]) (by simp; omega)
    · have : i = l.length := by omega
      subst this
      simp [vH, hv]
end Go.Proofs.YtcmpodbjhoeblaaDoor
end

section
set_option linter.unusedVariables false
set_option linter.unusedSimpArgs false
set_option linter.unusedSectionVars false
namespace Go.Proofs.YtcmpodbjhoeblaaDoor
open Go Go.VM
set_option maxRecDepth 100000
set_option maxHeartbeats 8000000
variable {G : GT}
theorem ent_types_Vars : VM.Enters Tryd.prog 25 := VM.Enters.mk Tryd.func25 rfl
theorem types_Vars_cs (t : Ty) (hN : nodT t ≤ 900000000) : CS Tryd.prog G 25 [.agg (tyD t)] (.d (.sl (strs (varsT t [])))) (some 9) := by
  refine CS.of_VK Tryd.func25 rfl Tryd.ntmps25 rfl ?_
  simp
  refine callHK.mk ent_vars1 (vars1_ch t [] (by simp; omega)) [(100000, 3), (100001, 4), (100002, 5), (100003, 6)] (by simp [vH]) (by simp) (by simp [vH]) (by simp; rfl) (by simp) ?_
  simp [vH]
theorem ent_types_Ground : VM.Enters Tryd.prog 23 := VM.Enters.mk Tryd.func23 rfl
theorem types_Ground_cs (t : Ty) (hN : nodT t ≤ 900000000) : CS Tryd.prog G 23 [.agg (tyD t)] (.d (.bool (decide ((varsT t []).length = 0)))) none := by
  refine CS.of_VK Tryd.func23 rfl Tryd.ntmps23 rfl ?_
  simp
  refine callK.mk ent_types_Vars (types_Vars_cs t hN) ?_
  simp
theorem find_neg (s : Nm) (l : List Nm) : (findI s l 0 < 0) ↔ s ∉ l := by
  have h := findI_any s l 0
  constructor
  · intro hlt hm
    have : (l.any fun k => decide (k = s)) = true := List.any_eq_true.2 ⟨s, hm, by simp⟩
    rw [this] at h
    have := of_decide_eq_true h
    omega
  · intro hm
    have : (l.any fun k => decide (k = s)) = false := by
      rw [List.any_eq_false]
      intro x hx
      simp only [decide_eq_true_eq]
      exact fun e => hm (e ▸ hx)
    rw [this] at h
    have := of_decide_eq_false h
    omega
theorem ent_r19_vars : VM.Enters Tryd.prog 15 := VM.Enters.mk Tryd.func15 rfl
theorem r19_vars_ch : ∀ (t : Ty) (acc : List Nm), acc.length + nodT t ≤ 1000000 →
    CH Tryd.prog G 15 ⟨[.d (.agg (tyD t)), .d (.sl (strs acc))], [], [(9, [.t 1])]⟩ ⟨[.d (.sl (strs (varsT t acc)))], [], [(9, [.t 0])]⟩ := by
  refine Ty.ind fun t ih => ?_
  obtain ⟨op, nm, l, ns, p, ps⟩ := t
  intro acc hacc
  simp only at ih
  have hn := nodT_args ⟨op, nm, l, ns, p, ps⟩
  simp only at hn
  have hl := len_le_nodTs l
  have hv := varsT_eq ⟨op, nm, l, ns, p, ps⟩ acc
  simp only at hv
  refine CH.of_VK Tryd.func15 rfl Tryd.ntmps15 rfl (by simp) ?_
  by_cases h5 : op = 5
  · subst h5
    simp
    refine callK.mk ent_r4_Find (r4_Find_cs acc nm (by omega)) ?_
    by_cases hm : nm ∈ acc
    · have hf : ¬ findI nm acc 0 < 0 := fun h => (find_neg nm acc).1 h hm
      have : addV 5 nm acc = acc := by simp [addV, hm]
      rw [this] at hv
      simp [hf]
      refine SW.loopF (ι := { i : Nat // i ≤ l.length }) (fun i => [(1, .d (.sl (strs (varsTs (l.take i.1) acc)))), (25, .d (.int .i64 i.1))]) (fun _ => [(2, .cells [.d (.int .i64 5), .d (.str nm), .d (.sl (l.map tyC)), .d (.sl (strs ns)), .d (.int .i64 p.op), .d (.str p.name), .d (.int .i64 p.n), .d (.sl (p.kids.map prC)), .d (.sl (ps.map prC))])]) (fun _ => [(9, [.t 1])]) (fun i => l.length - i.1) ⟨0, by simp⟩ (by simp [varsTs]) ?_
      rintro ⟨i, hi⟩
      by_cases hlt : i < l.length
      · have hg := tys_get hlt
        have hw := wrap64s (show i < 9223372036854775807 by omega)
        have hs := varsTs_step hlt acc
        have hb := varsTs_len (l.take i) acc
        have hb2 := nodTs_step hlt
        have hb3 := nodTs_take_le l (i + 1)
        try simp only [List.length_append, List.length_nil, List.length_cons] at hb
        simp [hlt, hg]
        refine callK.own ent_r19_vars (ih l[i] (List.getElem_mem hlt) (varsTs (l.take i) acc) (by omega)) (by simp) (by simp) (by simp) (by simp; rfl) (by simp) ?_
        simp
        exact Again.mk ⟨i + 1, hlt⟩ (by simp [hw, hs]) (by simp; omega)
      · have : i = l.length := by omega
        subst this
        simp [hv]
    · have hf : findI nm acc 0 < 0 := (find_neg nm acc).2 hm
      have : addV 5 nm acc = acc ++ [nm] := by simp [addV, hm]
      rw [this] at hv
      have hsz : (acc.length + 1) * 17 ≤ 140737488355328 := by omega
      simp [hf, hsz]
      refine SW.loopF (ι := { i : Nat // i ≤ l.length }) (fun i => [(1, .d (.sl (strs (varsTs (l.take i.1) (acc ++ [nm]))))), (25, .d (.int .i64 i.1))]) (fun _ => [(2, .cells [.d (.int .i64 5), .d (.str nm), .d (.sl (l.map tyC)), .d (.sl (strs ns)), .d (.int .i64 p.op), .d (.str p.name), .d (.int .i64 p.n), .d (.sl (p.kids.map prC)), .d (.sl (ps.map prC))])]) (fun _ => [(9, [.t 1])]) (fun i => l.length - i.1) ⟨0, by simp⟩ (by simp [varsTs]) ?_
      rintro ⟨i, hi⟩
      by_cases hlt : i < l.length
      · have hg := tys_get hlt
        have hw := wrap64s (show i < 9223372036854775807 by omega)
        have hs := varsTs_step hlt (acc ++ [nm])
        have hb := varsTs_len (l.take i) (acc ++ [nm])
        have hb2 := nodTs_step hlt
        have hb3 := nodTs_take_le l (i + 1)
        try simp only [List.length_append, List.length_nil, List.length_cons] at hb
        simp [hlt, hg]
        refine callK.own ent_r19_vars (ih l[i] (List.getElem_mem hlt) (varsTs (l.take i) (acc ++ [nm])) (by omega)) (by simp) (by simp) (by simp) (by simp; rfl) (by simp) ?_
        simp
        exact Again.mk ⟨i + 1, hlt⟩ (by simp [hw, hs]) (by simp; omega)
      · have : i = l.length := by omega
        subst this
        simp [hv]
  · have : addV op nm acc = acc := by simp [addV, h5]
    rw [this] at hv
    simp [h5]
    refine SW.loopF (ι := { i : Nat // i ≤ l.length }) (fun i => [(1, .d (.sl (strs (varsTs (l.take i.1) acc)))), (25, .d (.int .i64 i.1))]) (fun _ => [(2, .cells [.d (.int .i64 op), .d (.str nm), .d (.sl (l.map tyC)), .d (.sl (strs ns)), .d (.int .i64 p.op), .d (.str p.name), .d (.int .i64 p.n), .d (.sl (p.kids.map prC)), .d (.sl (ps.map prC))])]) (fun _ => [(9, [.t 1])]) (fun i => l.length - i.1) ⟨0, by simp⟩ (by simp [varsTs]) ?_
    rintro ⟨i, hi⟩
    by_cases hlt : i < l.length
    · have hg := tys_get hlt
      have hw := wrap64s (show i < 9223372036854775807 by omega)
      have hs := varsTs_step hlt acc
      have hb := varsTs_len (l.take i) acc
      have hb2 := nodTs_step hlt
      have hb3 := nodTs_take_le l (i + 1)
      try simp only [List.length_append, List.length_nil, List.length_cons] at hb
      simp [hlt, hg]
      refine callK.own ent_r19_vars (ih l[i] (List.getElem_mem hlt) (varsTs (l.take i) acc) (by omega)) (by simp) (by simp) (by simp) (by simp; rfl) (by simp) ?_
      simp
      exact Again.mk ⟨i + 1, hlt⟩ (by simp [hw, hs]) (by simp; omega)
    · have : i = l.length := by omega
      subst this
      simp [hv]
theorem r19_vars_nil (t : Ty) (hN : nodT t ≤ 1000000) : CH Tryd.prog G 15 ⟨[.d (.agg (tyD t)), .d .nils], [], []⟩ ⟨[.d (.sl (strs (varsT t [])))], [], [(9, [.t 0])]⟩ :=
  fun base R μ args w hr => r19_vars_ch t [] (by simp; omega) base R μ args w (hr.weak ⟨by simp, by simp, by simp, by simp [keysIn]⟩)
theorem ent_r19_Vars : VM.Enters Tryd.prog 5 := VM.Enters.mk Tryd.func5 rfl
theorem r19_Vars_cs (t : Ty) (hN : nodT t ≤ 1000000) : CS Tryd.prog G 5 [.agg (tyD t)] (.d (.sl (strs (varsT t [])))) (some 9) := by
  refine CS.of_VK Tryd.func5 rfl Tryd.ntmps5 rfl ?_
  simp
  refine callK.own ent_r19_vars (r19_vars_nil t hN) (by simp) (by simp) (by simp) (by simp; rfl) (by simp) ?_
  simp
end Go.Proofs.YtcmpodbjhoeblaaDoor
end

section
set_option linter.unusedVariables false
set_option linter.unusedSimpArgs false
set_option linter.unusedSectionVars false
namespace Go.Proofs.YtcmpodbjhoeblaaDoor
open Go Go.VM
set_option maxRecDepth 100000
set_option maxHeartbeats 8000000
variable {G : GT}
mutual
/-- How many predicates there are in a predicate. -/
def nodP : Pr → Nat
  | ⟨_, _, _, l⟩ => 1 + nodPs l
def nodPs : List Pr → Nat
  | [] => 0
  | t :: r => nodP t + nodPs r
end
mutual
theorem nodP_sz : ∀ p : Pr, nodP p ≤ szL (prC p)
  | ⟨op, nm, n, l⟩ => by
    have := nodPs_sz l
    rw [prC_eq]
    simp only [nodP, szL, szD]
    omega
theorem nodPs_sz : ∀ l : List Pr, nodPs l ≤ szLL (l.map prC)
  | [] => by simp [nodPs, szLL]
  | t :: r => by
    have h1 := nodP_sz t
    have h2 := nodPs_sz r
    simp only [nodPs, List.map_cons, szLL]
    omega
end
theorem nodPs_app : ∀ a b : List Pr, nodPs (a ++ b) = nodPs a + nodPs b
  | [], b => by simp [nodPs]
  | t :: a, b => by
    simp only [List.cons_append, nodPs, nodPs_app a b]
    omega
theorem nodP_kids (p : Pr) : nodP p = 1 + nodPs p.kids := by cases p; rfl
theorem nodPs_step {l : List Pr} {i : Nat} (h : i < l.length) : nodPs (l.take (i + 1)) = nodPs (l.take i) + nodP l[i] := by
  rw [List.take_succ_eq_append_getElem h, nodPs_app]
  simp [nodPs]
theorem nodPs_take_le : ∀ (l : List Pr) (i : Nat), nodPs (l.take i) ≤ nodPs l
  | [], i => by simp
  | t :: r, 0 => by simp [nodPs]
  | t :: r, i + 1 => by
    have := nodPs_take_le r i
    simp only [List.take_succ_cons, nodPs]
    omega
theorem nodP_pos (p : Pr) : 1 ≤ nodP p := by rw [nodP_kids]; omega
theorem len_le_nodPs : ∀ l : List Pr, l.length ≤ nodPs l
  | [] => by simp
  | t :: r => by
    have h1 := nodP_pos t
    have h2 := len_le_nodPs r
    simp only [nodPs, List.length_cons]
    omega
mutual
/-- The levels. -/
def depT : Ty → Nat
  | ⟨_, _, l, _, _, _⟩ => depTs l 0 + 1
def depTs : List Ty → Nat → Nat
  | [], n => n
  | t :: r, n => depTs r (max n (depT t))
end
theorem depT_eq (t : Ty) : depT t = depTs t.args 0 + 1 := by cases t; rfl
theorem depTs_app : ∀ (a b : List Ty) (n : Nat), depTs (a ++ b) n = depTs b (depTs a n)
  | [], b, n => by simp [depTs]
  | t :: a, b, n => by simp only [List.cons_append, depTs, depTs_app a b]
theorem depTs_step {l : List Ty} {i : Nat} (h : i < l.length) (n : Nat) : depTs (l.take (i + 1)) n = max (depTs (l.take i) n) (depT l[i]) := by
  rw [List.take_succ_eq_append_getElem h, depTs_app]
  simp [depTs]
mutual
theorem depT_le : ∀ t : Ty, depT t ≤ nodT t
  | ⟨op, nm, l, ns, p, ps⟩ => by
    have := depTs_le l 0
    simp only [depT, nodT]
    omega
theorem depTs_le : ∀ (l : List Ty) (n : Nat), depTs l n ≤ n + nodTs l
  | [], n => by simp [depTs]
  | t :: r, n => by
    have h1 := depT_le t
    have h2 := depTs_le r (max n (depT t))
    simp only [depTs, nodTs]
    omega
end
theorem max_int (a b : Nat) : (if (a : Int) < (b : Int) then (b : Int) else (a : Int)) = ((max a b : Nat) : Int) := by
  split <;> omega
attribute [simp] max_int
theorem ent_types_depth : VM.Enters Tryd.prog 38 := VM.Enters.mk Tryd.func38 rfl
theorem types_depth_cs : ∀ t : Ty, nodT t ≤ 900000000 → CS Tryd.prog G 38 [.agg (tyD t)] (.d (.int .i64 (depT t))) none := by
  refine Ty.ind fun t ih => ?_
  obtain ⟨op, nm, l, ns, p, ps⟩ := t
  intro hN
  simp only at ih
  have hn := nodT_args ⟨op, nm, l, ns, p, ps⟩
  have hd := depT_eq ⟨op, nm, l, ns, p, ps⟩
  simp only at hn hd
  have hl := len_le_nodTs l
  have hle := depTs_le l 0
  refine CS.of_VK Tryd.func38 rfl Tryd.ntmps38 rfl ?_
  simp
  refine SW.loopF (ι := { i : Nat // i ≤ l.length }) (fun i => [(3, .d (.int .i64 (depTs (l.take i.1) 0))), (9, .d (.int .i64 i.1))]) (fun _ => [(1, .cells [.d (.int .i64 op), .d (.str nm), .d (.sl (l.map tyC)), .d (.sl (strs ns)), .d (.int .i64 p.op), .d (.str p.name), .d (.int .i64 p.n), .d (.sl (p.kids.map prC)), .d (.sl (ps.map prC))])]) (fun _ => []) (fun i => l.length - i.1) ⟨0, by simp⟩ (by simp [depTs]) ?_
  rintro ⟨i, hi⟩
  by_cases hlt : i < l.length
  · have hg := tys_get hlt
    have hw := wrap64s (show i < 9223372036854775807 by omega)
    have hs := depTs_step hlt 0
    have hb2 := nodTs_step hlt
    have hb3 := nodTs_take_le l (i + 1)
    simp [hlt, hg]
    refine callK.mk ent_types_depth (ih l[i] (List.getElem_mem hlt) (by omega)) ?_
    simp
    exact Again.mk ⟨i + 1, hlt⟩ (by simp [hw, hs]; split <;> omega) (by simp; omega)
  · have : i = l.length := by omega
    subst this
    have hw : IntKind.i64.wrap ((depTs l 0 : Int) + 1) = ((depTs l 0 + 1 : Nat) : Int) := wrap64s (by omega)
    simp [hw, hd]
theorem ent_l19_nodes : VM.Enters Tryd.prog 13 := VM.Enters.mk Tryd.func13 rfl
theorem l19_nodes_cs : ∀ t : Ty, nodT t ≤ 900000000 → CS Tryd.prog G 13 [.agg (tyD t)] (.d (.int .i64 (nodT t))) none := by
  refine Ty.ind fun t ih => ?_
  obtain ⟨op, nm, l, ns, p, ps⟩ := t
  intro hN
  simp only at ih
  have hn := nodT_args ⟨op, nm, l, ns, p, ps⟩
  simp only at hn
  have hl := len_le_nodTs l
  refine CS.of_VK Tryd.func13 rfl Tryd.ntmps13 rfl ?_
  simp
  refine SW.loopF (ι := { i : Nat // i ≤ l.length }) (fun i => [(3, .d (.int .i64 (1 + nodTs (l.take i.1) : Nat))), (9, .d (.int .i64 i.1))]) (fun _ => [(1, .cells [.d (.int .i64 op), .d (.str nm), .d (.sl (l.map tyC)), .d (.sl (strs ns)), .d (.int .i64 p.op), .d (.str p.name), .d (.int .i64 p.n), .d (.sl (p.kids.map prC)), .d (.sl (ps.map prC))])]) (fun _ => []) (fun i => l.length - i.1) ⟨0, by simp⟩ (by simp [nodTs]) ?_
  rintro ⟨i, hi⟩
  by_cases hlt : i < l.length
  · have hg := tys_get hlt
    have hw := wrap64s (show i < 9223372036854775807 by omega)
    have hb2 := nodTs_step hlt
    have hb3 := nodTs_take_le l (i + 1)
    have hw2 : IntKind.i64.wrap (((1 + nodTs (l.take i) : Nat) : Int) + (nodT l[i] : Int)) = ((1 + nodTs (l.take (i + 1)) : Nat) : Int) := by rw [wrap64 (by omega), hb2]; omega
    simp [hlt, hg]
    refine callK.mk ent_l19_nodes (ih l[i] (List.getElem_mem hlt) (by omega)) ?_
    simp
    exact Again.mk ⟨i + 1, hlt⟩ (by simp at hw2; simp [hw, hw2]) (by simp; omega)
  · have : i = l.length := by omega
    subst this
    simp [hn]
theorem ent_r7_Nodes : VM.Enters Tryd.prog 14 := VM.Enters.mk Tryd.func14 rfl
theorem r7_Nodes_cs (p : Pr) : nodP p ≤ 900000000 → CS Tryd.prog G 14 [.agg (prD p)] (.d (.int .i64 (nodP p))) none := by
  revert p
  refine Pr.ind fun p ih => ?_
  obtain ⟨op, nm, n, l⟩ := p
  intro hN
  simp only at ih
  have hn := nodP_kids ⟨op, nm, n, l⟩
  simp only at hn
  have hl := len_le_nodPs l
  refine CS.of_VK Tryd.func14 rfl Tryd.ntmps14 rfl ?_
  simp
  refine SW.loopF (ι := { i : Nat // i ≤ l.length }) (fun i => [(3, .d (.int .i64 (1 + nodPs (l.take i.1) : Nat))), (9, .d (.int .i64 i.1))]) (fun _ => [(1, .cells [.d (.int .i64 op), .d (.str nm), .d (.int .i64 n), .d (.sl (l.map prC))])]) (fun _ => []) (fun i => l.length - i.1) ⟨0, by simp⟩ (by simp [nodPs]) ?_
  rintro ⟨i, hi⟩
  by_cases hlt : i < l.length
  · have hg := prs_get hlt
    have hw := wrap64s (show i < 9223372036854775807 by omega)
    have hb2 := nodPs_step hlt
    have hb3 := nodPs_take_le l (i + 1)
    have hw2 : IntKind.i64.wrap (((1 + nodPs (l.take i) : Nat) : Int) + (nodP l[i] : Int)) = ((1 + nodPs (l.take (i + 1)) : Nat) : Int) := by rw [wrap64 (by omega), hb2]; omega
    simp [hlt, hg]
    refine callK.mk ent_r7_Nodes (ih l[i] (List.getElem_mem hlt) (by omega)) ?_
    simp
    exact Again.mk ⟨i + 1, hlt⟩ (by simp at hw2; simp [hw, hw2]) (by simp; omega)
  · have : i = l.length := by omega
    subst this
    simp [hn]
end Go.Proofs.YtcmpodbjhoeblaaDoor
end

section
set_option linter.unusedVariables false
set_option linter.unusedSimpArgs false
set_option linter.unusedSectionVars false
namespace Go.Proofs.YtcmpodbjhoeblaaDoor
open Go Go.VM
set_option maxRecDepth 100000
set_option maxHeartbeats 8000000
variable {G : GT}
theorem stepK_len {P : Program} {q : Bool} {x : Out} {c : Prop} [Decidable c] {dst : Option Tmp} {all : Array Oper} {rest : List Oper} {k : List KI} {Q : Exit → St → Prop} (hc : c) (h : stepK P G q (some x) dst all rest k Q) : stepK P G q (if c then some x else none) dst all rest k Q := by
  rw [if_pos hc]
  exact h
def zeroP : Pr := ⟨0, [], 0, []⟩
mutual
/-- Without refinements. -/
def plainT : Ty → Ty
  | ⟨op, nm, l, _, _, _⟩ => ⟨op, nm, plainTs l, [], zeroP, []⟩
def plainTs : List Ty → List Ty
  | [] => []
  | t :: r => plainT t :: plainTs r
end
theorem plainTs_eq : ∀ l : List Ty, plainTs l = l.map plainT
  | [] => by simp [plainTs]
  | t :: r => by simp [plainTs, plainTs_eq r]
theorem plainT_eq (t : Ty) : plainT t = ⟨t.op, t.name, t.args.map plainT, [], zeroP, []⟩ := by
  cases t
  simp [plainT, plainTs_eq]
mutual
/-- Without refinements; type variables have no arguments. -/
def bareT : Ty → Ty
  | ⟨op, nm, l, _, _, _⟩ => ⟨op, nm, if op = 5 then [] else bareTs l, [], zeroP, []⟩
def bareTs : List Ty → List Ty
  | [] => []
  | t :: r => bareT t :: bareTs r
end
theorem bareTs_eq : ∀ l : List Ty, bareTs l = l.map bareT
  | [] => by simp [bareTs]
  | t :: r => by simp [bareTs, bareTs_eq r]
theorem bareT_eq (t : Ty) : bareT t = ⟨t.op, t.name, if t.op = 5 then [] else t.args.map bareT, [], zeroP, []⟩ := by
  cases t
  simp [bareT, bareTs_eq]
theorem map_step {α β : Type} (f : α → β) {l : List α} {i : Nat} (h : i < l.length) : (l.take (i + 1)).map f = (l.take i).map f ++ [f l[i]] := by
  rw [List.take_succ_eq_append_getElem h, List.map_append]
  rfl
theorem ent_types_Plain : VM.Enters Tryd.prog 33 := VM.Enters.mk Tryd.func33 rfl
theorem types_Plain_cs : ∀ t : Ty, nodT t ≤ 900000000 → CS Tryd.prog G 33 [.agg (tyD t)] (.d (.agg (tyD (plainT t)))) none := by
  refine Ty.ind fun t ih => ?_
  obtain ⟨op, nm, l, ns, p, ps⟩ := t
  intro hN
  simp only at ih
  have hn := nodT_args ⟨op, nm, l, ns, p, ps⟩
  simp only at hn
  have hl := len_le_nodTs l
  have hm := plainT_eq ⟨op, nm, l, ns, p, ps⟩
  simp only at hm
  refine CS.of_VK Tryd.func33 rfl Tryd.ntmps33 rfl ?_
  simp
  refine SW.loopF (ι := { i : Nat // i ≤ l.length }) (fun i => [(14, .d (.int .i64 i.1))]) (fun i => [(1, .cells [.d (.int .i64 op), .d (.str nm), .d (.sl (l.map tyC)), .d (.sl (strs ns)), .d (.int .i64 p.op), .d (.str p.name), .d (.int .i64 p.n), .d (.sl (p.kids.map prC)), .d (.sl (ps.map prC))]), (2, .cells [.d (.int .i64 0), .d (.str []), .d .nils, .d .nils, .d (.int .i64 0), .d (.str []), .d (.int .i64 0), .d .nils, .d .nils]), (3, .cells [.d (.int .i64 op), .d (.str nm), .d (.sl (((l.take i.1).map plainT).map tyC)), .d .nils, .d (.int .i64 0), .d (.str []), .d (.int .i64 0), .d .nils, .d .nils])]) (fun _ => [(30, [.c 3 2])]) (fun i => l.length - i.1) ⟨0, by simp⟩ (by simp) ?_
  rintro ⟨i, hi⟩
  by_cases hlt : i < l.length
  · have hg := tys_get hlt
    have hw := wrap64s (show i < 9223372036854775807 by omega)
    have hs := map_step plainT hlt
    have h9 : ∀ (x : List D), x ∈ List.take i (List.map (tyC ∘ plainT) l) → x.length = 9 := fun x hx => by
      obtain ⟨t, _, rfl⟩ := List.mem_map.1 (List.mem_of_mem_take hx)
      simp
    have hs2 : List.take (i + 1) (List.map (tyC ∘ plainT) l) = List.take i (List.map (tyC ∘ plainT) l) ++ [tyD (plainT l[i])] := by
      have h := map_step (tyC ∘ plainT) hlt
      rw [List.map_take, List.map_take] at h
      rw [h]
      exact congrArg (fun x => List.take i (List.map (tyC ∘ plainT) l) ++ [x]) (tyC_eq (plainT l[i]))
    have hb2 := nodTs_step hlt
    have hb3 := nodTs_take_le l (i + 1)
    simp [hlt, hg]
    refine ⟨.mk, ?_⟩
    refine callK.mk ent_types_Plain (ih l[i] (List.getElem_mem hlt) (by omega)) ?_
    simp
    refine stepK_len ⟨h9, by omega⟩ ?_
    simp
    exact Again.mk ⟨i + 1, hlt⟩ (by simp [hw, hs, hs2]) (by simp; omega)
  · have : i = l.length := by omega
    subst this
    simp [hm, zeroP]
theorem ent_r19_Plain : VM.Enters Tryd.prog 36 := VM.Enters.mk Tryd.func36 rfl
theorem r19_Plain_cs : ∀ t : Ty, nodT t ≤ 900000000 → CS Tryd.prog G 36 [.agg (tyD t)] (.d (.agg (tyD (plainT t)))) none := by
  refine Ty.ind fun t ih => ?_
  obtain ⟨op, nm, l, ns, p, ps⟩ := t
  intro hN
  simp only at ih
  have hn := nodT_args ⟨op, nm, l, ns, p, ps⟩
  simp only at hn
  have hl := len_le_nodTs l
  have hm := plainT_eq ⟨op, nm, l, ns, p, ps⟩
  simp only at hm
  refine CS.of_VK Tryd.func36 rfl Tryd.ntmps36 rfl ?_
  simp
  refine SW.loopF (ι := { i : Nat // i ≤ l.length }) (fun i => [(14, .d (.int .i64 i.1))]) (fun i => [(1, .cells [.d (.int .i64 op), .d (.str nm), .d (.sl (l.map tyC)), .d (.sl (strs ns)), .d (.int .i64 p.op), .d (.str p.name), .d (.int .i64 p.n), .d (.sl (p.kids.map prC)), .d (.sl (ps.map prC))]), (2, .cells [.d (.int .i64 0), .d (.str []), .d .nils, .d .nils, .d (.int .i64 0), .d (.str []), .d (.int .i64 0), .d .nils, .d .nils]), (3, .cells [.d (.int .i64 op), .d (.str nm), .d (.sl (((l.take i.1).map plainT).map tyC)), .d .nils, .d (.int .i64 0), .d (.str []), .d (.int .i64 0), .d .nils, .d .nils])]) (fun _ => [(30, [.c 3 2])]) (fun i => l.length - i.1) ⟨0, by simp⟩ (by simp) ?_
  rintro ⟨i, hi⟩
  by_cases hlt : i < l.length
  · have hg := tys_get hlt
    have hw := wrap64s (show i < 9223372036854775807 by omega)
    have hs := map_step plainT hlt
    have h9 : ∀ (x : List D), x ∈ List.take i (List.map (tyC ∘ plainT) l) → x.length = 9 := fun x hx => by
      obtain ⟨t, _, rfl⟩ := List.mem_map.1 (List.mem_of_mem_take hx)
      simp
    have hs2 : List.take (i + 1) (List.map (tyC ∘ plainT) l) = List.take i (List.map (tyC ∘ plainT) l) ++ [tyD (plainT l[i])] := by
      have h := map_step (tyC ∘ plainT) hlt
      rw [List.map_take, List.map_take] at h
      rw [h]
      exact congrArg (fun x => List.take i (List.map (tyC ∘ plainT) l) ++ [x]) (tyC_eq (plainT l[i]))
    have hb2 := nodTs_step hlt
    have hb3 := nodTs_take_le l (i + 1)
    simp [hlt, hg]
    refine ⟨.mk, ?_⟩
    refine callK.mk ent_r19_Plain (ih l[i] (List.getElem_mem hlt) (by omega)) ?_
    simp
    refine stepK_len ⟨h9, by omega⟩ ?_
    simp
    exact Again.mk ⟨i + 1, hlt⟩ (by simp [hw, hs, hs2]) (by simp; omega)
  · have : i = l.length := by omega
    subst this
    simp [hm, zeroP]
mutual
/-- Whether plain types are equal. -/
def sameT : Ty → Ty → Bool
  | ⟨o, n, l, _, _, _⟩, ⟨o', n', l', _, _, _⟩ => decide (o = o') && (decide (n = n') && (decide (l.length = l'.length) && sameTs l l'))
def sameTs : List Ty → List Ty → Bool
  | a :: r, b :: s => sameT a b && sameTs r s
  | [], _ => true
  | _ :: _, [] => true
end
theorem sameT_eq (a b : Ty) : sameT a b = (decide (a.op = b.op) && (decide (a.name = b.name) && (decide (a.args.length = b.args.length) && sameTs a.args b.args))) := by cases a; cases b; rfl
theorem sameTs_drop {l k : List Ty} {i : Nat} (h : i < l.length) (h' : i < k.length) : sameTs (l.drop i) (k.drop i) = (sameT l[i] k[i] && sameTs (l.drop (i + 1)) (k.drop (i + 1))) := by
  rw [List.drop_eq_getElem_cons h, List.drop_eq_getElem_cons h']
  rfl
theorem sameTs_end (l k : List Ty) : sameTs (l.drop l.length) k = true := by simp [sameTs]
theorem ent_types_Same : VM.Enters Tryd.prog 34 := VM.Enters.mk Tryd.func34 rfl
theorem types_Same_cs : ∀ t u : Ty, nodT t ≤ 900000000 → CS Tryd.prog G 34 [.agg (tyD t), .agg (tyD u)] (.d (.bool (sameT t u))) none := by
  refine Ty.ind fun t ih => ?_
  obtain ⟨op, nm, l, ns, p, ps⟩ := t
  intro u hN
  obtain ⟨op', nm', l', ns', p', ps'⟩ := u
  simp only at ih
  have hn := nodT_args ⟨op, nm, l, ns, p, ps⟩
  have hq := sameT_eq ⟨op, nm, l, ns, p, ps⟩ ⟨op', nm', l', ns', p', ps'⟩
  simp only at hn hq
  have hl := len_le_nodTs l
  refine CS.of_VK Tryd.func34 rfl Tryd.ntmps34 rfl ?_
  by_cases h1 : op = op'
  · by_cases h2 : nm = nm'
    · by_cases h3 : l.length = l'.length
      · simp only [h1, h2, h3, decide_true, Bool.true_and] at hq
        simp [h1, h2, h3]
        refine SW.loopF (ι := { i : Nat // i ≤ l.length ∧ sameTs (l.drop i) (l'.drop i) = sameTs l l' }) (fun i => [(30, .d (.int .i64 i.1))]) (fun i => [(2, .cells [.d (.int .i64 op'), .d (.str nm'), .d (.sl (l.map tyC)), .d (.sl (strs ns)), .d (.int .i64 p.op), .d (.str p.name), .d (.int .i64 p.n), .d (.sl (p.kids.map prC)), .d (.sl (ps.map prC))]), (3, .cells [.d (.int .i64 op'), .d (.str nm'), .d (.sl (l'.map tyC)), .d (.sl (strs ns')), .d (.int .i64 p'.op), .d (.str p'.name), .d (.int .i64 p'.n), .d (.sl (p'.kids.map prC)), .d (.sl (ps'.map prC))])]) (fun _ => []) (fun i => l.length - i.1) ⟨0, by simp⟩ (by simp) ?_
        rintro ⟨i, hi, hR⟩
        try simp only at hi hR
        by_cases hlt : i < l.length
        · have hlt' : i < l'.length := by omega
          have hg := tys_get hlt
          have hg' := tys_get hlt'
          have hw := wrap64s (show i < 9223372036854775807 by omega)
          have hb2 := nodTs_step hlt
          have hb3 := nodTs_take_le l (i + 1)
          rw [sameTs_drop hlt hlt'] at hR
          simp [hlt', hlt, hg, hg']
          refine ⟨.mk, ?_⟩
          refine callK.mk ent_types_Same (ih l[i] (List.getElem_mem hlt) l'[i] (by omega)) ?_
          cases hs : sameT l[i] l'[i]
          · rw [hs, Bool.false_and] at hR
            simp [hs, hq, ← hR]
          · rw [hs, Bool.true_and] at hR
            simp [hs]
            exact Again.mk ⟨i + 1, hlt, hR⟩ (by simp [hw]) (by simp; omega)
        · have : i = l.length := by omega
          subst this
          rw [sameTs_end] at hR
          simp [hq, ← hR, ← h3]
      · simp only [h1, h2, h3, decide_true, decide_false, Bool.true_and, Bool.false_and] at hq
        have h3' : ¬ ((l.length : Int) = (l'.length : Int)) := by omega
        simp [h1, h2, h3, h3', hq]
    · simp only [h1, h2, decide_true, decide_false, Bool.true_and, Bool.false_and] at hq
      simp [h1, h2, hq]
  · simp only [h1, decide_false, Bool.false_and] at hq
    simp [h1, hq]
theorem ent_r19_Same : VM.Enters Tryd.prog 37 := VM.Enters.mk Tryd.func37 rfl
theorem r19_Same_cs : ∀ t u : Ty, nodT t ≤ 900000000 → CS Tryd.prog G 37 [.agg (tyD t), .agg (tyD u)] (.d (.bool (sameT t u))) none := by
  refine Ty.ind fun t ih => ?_
  obtain ⟨op, nm, l, ns, p, ps⟩ := t
  intro u hN
  obtain ⟨op', nm', l', ns', p', ps'⟩ := u
  simp only at ih
  have hn := nodT_args ⟨op, nm, l, ns, p, ps⟩
  have hq := sameT_eq ⟨op, nm, l, ns, p, ps⟩ ⟨op', nm', l', ns', p', ps'⟩
  simp only at hn hq
  have hl := len_le_nodTs l
  refine CS.of_VK Tryd.func37 rfl Tryd.ntmps37 rfl ?_
  by_cases h1 : op = op'
  · by_cases h2 : nm = nm'
    · by_cases h3 : l.length = l'.length
      · simp only [h1, h2, h3, decide_true, Bool.true_and] at hq
        simp [h1, h2, h3]
        refine SW.loopF (ι := { i : Nat // i ≤ l.length ∧ sameTs (l.drop i) (l'.drop i) = sameTs l l' }) (fun i => [(30, .d (.int .i64 i.1))]) (fun i => [(2, .cells [.d (.int .i64 op'), .d (.str nm'), .d (.sl (l.map tyC)), .d (.sl (strs ns)), .d (.int .i64 p.op), .d (.str p.name), .d (.int .i64 p.n), .d (.sl (p.kids.map prC)), .d (.sl (ps.map prC))]), (3, .cells [.d (.int .i64 op'), .d (.str nm'), .d (.sl (l'.map tyC)), .d (.sl (strs ns')), .d (.int .i64 p'.op), .d (.str p'.name), .d (.int .i64 p'.n), .d (.sl (p'.kids.map prC)), .d (.sl (ps'.map prC))])]) (fun _ => []) (fun i => l.length - i.1) ⟨0, by simp⟩ (by simp) ?_
        rintro ⟨i, hi, hR⟩
        try simp only at hi hR
        by_cases hlt : i < l.length
        · have hlt' : i < l'.length := by omega
          have hg := tys_get hlt
          have hg' := tys_get hlt'
          have hw := wrap64s (show i < 9223372036854775807 by omega)
          have hb2 := nodTs_step hlt
          have hb3 := nodTs_take_le l (i + 1)
          rw [sameTs_drop hlt hlt'] at hR
          simp [hlt', hlt, hg, hg']
          refine ⟨.mk, ?_⟩
          refine callK.mk ent_r19_Same (ih l[i] (List.getElem_mem hlt) l'[i] (by omega)) ?_
          cases hs : sameT l[i] l'[i]
          · rw [hs, Bool.false_and] at hR
            simp [hs, hq, ← hR]
          · rw [hs, Bool.true_and] at hR
            simp [hs]
            exact Again.mk ⟨i + 1, hlt, hR⟩ (by simp [hw]) (by simp; omega)
        · have : i = l.length := by omega
          subst this
          rw [sameTs_end] at hR
          simp [hq, ← hR, ← h3]
      · simp only [h1, h2, h3, decide_true, decide_false, Bool.true_and, Bool.false_and] at hq
        have h3' : ¬ ((l.length : Int) = (l'.length : Int)) := by omega
        simp [h1, h2, h3, h3', hq]
    · simp only [h1, h2, decide_true, decide_false, Bool.true_and, Bool.false_and] at hq
      simp [h1, h2, hq]
  · simp only [h1, decide_false, Bool.false_and] at hq
    simp [h1, hq]
end Go.Proofs.YtcmpodbjhoeblaaDoor
end
