/- Constraints: the walks of the names, of the statements' own functions. No condition. -/
import Derived.Test.YthikbenglkfioaaGreatDoorCf
set_option linter.unusedVariables false
set_option linter.unusedSimpArgs false
set_option linter.unusedSectionVars false
namespace Go.Proofs.YthikbenglkfioaaGreatDoor
open Go Go.VM
set_option maxRecDepth 100000
set_option maxHeartbeats 8000000
variable {G : GT}
def nH (acc : List Nm) : List (Nat × AObj) := [(100000, .cells [.d (.sl (strs acc))]), (100001, .cells [.clo 101 [.ptr 100000 0, .ptr 100001 0]])]
theorem ent_names1 : VM.Enters Tryz.prog 101 := VM.Enters.mk Tryz.func101 rfl
theorem namesC_three {c : Cn} {acc : List Nm} (h : c.op = 3) : namesC c acc = acc := by rw [namesC_eq, if_pos h]
theorem nodCs_take_le : ∀ (l : List Cn) (i : Nat), nodCs (l.take i) ≤ nodCs l
  | [], i => by simp
  | t :: r, 0 => by simp [nodCs]
  | t :: r, i + 1 => by
    have := nodCs_take_le r i
    simp only [List.take_succ_cons, nodCs]
    omega
theorem nodC_pos (c : Cn) : 1 ≤ nodC c := by rw [nodC_eq]; omega
theorem len_le_nodCs : ∀ l : List Cn, l.length ≤ nodCs l
  | [] => by simp
  | t :: r => by
    have h1 := nodC_pos t
    have h2 := len_le_nodCs r
    simp only [nodCs, List.length_cons]
    omega
theorem isEmpty_false {α : Type} {l : List α} (h : ¬ l = []) : l.isEmpty = false := by cases l <;> simp at h ⊢
theorem names1_ch : ∀ (c : Cn) (acc : List Nm), acc.length + nodC c ≤ 900000000 →
    CH Tryz.prog G 101 ⟨[.d (.agg (cnD c)), .ptr 100000 0, .ptr 100001 0], nH acc, [(9, [.c 100000 0])]⟩ ⟨[.tup []], nH (namesC c acc), [(9, [.c 100000 0])]⟩ := by
  refine Cn.ind fun c ih => ?_
  obtain ⟨op, nm, s, p, t, l⟩ := c
  intro acc hacc
  simp only at ih
  have hn := nodC_eq ⟨op, nm, s, p, t, l⟩
  have hm := namesC_eq ⟨op, nm, s, p, t, l⟩ acc
  simp only at hn hm
  have hl := len_le_nodCs l
  refine CH.of_VK Tryz.func101 rfl Tryz.ntmps101 rfl (by simp) ?_
  by_cases h3 : op = 3
  · rw [if_pos h3] at hm
    simp [h3, nH, hm]
    simp [← h3, hm]
  rw [if_neg h3] at hm
  by_cases h2 : op = 2
  · subst h2
    by_cases hne : nm = []
    · subst hne
      have ha : addC 2 [] acc = acc := by simp [addC]
      rw [ha] at hm
      simp [nH]
      refine SW.loopF (ι := { i : Nat // i ≤ l.length }) (fun i => [(32, .d (.int .i64 i.1))]) (fun i => (3, cnO 2 [] s p t (.sl (l.map cnC))) :: nH (namesCs (l.take i.1) (acc))) (fun _ => [(9, [.c 100000 0])]) (fun i => l.length - i.1) ⟨0, by simp⟩ (by simp [namesCs, nH]) ?_
      rintro ⟨i, hi⟩
      by_cases hlt : i < l.length
      · have hg := cns_get hlt
        have hw := wrap64s (show i < 9223372036854775807 by omega)
        have hsx := namesCs_step hlt (acc)
        have hb := namesCs_len (l.take i) (acc)
        have hb2 := nodCs_step hlt
        have hb3 := nodCs_take_le l (i + 1)
        try simp only [List.length_append, List.length_nil, List.length_cons] at hb
        by_cases hk3 : l[i].op = 3
        · rw [namesC_three hk3] at hsx
          simp [hlt, hg, nH, hk3]
          exact Again.mk ⟨i + 1, hlt⟩ (by simp [hw, hsx, nH]) (by simp; omega)
        · simp [hlt, hg, nH, hk3]
          refine callHK.mk ent_names1 (ih l[i] (List.getElem_mem hlt) (namesCs (l.take i) (acc)) (by omega)) [(100000, 100000), (100001, 100001)] (by simp [nH]) (by simp) (by simp [nH]) (by simp; rfl) (by simp) ?_
          simp [nH]
          exact Again.mk ⟨i + 1, hlt⟩ (by simp [hw, hsx, nH]) (by simp; omega)
      · have : i = l.length := by omega
        subst this
        simp [nH, hm]
    · have hne' := isEmpty_false hne
      have hcn := contains_cs (G := G) acc nm (by omega)
      simp [hne, hne', nH]
      refine callK.mk ent_contains hcn ?_
      by_cases hmem : nm ∈ acc
      · have ha : addC 2 nm acc = acc := by simp [addC, hmem]
        rw [ha] at hm
        simp [hmem]
        refine SW.loopF (ι := { i : Nat // i ≤ l.length }) (fun i => [(32, .d (.int .i64 i.1))]) (fun i => (3, cnO 2 nm s p t (.sl (l.map cnC))) :: nH (namesCs (l.take i.1) (acc))) (fun _ => [(9, [.c 100000 0])]) (fun i => l.length - i.1) ⟨0, by simp⟩ (by simp [namesCs, nH]) ?_
        rintro ⟨i, hi⟩
        by_cases hlt : i < l.length
        · have hg := cns_get hlt
          have hw := wrap64s (show i < 9223372036854775807 by omega)
          have hsx := namesCs_step hlt (acc)
          have hb := namesCs_len (l.take i) (acc)
          have hb2 := nodCs_step hlt
          have hb3 := nodCs_take_le l (i + 1)
          try simp only [List.length_append, List.length_nil, List.length_cons] at hb
          by_cases hk3 : l[i].op = 3
          · rw [namesC_three hk3] at hsx
            simp [hlt, hg, nH, hk3]
            exact Again.mk ⟨i + 1, hlt⟩ (by simp [hw, hsx, nH]) (by simp; omega)
          · simp [hlt, hg, nH, hk3]
            refine callHK.mk ent_names1 (ih l[i] (List.getElem_mem hlt) (namesCs (l.take i) (acc)) (by omega)) [(100000, 100000), (100001, 100001)] (by simp [nH]) (by simp) (by simp [nH]) (by simp; rfl) (by simp) ?_
            simp [nH]
            exact Again.mk ⟨i + 1, hlt⟩ (by simp [hw, hsx, nH]) (by simp; omega)
        · have : i = l.length := by omega
          subst this
          simp [nH, hm]
      · have ha : addC 2 nm acc = acc ++ [nm] := by simp [addC, hmem, hne]
        rw [ha] at hm
        have hsz : (acc.length + 1) * 17 ≤ 140737488355328 := by omega
        simp [hmem, hsz]
        refine SW.loopF (ι := { i : Nat // i ≤ l.length }) (fun i => [(32, .d (.int .i64 i.1))]) (fun i => (3, cnO 2 nm s p t (.sl (l.map cnC))) :: nH (namesCs (l.take i.1) (acc ++ [nm]))) (fun _ => [(9, [.c 100000 0])]) (fun i => l.length - i.1) ⟨0, by simp⟩ (by simp [namesCs, nH]) ?_
        rintro ⟨i, hi⟩
        by_cases hlt : i < l.length
        · have hg := cns_get hlt
          have hw := wrap64s (show i < 9223372036854775807 by omega)
          have hsx := namesCs_step hlt (acc ++ [nm])
          have hb := namesCs_len (l.take i) (acc ++ [nm])
          have hb2 := nodCs_step hlt
          have hb3 := nodCs_take_le l (i + 1)
          try simp only [List.length_append, List.length_nil, List.length_cons] at hb
          by_cases hk3 : l[i].op = 3
          · rw [namesC_three hk3] at hsx
            simp [hlt, hg, nH, hk3]
            exact Again.mk ⟨i + 1, hlt⟩ (by simp [hw, hsx, nH]) (by simp; omega)
          · simp [hlt, hg, nH, hk3]
            refine callHK.mk ent_names1 (ih l[i] (List.getElem_mem hlt) (namesCs (l.take i) (acc ++ [nm])) (by omega)) [(100000, 100000), (100001, 100001)] (by simp [nH]) (by simp) (by simp [nH]) (by simp; rfl) (by simp) ?_
            simp [nH]
            exact Again.mk ⟨i + 1, hlt⟩ (by simp [hw, hsx, nH]) (by simp; omega)
        · have : i = l.length := by omega
          subst this
          simp [nH, hm]
  · have ha : addC op nm acc = acc := by simp [addC, h2]
    rw [ha] at hm
    simp [h2, h3, nH]
    refine SW.loopF (ι := { i : Nat // i ≤ l.length }) (fun i => [(32, .d (.int .i64 i.1))]) (fun i => (3, cnO op nm s p t (.sl (l.map cnC))) :: nH (namesCs (l.take i.1) (acc))) (fun _ => [(9, [.c 100000 0])]) (fun i => l.length - i.1) ⟨0, by simp⟩ (by simp [namesCs, nH]) ?_
    rintro ⟨i, hi⟩
    by_cases hlt : i < l.length
    · have hg := cns_get hlt
      have hw := wrap64s (show i < 9223372036854775807 by omega)
      have hsx := namesCs_step hlt (acc)
      have hb := namesCs_len (l.take i) (acc)
      have hb2 := nodCs_step hlt
      have hb3 := nodCs_take_le l (i + 1)
      try simp only [List.length_append, List.length_nil, List.length_cons] at hb
      by_cases hk3 : l[i].op = 3
      · rw [namesC_three hk3] at hsx
        simp [hlt, hg, nH, hk3]
        exact Again.mk ⟨i + 1, hlt⟩ (by simp [hw, hsx, nH]) (by simp; omega)
      · simp [hlt, hg, nH, hk3]
        refine callHK.mk ent_names1 (ih l[i] (List.getElem_mem hlt) (namesCs (l.take i) (acc)) (by omega)) [(100000, 100000), (100001, 100001)] (by simp [nH]) (by simp) (by simp [nH]) (by simp; rfl) (by simp) ?_
        simp [nH]
        exact Again.mk ⟨i + 1, hlt⟩ (by simp [hw, hsx, nH]) (by simp; omega)
    · have : i = l.length := by omega
      subst this
      simp [nH, hm]
theorem ent_constraint_Names : VM.Enters Tryz.prog 59 := VM.Enters.mk Tryz.func59 rfl
theorem constraint_Names_cs (c : Cn) (h : nodC c ≤ 900000000) : CS Tryz.prog G 59 [.agg (cnD c)] (.d (.sl (strs (namesC c [])))) none := by
  have := names1_ch (G := G) c [] (by simpa using h)
  refine CS.of_VK Tryz.func59 rfl Tryz.ntmps59 rfl ?_
  simp
  refine callHK.mk ent_names1 this [(100000, 3), (100001, 4)] (by simp [nH]) (by simp) (by simp [nH]) (by simp; rfl) (by simp) ?_
  simp [nH]
theorem find_neg2 (s : Nm) (l : List Nm) : (findI s l 0 < 0) ↔ s ∉ l := by
  have h := findI_any s l 0
  constructor
  · intro hlt hm
    have : (l.any fun k => decide (k = s)) = true := List.any_eq_true.2 ⟨s, hm, by simp⟩
    rw [this] at h
    have := of_decide_eq_true h
    omega
  · intro hm
    have : (l.any fun k => decide (k = s)) = false := by
      rw [List.any_eq_false]
      intro x hx
      simp only [decide_eq_true_eq]
      exact fun e => hm (e ▸ hx)
    rw [this] at h
    have := of_decide_eq_false h
    omega
/-! ### The statements' own functions -/
theorem ent_l38_count : VM.Enters Tryz.prog 46 := VM.Enters.mk Tryz.func46 rfl
theorem l38_count_cs : ∀ c : Cn, nodC c ≤ 900000000 → CS Tryz.prog G 46 [.agg (cnD c)] (.d (.int .i64 (nodC c))) none := by
  refine Cn.ind fun c ih => ?_
  obtain ⟨op, nm, s, p, t, l⟩ := c
  intro hN
  simp only at ih
  have hn := nodC_eq ⟨op, nm, s, p, t, l⟩
  simp only at hn
  have hl := len_le_nodCs l
  refine CS.of_VK Tryz.func46 rfl Tryz.ntmps46 rfl ?_
  simp
  refine SW.loopF (ι := { i : Nat // i ≤ l.length }) (fun i => [(3, .d (.int .i64 (1 + nodCs (l.take i.1) : Nat))), (9, .d (.int .i64 i.1))]) (fun _ => [(1, cnO op nm s p t (.sl (l.map cnC)))]) (fun _ => []) (fun i => l.length - i.1) ⟨0, by simp⟩ (by simp [nodCs]) ?_
  rintro ⟨i, hi⟩
  by_cases hlt : i < l.length
  · have hg := cns_get hlt
    have hw := wrap64s (show i < 9223372036854775807 by omega)
    have hb2 := nodCs_step hlt
    have hb3 := nodCs_take_le l (i + 1)
    have hw2 : IntKind.i64.wrap (((1 + nodCs (l.take i) : Nat) : Int) + (nodC l[i] : Int)) = ((1 + nodCs (l.take (i + 1)) : Nat) : Int) := by rw [wrap64 (by omega), hb2]; omega
    simp [hlt, hg]
    refine callK.mk ent_l38_count (ih l[i] (List.getElem_mem hlt) (by omega)) ?_
    simp
    exact Again.mk ⟨i + 1, hlt⟩ (by simp at hw2; simp [hw, hw2]) (by simp; omega)
  · have : i = l.length := by omega
    subst this
    simp [hn]
mutual
def fewC : Cn → Bool
  | ⟨op, nm, s, p, t, l⟩ => decide (nodC ⟨op, nm, s, p, t, l⟩ ≤ 60) && (decide (nodP p ≤ 60) && (fewCs l && decide (l.length ≤ 60)))
def fewCs : List Cn → Bool
  | [] => true
  | c :: r => fewC c && fewCs r
end
/-- At most 60 constraints in each, and 60 of them; predicates of at most 60 nodes. -/
def fewB (l : List Cn) : Bool := fewCs l && decide (l.length ≤ 60)
theorem fewC_eq (c : Cn) : fewC c = (decide (nodC c ≤ 60) && (decide (nodP c.pred ≤ 60) && fewB c.kids)) := by cases c; rfl
theorem fewCs_drop {l : List Cn} {i : Nat} (h : i < l.length) : fewCs (l.drop i) = (fewC l[i] && fewCs (l.drop (i + 1))) := by
  rw [List.drop_eq_getElem_cons h]
  rfl
theorem fewCs_end (l : List Cn) : fewCs (l.drop l.length) = true := by simp [fewCs]
theorem ent_l38_few : VM.Enters Tryz.prog 17 := VM.Enters.mk Tryz.func17 rfl
theorem l38_few_cs : ∀ (n : Nat) (l : List Cn), wtCs l ≤ n → n ≤ 900000000 → CS Tryz.prog G 17 [.sl (l.map cnC)] (.d (.bool (fewB l))) none := by
  intro n
  induction n with
  | zero =>
    intro l hl _
    have := len_le_wtCs l
    have : l = [] := List.length_eq_zero_iff.1 (by omega)
    subst this
    refine CS.of_VK Tryz.func17 rfl Tryz.ntmps17 rfl ?_
    simp
    refine SW.loopF (ι := Unit) (fun i => [(7, .d (.int .i64 0))]) (fun i => []) (fun _ => []) (fun i => 0) () (by simp) ?_
    rintro ⟨⟩
    simp [fewB, fewCs]
  | succ n ihn =>
    intro l hl hn
    have hll := len_le_wtCs l
    refine CS.of_VK Tryz.func17 rfl Tryz.ntmps17 rfl ?_
    simp
    refine SW.loopF (ι := { i : Nat // i ≤ l.length ∧ fewCs (l.drop i) = fewCs l }) (fun i => [(7, .d (.int .i64 i.1))]) (fun i => []) (fun _ => []) (fun i => l.length - i.1) ⟨0, by simp⟩ (by simp) ?_
    rintro ⟨i, hi, hR⟩
    try simp only at hi hR
    by_cases hlt : i < l.length
    · have hg := cns_get hlt
      have hw := wrap64s (show i < 9223372036854775807 by omega)
      have hb2 := wtCs_step hlt
      have hb3 := wtCs_take_le l (i + 1)
      have hk := wtC_eq l[i]
      have hnw := nodC_wt l[i]
      have hf := fewC_eq l[i]
      have hc := l38_count_cs (G := G) l[i] (by omega)
      have hnp := r7_Nodes_cs (G := G) l[i].pred (by omega)
      have hfk := ihn l[i].kids (by omega) (by omega)
      rw [fewCs_drop hlt] at hR
      simp [hlt, hg]
      refine callK.mk ent_l38_count hc ?_
      by_cases h1 : 60 < nodC l[i]
      · have h1' : ¬ nodC l[i] ≤ 60 := by omega
        rw [hf] at hR
        simp [h1'] at hR
        simp [h1, fewB, hR]
      · have h1' : nodC l[i] ≤ 60 := by omega
        simp [h1']  at hf
        simp [h1]
        refine callK.mk ent_r7_Nodes hnp ?_
        by_cases h2 : 60 < nodP l[i].pred
        · have h2' : ¬ nodP l[i].pred ≤ 60 := by omega
          rw [hf] at hR
          simp [h2'] at hR
          simp [h2, fewB, hR]
        · have h2' : nodP l[i].pred ≤ 60 := by omega
          simp [h2'] at hf
          simp [h2]
          refine callK.mk ent_l38_few hfk ?_
          cases hs : fewB l[i].kids
          · rw [hf, hs, Bool.false_and] at hR
            simp [fewB, ← hR]
          · rw [hf, hs, Bool.true_and] at hR
            simp
            exact Again.mk ⟨i + 1, hlt, hR⟩ (by simp [hw]) (by simp; omega)
    · have : i = l.length := by omega
      subst this
      rw [fewCs_end] at hR
      simp [fewB, ← hR]
mutual
/-- Predicates of at most 5 levels. -/
def shC : Cn → Bool
  | ⟨_, _, _, p, _, l⟩ => shCs l && decide (depP p ≤ 5)
def shCs : List Cn → Bool
  | [] => true
  | c :: r => shC c && shCs r
end
theorem shC_eq (c : Cn) : shC c = (shCs c.kids && decide (depP c.pred ≤ 5)) := by cases c; rfl
theorem shCs_drop {l : List Cn} {i : Nat} (h : i < l.length) : shCs (l.drop i) = (shC l[i] && shCs (l.drop (i + 1))) := by
  rw [List.drop_eq_getElem_cons h]
  rfl
theorem shCs_end (l : List Cn) : shCs (l.drop l.length) = true := by simp [shCs]
end Go.Proofs.YthikbenglkfioaaGreatDoor
