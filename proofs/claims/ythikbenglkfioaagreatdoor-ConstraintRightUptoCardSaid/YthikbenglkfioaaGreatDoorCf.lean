/- Constraints: the walks of filling, of the names, of the statements' own functions. No condition. -/
import Derived.Test.YthikbenglkfioaaGreatDoorCe
set_option linter.unusedVariables false
set_option linter.unusedSimpArgs false
set_option linter.unusedSectionVars false
namespace Go.Proofs.YthikbenglkfioaaGreatDoor
open Go Go.VM
set_option maxRecDepth 100000
set_option maxHeartbeats 8000000
variable {G : GT}
/-! ### Filling -/
mutual
/-- No predicate grows too large by filling. -/
def LvC : Cn → Prop
  | ⟨_, _, _, p, _, l⟩ => nodP p * 10 ^ depP p ≤ 900000000 ∧ LvCs l
def LvCs : List Cn → Prop
  | [] => True
  | c :: r => LvC c ∧ LvCs r
end
theorem LvCs_get : ∀ {l : List Cn} {i : Nat} (_ : LvCs l) (hi : i < l.length), LvC l[i]
  | t :: r, 0, h, _ => h.1
  | t :: r, i + 1, h, hi => LvCs_get (i := i) h.2 (by simpa using hi)
theorem fillCs_eq (H : List (Nm × List Nm)) (S : List (Nm × Pr)) : ∀ l, fillCs H S l = l.map (fillC H S)
  | [] => by simp [fillCs]
  | c :: r => by simp [fillCs, fillCs_eq H S r]
theorem fillC_eq (H : List (Nm × List Nm)) (S : List (Nm × Pr)) (c : Cn) : fillC H S c = ⟨c.op, c.name, c.sort, if c.pred = zerP then c.pred else fillP H S c.pred, c.tag, c.kids.map (fillC H S)⟩ := by
  cases c
  rw [fillC, fillCs_eq]
/-! ### Equality of clauses -/
def OkL (c : Cl) : Prop := c.vars.length ≤ 900000000 ∧ nodPs c.hyps ≤ 900000000 ∧ nodP c.head ≤ 900000000
theorem samA_dec (l l' : List Pr) : samA l l' = decide (l = l') := by
  rw [Bool.eq_iff_iff, samA_iff]
  simp
abbrev clO (c : Cl) : AObj := .cells [.d (.sl (c.vars.map vrC)), .d (.sl (c.hyps.map prC)), .d (.int .i64 c.head.op), .d (.str c.head.name), .d (.int .i64 c.head.n), .d (.sl (c.head.kids.map prC)), .d (.int .i64 c.tag)]
theorem ent_r38_SameClause : VM.Enters Tryz.prog 100 := VM.Enters.mk Tryz.func100 rfl
theorem r38_SameClause_cs (a b : Cl) (h : OkL a) : CS Tryz.prog G 100 [.agg (clD a), .agg (clD b)] (.d (.bool (decide (a = b)))) none := by
  obtain ⟨h1, h2, h3⟩ := h
  have e1 := r7_SameAll_cs (G := G) a.hyps b.hyps h2
  have e2 := r7_Same_cs (G := G) a.head b.head h3
  rw [samA_dec] at e1
  rw [samP_dec] at e2
  refine CS.of_VK Tryz.func100 rfl Tryz.ntmps100 rfl ?_
  by_cases q1 : a.vars.length = b.vars.length
  rotate_left
  · have hne : ¬ a = b := fun e => q1 (by rw [e])
    have q1' : ¬ ((a.vars.length : Int) = (b.vars.length : Int)) := by omega
    simp [q1, q1', hne]
  simp [q1]
  refine callK.mk ent_r7_SameAll e1 ?_
  by_cases q2 : a.hyps = b.hyps
  rotate_left
  · have hne : ¬ a = b := fun e => q2 (by rw [e])
    simp [q2, hne]
  simp [q2]
  refine callK.mk ent_r7_Same e2 ?_
  by_cases q3 : a.head = b.head
  rotate_left
  · have hne : ¬ a = b := fun e => q3 (by rw [e])
    simp [q3, hne]
  by_cases q4 : a.tag = b.tag
  rotate_left
  · have hne : ¬ a = b := fun e => q4 (by rw [e])
    simp [q3, q4, hne]
  have hab : decide (a = b) = decide (a.vars = b.vars) := by
    obtain ⟨v, hh, hd, t⟩ := a
    obtain ⟨v', hh', hd', t'⟩ := b
    simp only at q2 q3 q4
    subst q2 q3 q4
    simp
  rw [hab]
  simp [q3, q4]
  refine SW.loopF (ι := { i : Nat // i ≤ a.vars.length ∧ decide (a.vars.drop i = b.vars.drop i) = decide (a.vars = b.vars) }) (fun i => [(39, .d (.int .i64 i.1))]) (fun i => [(2, .cells [.d (.sl (a.vars.map vrC)), .undef, .undef, .undef, .undef, .undef, .undef]), (3, .cells [.d (.sl (b.vars.map vrC)), .undef, .undef, .undef, .undef, .undef, .undef])]) (fun _ => []) (fun i => a.vars.length - i.1) ⟨0, by simp⟩ (by simp) ?_
  rintro ⟨i, hi, hR⟩
  try simp only at hi hR
  by_cases hlt : i < a.vars.length
  · have hlt' : i < b.vars.length := by omega
    have hg := vrs_get hlt
    have hg' := vrs_get hlt'
    have hw := wrap64s (show i < 9223372036854775807 by omega)
    rw [lists_cmp hlt hlt'] at hR
    simp [hlt', hlt, hg, hg']
    refine ⟨lexOk.mk (by kernel_rfl), ?_⟩
    by_cases hs : a.vars[i] = b.vars[i]
    · simp only [hs, decide_true, Bool.true_and] at hR
      simp [hs]
      exact Again.mk ⟨i + 1, hlt, hR⟩ (by simp [hw]) (by simp; omega)
    · have hs' : ¬ (a.vars[i].1 = b.vars[i].1 ∧ a.vars[i].2 = b.vars[i].2) := fun e => hs (Prod.ext e.1 e.2)
      simp only [hs, decide_false, Bool.false_and] at hR
      by_cases hs1 : a.vars[i].1 = b.vars[i].1
      · have hs2 : ¬ a.vars[i].2 = b.vars[i].2 := fun e => hs' ⟨hs1, e⟩
        simp [hs1, hs2, ← hR]
      · simp [hs1, ← hR]
  · have : i = a.vars.length := by omega
    subst this
    rw [List.drop_length, q1, List.drop_length] at hR
    have hab : a.vars = b.vars := by simpa using hR.symm
    simp [hab]
theorem ent_r38_SameClauses : VM.Enters Tryz.prog 56 := VM.Enters.mk Tryz.func56 rfl
theorem r38_SameClauses_cs (a b : List Cl) (hl : a.length ≤ 900000000) (h : ∀ c ∈ a, OkL c) : CS Tryz.prog G 56 [.sl (a.map clC), .sl (b.map clC)] (.d (.bool (decide (a = b)))) none := by
  refine CS.of_VK Tryz.func56 rfl Tryz.ntmps56 rfl ?_
  by_cases q1 : a.length = b.length
  rotate_left
  · have hne : ¬ a = b := fun e => q1 (by rw [e])
    have q1' : ¬ ((a.length : Int) = (b.length : Int)) := by omega
    simp [q1, q1', hne]
  simp [q1]
  refine SW.loopF (ι := { i : Nat // i ≤ a.length ∧ decide (a.drop i = b.drop i) = decide (a = b) }) (fun i => [(13, .d (.int .i64 i.1))]) (fun i => []) (fun _ => []) (fun i => a.length - i.1) ⟨0, by simp⟩ (by simp) ?_
  rintro ⟨i, hi, hR⟩
  try simp only at hi hR
  by_cases hlt : i < a.length
  · have hlt' : i < b.length := by omega
    have hg := cls_get hlt
    have hg' := cls_get hlt'
    have hw := wrap64s (show i < 9223372036854775807 by omega)
    have e := r38_SameClause_cs (G := G) a[i] b[i] (h _ (List.getElem_mem hlt))
    rw [lists_cmp hlt hlt'] at hR
    simp [hlt', hlt, hg, hg']
    refine ⟨lexOk.mk (by kernel_rfl), ?_⟩
    refine callK.mk ent_r38_SameClause e ?_
    by_cases hs : a[i] = b[i]
    · simp only [hs, decide_true, Bool.true_and] at hR
      simp [hs]
      exact Again.mk ⟨i + 1, hlt, hR⟩ (by simp [hw]) (by simp; omega)
    · simp only [hs, decide_false, Bool.false_and] at hR
      simp [hs, ← hR]
  · have : i = a.length := by omega
    subst this
    rw [List.drop_length, q1, List.drop_length] at hR
    have hab : a = b := by simpa using hR.symm
    subst hab
    simp
mutual
theorem flat_ok : ∀ (c : Cn) (vs : List Vr) (hs : List Pr), ∀ x ∈ flatC c vs hs, x.vars.length ≤ vs.length + wtC c ∧ nodPs x.hyps ≤ nodPs hs + wtC c ∧ nodP x.head ≤ wtC c
  | ⟨op, nm, s, p, t, l⟩, vs, hs => by
    intro x hx
    have h1 := flats_ok l (varsC2 ⟨op, nm, s, p, t, l⟩ vs) (hypsC2 ⟨op, nm, s, p, t, l⟩ hs)
    have h2 := varsC2_len ⟨op, nm, s, p, t, l⟩ vs
    have h3 : nodPs (hypsC2 ⟨op, nm, s, p, t, l⟩ hs) ≤ nodPs hs + nodP p := by
      have := splits_nod p
      unfold hypsC2
      split
      · rw [nodPs_app]
        simp only
        omega
      · omega
    simp only [flatC, wtC] at hx ⊢
    split at hx
    · obtain ⟨q, hq, rfl⟩ := List.mem_map.1 hx
      have := split_nod p q hq
      simp only
      omega
    · obtain ⟨q1, q2, q3⟩ := h1 x hx
      omega
theorem flats_ok : ∀ (l : List Cn) (vs : List Vr) (hs : List Pr), ∀ x ∈ flatCs l vs hs, x.vars.length ≤ vs.length + wtCs l ∧ nodPs x.hyps ≤ nodPs hs + wtCs l ∧ nodP x.head ≤ wtCs l
  | [], vs, hs => by simp [flatCs]
  | c :: r, vs, hs => by
    intro x hx
    have h1 := flat_ok c vs hs
    have h2 := flats_ok r vs hs
    simp only [flatCs, wtCs] at hx ⊢
    rcases List.mem_append.1 hx with hx | hx
    · obtain ⟨q1, q2, q3⟩ := h1 x hx
      omega
    · obtain ⟨q1, q2, q3⟩ := h2 x hx
      omega
theorem splits_nod : ∀ p : Pr, nodPs (splitP p) ≤ nodP p
  | ⟨op, nm, n, l⟩ => by
    by_cases hh : op = 15 ∧ l.length = 2
    · match l, hh with
      | [a, b], ⟨h15, _⟩ =>
        subst h15
        have h1 := splits_nod a
        have h2 := splits_nod b
        rw [splitP_and, nodPs_app]
        simp only [nodP, nodPs]
        omega
    · rw [splitP_other (p := ⟨op, nm, n, l⟩) hh]
      split
      · simp [nodPs]
      · simp [nodPs]
end
theorem flat_OkL {c : Cn} (h : wtC c ≤ 900000000) : ∀ x ∈ flatC c [] [], OkL x := fun x hx => by
  obtain ⟨q1, q2, q3⟩ := flat_ok c [] [] x hx
  simp only [List.length_nil, nodPs, Nat.zero_add] at q1 q2
  exact ⟨by omega, by omega, by omega⟩
/-! ### The names -/
theorem ent_contains : VM.Enters Tryz.prog 102 := VM.Enters.mk Tryz.func102 rfl
theorem contains_cs (l : List Nm) (s : Nm) (hl : l.length ≤ 900000000) : CS Tryz.prog G 102 [.sl (strs l), .str s] (.d (.bool (decide (s ∈ l)))) none := by
  refine CS.of_VK Tryz.func102 rfl Tryz.ntmps102 rfl ?_
  simp
  refine callK.mk ent_sIdx (sIdx_cs l s hl) ?_
  have := find_neg2 s l
  by_cases hm : s ∈ l
  · have h0 : 0 ≤ findI s l 0 := by
      have := mt (find_neg2 s l).1 (fun h => h hm)
      omega
    simp [hm, h0]
  · have h0 : ¬ 0 ≤ findI s l 0 := by
      have := (find_neg2 s l).2 hm
      omega
    simp [hm, h0]
where
  find_neg2 (s : Nm) (l : List Nm) : (findI s l 0 < 0) ↔ s ∉ l := by
    have h := findI_any s l 0
    constructor
    · intro hlt hm
      have : (l.any fun k => decide (k = s)) = true := List.any_eq_true.2 ⟨s, hm, by simp⟩
      rw [this] at h
      have := of_decide_eq_true h
      omega
    · intro hm
      have : (l.any fun k => decide (k = s)) = false := by
        rw [List.any_eq_false]
        intro x hx
        simp only [decide_eq_true_eq]
        exact fun e => hm (e ▸ hx)
      rw [this] at h
      have := of_decide_eq_false h
      omega
end Go.Proofs.YthikbenglkfioaaGreatDoor
