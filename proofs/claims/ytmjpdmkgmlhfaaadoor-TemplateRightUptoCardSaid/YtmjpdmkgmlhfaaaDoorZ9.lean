/- Joined texts. Whether texts, predicates, types with all their fields are the same; first order. Predicates the same; first order. No condition. -/
import Derived.Test.YtmjpdmkgmlhfaaaDoorZ8
section
set_option linter.unusedVariables false
set_option linter.unusedSimpArgs false
set_option linter.unusedSectionVars false
namespace Go.Proofs.YtmjpdmkgmlhfaaaDoor
open Go Go.VM
set_option maxRecDepth 100000
set_option maxHeartbeats 8000000
variable {G : GT}
/-- Lists of texts are equal from a place on. -/
theorem strs_cmp {a b : List Nm} {i : Nat} (h : i < a.length) (h' : i < b.length) : decide (a.drop i = b.drop i) = (decide (a[i] = b[i]) && decide (a.drop (i + 1) = b.drop (i + 1))) := by
  rw [List.drop_eq_getElem_cons h, List.drop_eq_getElem_cons h']
  by_cases h1 : a[i] = b[i] <;> simp only [List.cons.injEq, h1, true_and, false_and, decide_true, decide_false, Bool.true_and, Bool.false_and]
theorem ent_r4_Same : VM.Enters Tryd.prog 76 := VM.Enters.mk Tryd.func76 rfl
theorem r4_Same_cs (a b : List Nm) (ha : a.length ≤ 900000000) : CS Tryd.prog G 76 [.sl (strs a), .sl (strs b)] (.d (.bool (decide (a = b)))) none := by
  refine CS.of_VK Tryd.func76 rfl Tryd.ntmps76 rfl ?_
  by_cases hl : a.length = b.length
  · simp [hl]
    refine SW.loopF (ι := { i : Nat // i ≤ a.length ∧ decide (a.drop i = b.drop i) = decide (a = b) }) (fun i => [(13, .d (.int .i64 i.1))]) (fun _ => []) (fun _ => []) (fun i => a.length - i.1) ⟨0, by simp⟩ (by simp) ?_
    rintro ⟨i, hi, hR⟩
    try simp only at hi hR
    by_cases hlt : i < a.length
    · have hlt' : i < b.length := by omega
      have hg := strs_get hlt
      have hg' := strs_get hlt'
      have hw := wrap64s (show i < 9223372036854775807 by omega)
      rw [strs_cmp hlt hlt'] at hR
      simp [hlt', hlt, hg, hg']
      refine ⟨lexOk.mk (by kernel_rfl), ?_⟩
      by_cases hs : a[i] = b[i]
      · simp only [hs, decide_true, Bool.true_and] at hR
        simp [hs]
        exact Again.mk ⟨i + 1, hlt, hR⟩ (by simp [hw]) (by simp; omega)
      · simp only [hs, decide_false, Bool.false_and] at hR
        simp [hs, ← hR]
    · have : i = a.length := by omega
      subst this
      rw [List.drop_length, hl, List.drop_length] at hR
      have hab : a = b := by simpa using hR.symm
      subst hab
      simp
  · have hne : ¬ a = b := fun e => hl (by rw [e])
    have hl' : ¬ ((a.length : Int) = (b.length : Int)) := by omega
    simp [hl, hl', hne]
mutual
/-- Whether predicates are equal. -/
def samP : Pr → Pr → Bool
  | ⟨o, n, k, l⟩, ⟨o', n', k', l'⟩ => decide (o = o') && (decide (n = n') && (decide (k = k') && (decide (l.length = l'.length) && samPs l l')))
def samPs : List Pr → List Pr → Bool
  | a :: r, b :: s => samP a b && samPs r s
  | [], _ => true
  | _ :: _, [] => true
end
theorem samP_eq (a b : Pr) : samP a b = (decide (a.op = b.op) && (decide (a.name = b.name) && (decide (a.n = b.n) && (decide (a.kids.length = b.kids.length) && samPs a.kids b.kids)))) := by cases a; cases b; rfl
mutual
theorem samP_iff : ∀ a b : Pr, samP a b = true ↔ a = b
  | ⟨o, n, k, l⟩, ⟨o', n', k', l'⟩ => by
    have := samPs_iff l l'
    simp only [samP, Bool.and_eq_true, decide_eq_true_eq, Pr.mk.injEq]
    constructor
    · rintro ⟨h1, h2, h3, h4, h5⟩; exact ⟨h1, h2, h3, (this h4).1 h5⟩
    · rintro ⟨h1, h2, h3, rfl⟩; exact ⟨h1, h2, h3, rfl, (this rfl).2 rfl⟩
theorem samPs_iff : ∀ l k : List Pr, l.length = k.length → (samPs l k = true ↔ l = k)
  | [], [], _ => by simp [samPs]
  | a :: r, b :: s, h => by
    have h1 := samP_iff a b
    have h2 := samPs_iff r s (by simpa using h)
    simp only [samPs, Bool.and_eq_true, h1, h2, List.cons.injEq]
  | [], _ :: _, h => by simp at h
  | _ :: _, [], h => by simp at h
end
theorem samPs_drop {l k : List Pr} {i : Nat} (h : i < l.length) (h' : i < k.length) : samPs (l.drop i) (k.drop i) = (samP l[i] k[i] && samPs (l.drop (i + 1)) (k.drop (i + 1))) := by
  rw [List.drop_eq_getElem_cons h, List.drop_eq_getElem_cons h']
  rfl
theorem samPs_end (l k : List Pr) : samPs (l.drop l.length) k = true := by simp [samPs]
end Go.Proofs.YtmjpdmkgmlhfaaaDoor
end

section
set_option linter.unusedVariables false
set_option linter.unusedSimpArgs false
set_option linter.unusedSectionVars false
namespace Go.Proofs.YtmjpdmkgmlhfaaaDoor
open Go Go.VM
set_option maxRecDepth 100000
set_option maxHeartbeats 8000000
variable {G : GT}
theorem ent_r7_Same : VM.Enters Tryd.prog 49 := VM.Enters.mk Tryd.func49 rfl
theorem r7_Same_cs : ∀ t u : Pr, nodP t ≤ 900000000 → CS Tryd.prog G 49 [.agg (prD t), .agg (prD u)] (.d (.bool (samP t u))) none := by
  refine Pr.ind fun t ih => ?_
  obtain ⟨op, nm, n, l⟩ := t
  intro u hN
  obtain ⟨op', nm', n', l'⟩ := u
  simp only at ih
  have hn := nodP_kids ⟨op, nm, n, l⟩
  have hq := samP_eq ⟨op, nm, n, l⟩ ⟨op', nm', n', l'⟩
  simp only at hn hq
  have hl := len_le_nodPs l
  refine CS.of_VK Tryd.func49 rfl Tryd.ntmps49 rfl ?_
  by_cases h1 : op = op'
  · by_cases h2 : nm = nm'
    · by_cases h4 : n = n'
      · by_cases h3 : l.length = l'.length
        · simp only [h1, h2, h3, h4, decide_true, Bool.true_and] at hq
          simp [h1, h2, h3, h4]
          refine SW.loopF (ι := { i : Nat // i ≤ l.length ∧ samPs (l.drop i) (l'.drop i) = samPs l l' }) (fun i => [(37, .d (.int .i64 i.1))]) (fun i => [(2, .cells [.d (.int .i64 op'), .d (.str nm'), .d (.int .i64 n'), .d (.sl (l.map prC))]), (3, .cells [.d (.int .i64 op'), .d (.str nm'), .d (.int .i64 n'), .d (.sl (l'.map prC))])]) (fun _ => []) (fun i => l.length - i.1) ⟨0, by simp⟩ (by simp) ?_
          rintro ⟨i, hi, hR⟩
          try simp only at hi hR
          by_cases hlt : i < l.length
          · have hlt' : i < l'.length := by omega
            have hg := prs_get hlt
            have hg' := prs_get hlt'
            have hw := wrap64s (show i < 9223372036854775807 by omega)
            have hb2 := nodPs_step hlt
            have hb3 := nodPs_take_le l (i + 1)
            rw [samPs_drop hlt hlt'] at hR
            simp [hlt', hlt, hg, hg']
            refine ⟨lexOk.mk (by kernel_rfl), ?_⟩
            refine callK.mk ent_r7_Same (ih l[i] (List.getElem_mem hlt) l'[i] (by omega)) ?_
            cases hs : samP l[i] l'[i]
            · rw [hs, Bool.false_and] at hR
              simp [hs, hq, ← hR]
            · rw [hs, Bool.true_and] at hR
              simp [hs]
              exact Again.mk ⟨i + 1, hlt, hR⟩ (by simp [hw]) (by simp; omega)
          · have : i = l.length := by omega
            subst this
            rw [samPs_end] at hR
            simp [hq, ← hR, ← h3]
        · simp only [h1, h2, h3, h4, decide_true, decide_false, Bool.true_and, Bool.false_and] at hq
          have h3' : ¬ ((l.length : Int) = (l'.length : Int)) := by omega
          simp [h1, h2, h3, h3', h4, hq]
      · simp only [h1, h2, h4, decide_true, decide_false, Bool.true_and, Bool.false_and] at hq
        simp [h1, h2, h4, hq]
    · simp only [h1, h2, decide_true, decide_false, Bool.true_and, Bool.false_and] at hq
      simp [h1, h2, hq]
  · simp only [h1, decide_false, Bool.false_and] at hq
    simp [h1, hq]
def samA (l l' : List Pr) : Bool := decide (l.length = l'.length) && samPs l l'
theorem samA_iff (l l' : List Pr) : samA l l' = true ↔ l = l' := by
  unfold samA
  by_cases h : l.length = l'.length
  · simp only [h, decide_true, Bool.true_and]
    exact samPs_iff l l' h
  · simp only [h, decide_false, Bool.false_and]
    exact ⟨fun e => (by cases e), fun e => (h (by rw [e])).elim⟩
mutual
/-- No arrow among the arguments. -/
def foT : Ty → Bool
  | ⟨o, _, l, _, _, _⟩ => !decide (o = 6) && foTs l
def foTs : List Ty → Bool
  | [] => true
  | a :: r => foT a && foTs r
end
theorem foT_eq (t : Ty) : foT t = (!decide (t.op = 6) && foTs t.args) := by cases t; rfl
theorem foTs_drop {l : List Ty} {i : Nat} (h : i < l.length) : foTs (l.drop i) = (foT l[i] && foTs (l.drop (i + 1))) := by
  rw [List.drop_eq_getElem_cons h]
  rfl
theorem foTs_end (l : List Ty) : foTs (l.drop l.length) = true := by simp [foTs]
end Go.Proofs.YtmjpdmkgmlhfaaaDoor
end
