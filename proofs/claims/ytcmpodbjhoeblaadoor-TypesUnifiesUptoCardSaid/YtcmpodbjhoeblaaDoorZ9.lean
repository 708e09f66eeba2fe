/- Joined texts. Whether texts, predicates, types with all their fields are the same; first order. Predicates the same; first order. Whether types with all their fields are equal. Checks of one type's own fields. Types and predicates that come in are trees. No condition. -/
import Derived.Test.YtcmpodbjhoeblaaDoorZ8
import Derived.Test.YtcmpodbjhoeblaaDoorZ5
import Derived.Test.YtcmpodbjhoeblaaDoorFit
section
set_option linter.unusedVariables false
set_option linter.unusedSimpArgs false
set_option linter.unusedSectionVars false
namespace Go.Proofs.YtcmpodbjhoeblaaDoor
open Go Go.VM
set_option maxRecDepth 100000
set_option maxHeartbeats 8000000
variable {G : GT}
/-- Lists of texts are equal from a place on. -/
theorem strs_cmp {a b : List Nm} {i : Nat} (h : i < a.length) (h' : i < b.length) : decide (a.drop i = b.drop i) = (decide (a[i] = b[i]) && decide (a.drop (i + 1) = b.drop (i + 1))) := by
  rw [List.drop_eq_getElem_cons h, List.drop_eq_getElem_cons h']
  by_cases h1 : a[i] = b[i] <;> simp only [List.cons.injEq, h1, true_and, false_and, decide_true, decide_false, Bool.true_and, Bool.false_and]
theorem ent_r4_Same : VM.Enters Tryd.prog 11 := VM.Enters.mk Tryd.func11 rfl
theorem r4_Same_cs (a b : List Nm) (ha : a.length ≤ 900000000) : CS Tryd.prog G 11 [.sl (strs a), .sl (strs b)] (.d (.bool (decide (a = b)))) none := by
  refine CS.of_VK Tryd.func11 rfl Tryd.ntmps11 rfl ?_
  by_cases hl : a.length = b.length
  · simp [hl]
    refine SW.loopF (ι := { i : Nat // i ≤ a.length ∧ decide (a.drop i = b.drop i) = decide (a = b) }) (fun i => [(13, .d (.int .i64 i.1))]) (fun _ => []) (fun _ => []) (fun i => a.length - i.1) ⟨0, by simp⟩ (by simp) ?_
    rintro ⟨i, hi, hR⟩
    try simp only at hi hR
    by_cases hlt : i < a.length
    · have hlt' : i < b.length := by omega
      have hg := strs_get hlt
      have hg' := strs_get hlt'
      have hw := wrap64s (show i < 9223372036854775807 by omega)
      rw [strs_cmp hlt hlt'] at hR
      simp [hlt', hlt, hg, hg']
      refine ⟨.mk, ?_⟩
      by_cases hs : a[i] = b[i]
      · simp only [hs, decide_true, Bool.true_and] at hR
        simp [hs]
        exact Again.mk ⟨i + 1, hlt, hR⟩ (by simp [hw]) (by simp; omega)
      · simp only [hs, decide_false, Bool.false_and] at hR
        simp [hs, ← hR]
    · have : i = a.length := by omega
      subst this
      rw [List.drop_length, hl, List.drop_length] at hR
      have hab : a = b := by simpa using hR.symm
      subst hab
      simp
  · have hne : ¬ a = b := fun e => hl (by rw [e])
    have hl' : ¬ ((a.length : Int) = (b.length : Int)) := by omega
    simp [hl, hl', hne]
mutual
/-- Whether predicates are equal. -/
def samP : Pr → Pr → Bool
  | ⟨o, n, k, l⟩, ⟨o', n', k', l'⟩ => decide (o = o') && (decide (n = n') && (decide (k = k') && (decide (l.length = l'.length) && samPs l l')))
def samPs : List Pr → List Pr → Bool
  | a :: r, b :: s => samP a b && samPs r s
  | [], _ => true
  | _ :: _, [] => true
end
theorem samP_eq (a b : Pr) : samP a b = (decide (a.op = b.op) && (decide (a.name = b.name) && (decide (a.n = b.n) && (decide (a.kids.length = b.kids.length) && samPs a.kids b.kids)))) := by cases a; cases b; rfl
mutual
theorem samP_iff : ∀ a b : Pr, samP a b = true ↔ a = b
  | ⟨o, n, k, l⟩, ⟨o', n', k', l'⟩ => by
    have := samPs_iff l l'
    simp only [samP, Bool.and_eq_true, decide_eq_true_eq, Pr.mk.injEq]
    constructor
    · rintro ⟨h1, h2, h3, h4, h5⟩; exact ⟨h1, h2, h3, (this h4).1 h5⟩
    · rintro ⟨h1, h2, h3, rfl⟩; exact ⟨h1, h2, h3, rfl, (this rfl).2 rfl⟩
theorem samPs_iff : ∀ l k : List Pr, l.length = k.length → (samPs l k = true ↔ l = k)
  | [], [], _ => by simp [samPs]
  | a :: r, b :: s, h => by
    have h1 := samP_iff a b
    have h2 := samPs_iff r s (by simpa using h)
    simp only [samPs, Bool.and_eq_true, h1, h2, List.cons.injEq]
  | [], _ :: _, h => by simp at h
  | _ :: _, [], h => by simp at h
end
theorem samPs_drop {l k : List Pr} {i : Nat} (h : i < l.length) (h' : i < k.length) : samPs (l.drop i) (k.drop i) = (samP l[i] k[i] && samPs (l.drop (i + 1)) (k.drop (i + 1))) := by
  rw [List.drop_eq_getElem_cons h, List.drop_eq_getElem_cons h']
  rfl
theorem samPs_end (l k : List Pr) : samPs (l.drop l.length) k = true := by simp [samPs]
end Go.Proofs.YtcmpodbjhoeblaaDoor
end

section
set_option linter.unusedVariables false
set_option linter.unusedSimpArgs false
set_option linter.unusedSectionVars false
namespace Go.Proofs.YtcmpodbjhoeblaaDoor
open Go Go.VM
set_option maxRecDepth 100000
set_option maxHeartbeats 8000000
variable {G : GT}
theorem ent_r7_Same : VM.Enters Tryd.prog 59 := VM.Enters.mk Tryd.func59 rfl
theorem r7_Same_cs : ∀ t u : Pr, nodP t ≤ 900000000 → CS Tryd.prog G 59 [.agg (prD t), .agg (prD u)] (.d (.bool (samP t u))) none := by
  refine Pr.ind fun t ih => ?_
  obtain ⟨op, nm, n, l⟩ := t
  intro u hN
  obtain ⟨op', nm', n', l'⟩ := u
  simp only at ih
  have hn := nodP_kids ⟨op, nm, n, l⟩
  have hq := samP_eq ⟨op, nm, n, l⟩ ⟨op', nm', n', l'⟩
  simp only at hn hq
  have hl := len_le_nodPs l
  refine CS.of_VK Tryd.func59 rfl Tryd.ntmps59 rfl ?_
  by_cases h1 : op = op'
  · by_cases h2 : nm = nm'
    · by_cases h4 : n = n'
      · by_cases h3 : l.length = l'.length
        · simp only [h1, h2, h3, h4, decide_true, Bool.true_and] at hq
          simp [h1, h2, h3, h4]
          refine SW.loopF (ι := { i : Nat // i ≤ l.length ∧ samPs (l.drop i) (l'.drop i) = samPs l l' }) (fun i => [(37, .d (.int .i64 i.1))]) (fun i => [(2, .cells [.d (.int .i64 op'), .d (.str nm'), .d (.int .i64 n'), .d (.sl (l.map prC))]), (3, .cells [.d (.int .i64 op'), .d (.str nm'), .d (.int .i64 n'), .d (.sl (l'.map prC))])]) (fun _ => []) (fun i => l.length - i.1) ⟨0, by simp⟩ (by simp) ?_
          rintro ⟨i, hi, hR⟩
          try simp only at hi hR
          by_cases hlt : i < l.length
          · have hlt' : i < l'.length := by omega
            have hg := prs_get hlt
            have hg' := prs_get hlt'
            have hw := wrap64s (show i < 9223372036854775807 by omega)
            have hb2 := nodPs_step hlt
            have hb3 := nodPs_take_le l (i + 1)
            rw [samPs_drop hlt hlt'] at hR
            simp [hlt', hlt, hg, hg']
            refine ⟨.mk, ?_⟩
            refine callK.mk ent_r7_Same (ih l[i] (List.getElem_mem hlt) l'[i] (by omega)) ?_
            cases hs : samP l[i] l'[i]
            · rw [hs, Bool.false_and] at hR
              simp [hs, hq, ← hR]
            · rw [hs, Bool.true_and] at hR
              simp [hs]
              exact Again.mk ⟨i + 1, hlt, hR⟩ (by simp [hw]) (by simp; omega)
          · have : i = l.length := by omega
            subst this
            rw [samPs_end] at hR
            simp [hq, ← hR, ← h3]
        · simp only [h1, h2, h3, h4, decide_true, decide_false, Bool.true_and, Bool.false_and] at hq
          have h3' : ¬ ((l.length : Int) = (l'.length : Int)) := by omega
          simp [h1, h2, h3, h3', h4, hq]
      · simp only [h1, h2, h4, decide_true, decide_false, Bool.true_and, Bool.false_and] at hq
        simp [h1, h2, h4, hq]
    · simp only [h1, h2, decide_true, decide_false, Bool.true_and, Bool.false_and] at hq
      simp [h1, h2, hq]
  · simp only [h1, decide_false, Bool.false_and] at hq
    simp [h1, hq]
def samA (l l' : List Pr) : Bool := decide (l.length = l'.length) && samPs l l'
theorem samA_iff (l l' : List Pr) : samA l l' = true ↔ l = l' := by
  unfold samA
  by_cases h : l.length = l'.length
  · simp only [h, decide_true, Bool.true_and]
    exact samPs_iff l l' h
  · simp only [h, decide_false, Bool.false_and]
    exact ⟨fun e => (by cases e), fun e => (h (by rw [e])).elim⟩
mutual
/-- No arrow among the arguments. -/
def foT : Ty → Bool
  | ⟨o, _, l, _, _, _⟩ => !decide (o = 6) && foTs l
def foTs : List Ty → Bool
  | [] => true
  | a :: r => foT a && foTs r
end
theorem foT_eq (t : Ty) : foT t = (!decide (t.op = 6) && foTs t.args) := by cases t; rfl
theorem foTs_drop {l : List Ty} {i : Nat} (h : i < l.length) : foTs (l.drop i) = (foT l[i] && foTs (l.drop (i + 1))) := by
  rw [List.drop_eq_getElem_cons h]
  rfl
theorem foTs_end (l : List Ty) : foTs (l.drop l.length) = true := by simp [foTs]
theorem ent_types_FirstOrder : VM.Enters Tryd.prog 24 := VM.Enters.mk Tryd.func24 rfl
theorem types_FirstOrder_cs : ∀ t : Ty, nodT t ≤ 900000000 → CS Tryd.prog G 24 [.agg (tyD t)] (.d (.bool (foT t))) none := by
  refine Ty.ind fun t ih => ?_
  obtain ⟨op, nm, l, ns, p, ps⟩ := t
  intro hN
  simp only at ih
  have hn := nodT_args ⟨op, nm, l, ns, p, ps⟩
  have hq := foT_eq ⟨op, nm, l, ns, p, ps⟩
  simp only at hn hq
  have hl := len_le_nodTs l
  refine CS.of_VK Tryd.func24 rfl Tryd.ntmps24 rfl ?_
  by_cases h6 : op = 6
  · simp only [h6, decide_true, Bool.not_true, Bool.false_and] at hq
    simp [h6, hq]
  · simp only [h6, decide_false, Bool.not_false, Bool.true_and] at hq
    simp [h6]
    refine SW.loopF (ι := { i : Nat // i ≤ l.length ∧ foTs (l.drop i) = foTs l }) (fun i => [(11, .d (.int .i64 i.1))]) (fun i => [(1, .cells [.d (.int .i64 op), .d (.str nm), .d (.sl (l.map tyC)), .d (.sl (strs ns)), .d (.int .i64 p.op), .d (.str p.name), .d (.int .i64 p.n), .d (.sl (p.kids.map prC)), .d (.sl (ps.map prC))])]) (fun _ => []) (fun i => l.length - i.1) ⟨0, by simp⟩ (by simp) ?_
    rintro ⟨i, hi, hR⟩
    try simp only at hi hR
    by_cases hlt : i < l.length
    · have hg := tys_get hlt
      have hw := wrap64s (show i < 9223372036854775807 by omega)
      have hb2 := nodTs_step hlt
      have hb3 := nodTs_take_le l (i + 1)
      rw [foTs_drop hlt] at hR
      simp [hlt, hg]
      refine callK.mk ent_types_FirstOrder (ih l[i] (List.getElem_mem hlt) (by omega)) ?_
      cases hs : foT l[i]
      · rw [hs, Bool.false_and] at hR
        simp [hs, hq, ← hR]
      · rw [hs, Bool.true_and] at hR
        simp [hs]
        exact Again.mk ⟨i + 1, hlt, hR⟩ (by simp [hw]) (by simp; omega)
    · have : i = l.length := by omega
      subst this
      rw [foTs_end] at hR
      simp [hq, ← hR]
end Go.Proofs.YtcmpodbjhoeblaaDoor
end

section
set_option linter.unusedVariables false
set_option linter.unusedSimpArgs false
set_option linter.unusedSectionVars false
namespace Go.Proofs.YtcmpodbjhoeblaaDoor
open Go Go.VM
set_option maxRecDepth 100000
set_option maxHeartbeats 8000000
variable {G : GT}
mutual
/-- Whether types are equal. -/
def eqT : Ty → Ty → Bool
  | ⟨o, n, l, ns, p, ps⟩, ⟨o', n', l', ns', p', ps'⟩ => decide (o = o') && (decide (n = n') && (decide (l.length = l'.length) && (decide (ns = ns') && (samP p p' && (samA ps ps' && eqTs l l')))))
def eqTs : List Ty → List Ty → Bool
  | a :: r, b :: s => eqT a b && eqTs r s
  | [], _ => true
  | _ :: _, [] => true
end
theorem eqT_eq (a b : Ty) : eqT a b = (decide (a.op = b.op) && (decide (a.name = b.name) && (decide (a.args.length = b.args.length) && (decide (a.names = b.names) && (samP a.pred b.pred && (samA a.preds b.preds && eqTs a.args b.args)))))) := by cases a; cases b; rfl
mutual
theorem eqT_iff : ∀ a b : Ty, eqT a b = true ↔ a = b
  | ⟨o, n, l, ns, p, ps⟩, ⟨o', n', l', ns', p', ps'⟩ => by
    have := eqTs_iff l l'
    simp only [eqT, Bool.and_eq_true, decide_eq_true_eq, Ty.mk.injEq, samP_iff, samA_iff]
    constructor
    · rintro ⟨h1, h2, h3, h4, h5, h6, h7⟩; exact ⟨h1, h2, (this h3).1 h7, h4, h5, h6⟩
    · rintro ⟨h1, h2, rfl, h4, h5, h6⟩; exact ⟨h1, h2, rfl, h4, h5, h6, (this rfl).2 rfl⟩
theorem eqTs_iff : ∀ l k : List Ty, l.length = k.length → (eqTs l k = true ↔ l = k)
  | [], [], _ => by simp [eqTs]
  | a :: r, b :: s, h => by
    have h1 := eqT_iff a b
    have h2 := eqTs_iff r s (by simpa using h)
    simp only [eqTs, Bool.and_eq_true, h1, h2, List.cons.injEq]
  | [], _ :: _, h => by simp at h
  | _ :: _, [], h => by simp at h
end
theorem eqTs_drop {l k : List Ty} {i : Nat} (h : i < l.length) (h' : i < k.length) : eqTs (l.drop i) (k.drop i) = (eqT l[i] k[i] && eqTs (l.drop (i + 1)) (k.drop (i + 1))) := by
  rw [List.drop_eq_getElem_cons h, List.drop_eq_getElem_cons h']
  rfl
theorem eqTs_end (l k : List Ty) : eqTs (l.drop l.length) k = true := by simp [eqTs]
mutual
/-- How much there is in a type that Equal looks at. -/
def allT : Ty → Nat
  | ⟨_, _, l, ns, p, ps⟩ => 1 + ns.length + nodP p + nodPs ps + allTs l
def allTs : List Ty → Nat
  | [] => 0
  | t :: r => allT t + allTs r
end
theorem allT_eq (t : Ty) : allT t = 1 + t.names.length + nodP t.pred + nodPs t.preds + allTs t.args := by cases t; rfl
theorem allTs_app : ∀ a b : List Ty, allTs (a ++ b) = allTs a + allTs b
  | [], b => by simp [allTs]
  | t :: a, b => by
    simp only [List.cons_append, allTs, allTs_app a b]
    omega
theorem allTs_mem {l : List Ty} {i : Nat} (h : i < l.length) : allT l[i] ≤ allTs l := by
  have e : l = l.take i ++ l[i] :: l.drop (i + 1) := by rw [← List.drop_eq_getElem_cons h, List.take_append_drop]
  have : allTs l = allTs (l.take i) + (allT l[i] + allTs (l.drop (i + 1))) := by
    conv => lhs; rw [e]
    rw [allTs_app]
    rfl
  omega
theorem allT_pos (t : Ty) : 1 ≤ allT t := by rw [allT_eq]; omega
theorem len_le_allTs : ∀ l : List Ty, l.length ≤ allTs l
  | [] => by simp
  | t :: r => by
    have h1 := allT_pos t
    have h2 := len_le_allTs r
    simp only [allTs, List.length_cons]
    omega
end Go.Proofs.YtcmpodbjhoeblaaDoor
end

section
set_option linter.unusedVariables false
set_option linter.unusedSimpArgs false
set_option linter.unusedSectionVars false
namespace Go.Proofs.YtcmpodbjhoeblaaDoor
open Go Go.VM
set_option maxRecDepth 100000
set_option maxHeartbeats 8000000
variable {G : GT}
/-- Too many arguments or too few. -/
def badA (op : Int) (a n : Nat) : Bool := if op = 4 then decide (6 < a) else if op = 6 then decide (a < 2) || (decide (7 < a) || (decide (0 < n) && !decide (n + 1 = a))) else false
def arE (b : Bool) : Int := if b then 13 else 0
theorem ent_types_arity : VM.Enters Tryd.prog 48 := VM.Enters.mk Tryd.func48 rfl
theorem types_arity_cs (op : Int) (nm : Nm) (l : List Ty) (ns : List Nm) (p : Pr) (ps : List Pr) (hl : l.length ≤ 900000000) (hn : ns.length ≤ 900000000) :
    CS Tryd.prog G 48 [.agg (tyD ⟨op, nm, l, ns, p, ps⟩)] (.d (.int .i64 (arE (badA op l.length ns.length)))) none := by
  refine CS.of_VK Tryd.func48 rfl Tryd.ntmps48 rfl ?_
  by_cases h4 : op = 4
  · subst h4
    by_cases h : 6 < l.length
    · have h' : (6 : Int) < (l.length : Int) := by omega
      simp [badA, arE, h, h']
    · have h' : ¬ (6 : Int) < (l.length : Int) := by omega
      simp [badA, arE, h, h']
  · by_cases h6 : op = 6
    · subst h6
      by_cases ha : l.length < 2
      · have ha' : (l.length : Int) < 2 := by omega
        simp [badA, arE, ha, ha']
      · have ha' : ¬ (l.length : Int) < 2 := by omega
        by_cases hb : 7 < l.length
        · have hb' : (7 : Int) < (l.length : Int) := by omega
          simp [badA, arE, ha, ha', hb, hb']
        · have hb' : ¬ (7 : Int) < (l.length : Int) := by omega
          by_cases hc : ns.length = 0
          · have hc' : ns = [] := List.length_eq_zero_iff.1 hc
            subst hc'
            simp [badA, arE, ha, ha', hb, hb']
          · have hc' : ¬ (ns.length : Int) = 0 := by omega
            have hc2 : ¬ ns = [] := fun e => hc (by rw [e]; rfl)
            have hw : IntKind.i64.wrap ((l.length : Int) - 1) = (l.length : Int) - 1 := wrap64 (by omega)
            have hp : 0 < ns.length := by omega
            by_cases hd : ns.length + 1 = l.length
            · have hd' : (ns.length : Int) = (l.length : Int) - 1 := by omega
              have hz : ¬ (l.length : Int) - 1 = 0 := by omega
              simp [badA, arE, ha, ha', hb, hb', hc', hc2, hw, hp, hd, hd', hz]
            · have hd' : ¬ (ns.length : Int) = (l.length : Int) - 1 := by omega
              simp [badA, arE, ha, ha', hb, hb', hc', hc2, hw, hp, hd, hd']
    · simp [badA, arE, h4, h6]
/-- A name that begins with a capital letter. -/
def upB : Nm → Bool
  | [] => false
  | b :: _ => decide (65 ≤ b.toNat) && decide (b.toNat ≤ 90)
end Go.Proofs.YtcmpodbjhoeblaaDoor
end

section
set_option linter.unusedVariables false
set_option linter.unusedSimpArgs false
set_option linter.unusedSectionVars false
namespace Go.Proofs.YtcmpodbjhoeblaaDoor
open Go Go.VM
set_option maxRecDepth 100000
set_option maxHeartbeats 4000000
theorem ex_map {α : Type} {f : α → List D} : ∀ {es : List (List D)}, (∀ x ∈ es, ∃ a, x = f a) → ∃ l : List α, es = l.map f
  | [], _ => ⟨[], rfl⟩
  | x :: r, h => by
    obtain ⟨a, ha⟩ := h x (by simp)
    obtain ⟨l, hl⟩ := ex_map (es := r) (f := f) (fun y hy => h y (by simp [hy]))
    exact ⟨a :: l, by simp [ha, hl]⟩
theorem szLL_mem {x : List D} : ∀ {es : List (List D)}, x ∈ es → szL x ≤ szLL es
  | y :: r, h => by
    simp only [szLL]
    rcases List.mem_cons.1 h with rfl | h
    · omega
    · have := szLL_mem h
      omega
theorem fits_strs {es : List (List D)} (h : ∀ x ∈ es, FitsT Tryd.prog 9 x) : ∃ l : List Nm, es = strs l := by
  obtain ⟨l, hl⟩ := ex_map (f := fun n : Nm => [D.str n]) fun x hx => by
    obtain ⟨s, hs, _⟩ := fits_str tu9 (h x hx)
    exact ⟨s, hs⟩
  exact ⟨l, by rw [hl]; rfl⟩
theorem fits_prN (n : Nat) : ∀ ds : List D, szL ds ≤ n → FitsT Tryd.prog 28 ds → ∃ p : Pr, ds = prC p := by
  induction n using Nat.strongRecOn with
  | ind n ih =>
    intro ds hn h
    obtain ⟨x0, x1, x2, x3, rfl, h0, h1, h2, h3⟩ := inv28 h
    obtain ⟨op, e0, _⟩ := fits_int tu25 h0
    obtain ⟨nm, e1, _⟩ := fits_str tu9 h1
    obtain ⟨k, e2, _⟩ := fits_int tu3 h2
    obtain ⟨es, e3, _, hes⟩ := fits_sl ty_elem26 h3
    cases e0; cases e1; cases e2; cases e3
    simp only [szL, szD] at hn
    obtain ⟨ks, rfl⟩ := ex_map (f := prC) fun x hx => ih (szL x) (by have := szLL_mem hx; omega) x (Nat.le_refl _) (hes x hx)
    exact ⟨⟨op, nm, k, ks⟩, by rw [prC_eq]⟩
theorem fits_pr (ds : List D) (h : FitsT Tryd.prog 28 ds) : ∃ p : Pr, ds = prC p := fits_prN _ ds (Nat.le_refl _) h
theorem fits_prs {es : List (List D)} (h : ∀ x ∈ es, FitsT Tryd.prog 28 x) : ∃ l : List Pr, es = l.map prC := ex_map fun x hx => fits_pr x (h x hx)
theorem fits_tyN (n : Nat) : ∀ ds : List D, szL ds ≤ n → FitsT Tryd.prog 30 ds → ∃ t : Ty, ds = tyC t := by
  induction n using Nat.strongRecOn with
  | ind n ih =>
    intro ds hn h
    obtain ⟨x0, x1, x2, x3, x4, x5, x6, x7, x8, rfl, h0, h1, h2, h3, h4, h8⟩ := inv30 h
    obtain ⟨op, e0, _⟩ := fits_int tu22 h0
    obtain ⟨nm, e1, _⟩ := fits_str tu9 h1
    obtain ⟨es, e2, _, hes⟩ := fits_sl ty_elem23 h2
    obtain ⟨ns, e3, _, hns⟩ := fits_sl ty_elem24 h3
    obtain ⟨p, e4⟩ := fits_pr _ h4
    obtain ⟨ps, e8, _, hps⟩ := fits_sl ty_elem26 h8
    rw [prC_eq] at e4
    cases e0; cases e1; cases e2; cases e3; cases e4; cases e8
    simp only [szL, szD] at hn
    obtain ⟨l, rfl⟩ := ex_map (f := tyC) fun x hx => ih (szL x) (by have := szLL_mem hx; omega) x (Nat.le_refl _) (hes x hx)
    obtain ⟨nl, rfl⟩ := fits_strs hns
    obtain ⟨pl, rfl⟩ := fits_prs hps
    exact ⟨⟨op, nm, l, nl, p, pl⟩, by rw [tyC_eq]⟩
theorem fits_ty (ds : List D) (h : FitsT Tryd.prog 30 ds) : ∃ t : Ty, ds = tyC t := fits_tyN _ ds (Nat.le_refl _) h
theorem fits_tys {es : List (List D)} (h : ∀ x ∈ es, FitsT Tryd.prog 30 x) : ∃ l : List Ty, es = l.map tyC := ex_map fun x hx => fits_ty x (h x hx)
end Go.Proofs.YtcmpodbjhoeblaaDoor
end
