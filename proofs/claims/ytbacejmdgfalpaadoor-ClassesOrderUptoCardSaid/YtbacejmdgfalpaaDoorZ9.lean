/- Joined texts. Whether texts, predicates, types with all their fields are the same; first order. Predicates the same; first order. Whether types with all their fields are equal. Checks of one type's own fields. Types and predicates that come in are trees. No condition. -/
import Derived.Test.YtbacejmdgfalpaaDoorZ8
import Derived.Test.YtbacejmdgfalpaaDoorZ5
import Derived.Test.YtbacejmdgfalpaaDoorFit
section
set_option linter.unusedVariables false
set_option linter.unusedSimpArgs false
set_option linter.unusedSectionVars false
namespace Go.Proofs.YtbacejmdgfalpaaDoor
open Go Go.VM
set_option maxRecDepth 100000
set_option maxHeartbeats 8000000
variable {G : GT}
/-- Lists of texts are equal from a place on. -/
theorem strs_cmp {a b : List Nm} {i : Nat} (h : i < a.length) (h' : i < b.length) : decide (a.drop i = b.drop i) = (decide (a[i] = b[i]) && decide (a.drop (i + 1) = b.drop (i + 1))) := by
  rw [List.drop_eq_getElem_cons h, List.drop_eq_getElem_cons h']
  by_cases h1 : a[i] = b[i] <;> simp only [List.cons.injEq, h1, true_and, false_and, decide_true, decide_false, Bool.true_and, Bool.false_and]
mutual
/-- Whether predicates are equal. -/
def samP : Pr → Pr → Bool
  | ⟨o, n, k, l⟩, ⟨o', n', k', l'⟩ => decide (o = o') && (decide (n = n') && (decide (k = k') && (decide (l.length = l'.length) && samPs l l')))
def samPs : List Pr → List Pr → Bool
  | a :: r, b :: s => samP a b && samPs r s
  | [], _ => true
  | _ :: _, [] => true
end
theorem samP_eq (a b : Pr) : samP a b = (decide (a.op = b.op) && (decide (a.name = b.name) && (decide (a.n = b.n) && (decide (a.kids.length = b.kids.length) && samPs a.kids b.kids)))) := by cases a; cases b; rfl
mutual
theorem samP_iff : ∀ a b : Pr, samP a b = true ↔ a = b
  | ⟨o, n, k, l⟩, ⟨o', n', k', l'⟩ => by
    have := samPs_iff l l'
    simp only [samP, Bool.and_eq_true, decide_eq_true_eq, Pr.mk.injEq]
    constructor
    · rintro ⟨h1, h2, h3, h4, h5⟩; exact ⟨h1, h2, h3, (this h4).1 h5⟩
    · rintro ⟨h1, h2, h3, rfl⟩; exact ⟨h1, h2, h3, rfl, (this rfl).2 rfl⟩
theorem samPs_iff : ∀ l k : List Pr, l.length = k.length → (samPs l k = true ↔ l = k)
  | [], [], _ => by simp [samPs]
  | a :: r, b :: s, h => by
    have h1 := samP_iff a b
    have h2 := samPs_iff r s (by simpa using h)
    simp only [samPs, Bool.and_eq_true, h1, h2, List.cons.injEq]
  | [], _ :: _, h => by simp at h
  | _ :: _, [], h => by simp at h
end
theorem samPs_drop {l k : List Pr} {i : Nat} (h : i < l.length) (h' : i < k.length) : samPs (l.drop i) (k.drop i) = (samP l[i] k[i] && samPs (l.drop (i + 1)) (k.drop (i + 1))) := by
  rw [List.drop_eq_getElem_cons h, List.drop_eq_getElem_cons h']
  rfl
theorem samPs_end (l k : List Pr) : samPs (l.drop l.length) k = true := by simp [samPs]
end Go.Proofs.YtbacejmdgfalpaaDoor
end

section
set_option linter.unusedVariables false
set_option linter.unusedSimpArgs false
set_option linter.unusedSectionVars false
namespace Go.Proofs.YtbacejmdgfalpaaDoor
open Go Go.VM
set_option maxRecDepth 100000
set_option maxHeartbeats 8000000
variable {G : GT}
def samA (l l' : List Pr) : Bool := decide (l.length = l'.length) && samPs l l'
theorem samA_iff (l l' : List Pr) : samA l l' = true ↔ l = l' := by
  unfold samA
  by_cases h : l.length = l'.length
  · simp only [h, decide_true, Bool.true_and]
    exact samPs_iff l l' h
  · simp only [h, decide_false, Bool.false_and]
    exact ⟨fun e => (by cases e), fun e => (h (by rw [e])).elim⟩
mutual
/-- No arrow among the arguments. -/
def foT : Ty → Bool
  | ⟨o, _, l, _, _, _⟩ => !decide (o = 6) && foTs l
def foTs : List Ty → Bool
  | [] => true
  | a :: r => foT a && foTs r
end
theorem foT_eq (t : Ty) : foT t = (!decide (t.op = 6) && foTs t.args) := by cases t; rfl
theorem foTs_drop {l : List Ty} {i : Nat} (h : i < l.length) : foTs (l.drop i) = (foT l[i] && foTs (l.drop (i + 1))) := by
  rw [List.drop_eq_getElem_cons h]
  rfl
theorem foTs_end (l : List Ty) : foTs (l.drop l.length) = true := by simp [foTs]
end Go.Proofs.YtbacejmdgfalpaaDoor
end

section
set_option linter.unusedVariables false
set_option linter.unusedSimpArgs false
set_option linter.unusedSectionVars false
namespace Go.Proofs.YtbacejmdgfalpaaDoor
open Go Go.VM
set_option maxRecDepth 100000
set_option maxHeartbeats 8000000
variable {G : GT}
mutual
/-- Whether types are equal. -/
def eqT : Ty → Ty → Bool
  | ⟨o, n, l, ns, p, ps⟩, ⟨o', n', l', ns', p', ps'⟩ => decide (o = o') && (decide (n = n') && (decide (l.length = l'.length) && (decide (ns = ns') && (samP p p' && (samA ps ps' && eqTs l l')))))
def eqTs : List Ty → List Ty → Bool
  | a :: r, b :: s => eqT a b && eqTs r s
  | [], _ => true
  | _ :: _, [] => true
end
theorem eqT_eq (a b : Ty) : eqT a b = (decide (a.op = b.op) && (decide (a.name = b.name) && (decide (a.args.length = b.args.length) && (decide (a.names = b.names) && (samP a.pred b.pred && (samA a.preds b.preds && eqTs a.args b.args)))))) := by cases a; cases b; rfl
mutual
theorem eqT_iff : ∀ a b : Ty, eqT a b = true ↔ a = b
  | ⟨o, n, l, ns, p, ps⟩, ⟨o', n', l', ns', p', ps'⟩ => by
    have := eqTs_iff l l'
    simp only [eqT, Bool.and_eq_true, decide_eq_true_eq, Ty.mk.injEq, samP_iff, samA_iff]
    constructor
    · rintro ⟨h1, h2, h3, h4, h5, h6, h7⟩; exact ⟨h1, h2, (this h3).1 h7, h4, h5, h6⟩
    · rintro ⟨h1, h2, rfl, h4, h5, h6⟩; exact ⟨h1, h2, rfl, h4, h5, h6, (this rfl).2 rfl⟩
theorem eqTs_iff : ∀ l k : List Ty, l.length = k.length → (eqTs l k = true ↔ l = k)
  | [], [], _ => by simp [eqTs]
  | a :: r, b :: s, h => by
    have h1 := eqT_iff a b
    have h2 := eqTs_iff r s (by simpa using h)
    simp only [eqTs, Bool.and_eq_true, h1, h2, List.cons.injEq]
  | [], _ :: _, h => by simp at h
  | _ :: _, [], h => by simp at h
end
theorem eqTs_drop {l k : List Ty} {i : Nat} (h : i < l.length) (h' : i < k.length) : eqTs (l.drop i) (k.drop i) = (eqT l[i] k[i] && eqTs (l.drop (i + 1)) (k.drop (i + 1))) := by
  rw [List.drop_eq_getElem_cons h, List.drop_eq_getElem_cons h']
  rfl
theorem eqTs_end (l k : List Ty) : eqTs (l.drop l.length) k = true := by simp [eqTs]
mutual
/-- How much there is in a type that Equal looks at. -/
def allT : Ty → Nat
  | ⟨_, _, l, ns, p, ps⟩ => 1 + ns.length + nodP p + nodPs ps + allTs l
def allTs : List Ty → Nat
  | [] => 0
  | t :: r => allT t + allTs r
end
theorem allT_eq (t : Ty) : allT t = 1 + t.names.length + nodP t.pred + nodPs t.preds + allTs t.args := by cases t; rfl
theorem allTs_app : ∀ a b : List Ty, allTs (a ++ b) = allTs a + allTs b
  | [], b => by simp [allTs]
  | t :: a, b => by
    simp only [List.cons_append, allTs, allTs_app a b]
    omega
theorem allTs_mem {l : List Ty} {i : Nat} (h : i < l.length) : allT l[i] ≤ allTs l := by
  have e : l = l.take i ++ l[i] :: l.drop (i + 1) := by rw [← List.drop_eq_getElem_cons h, List.take_append_drop]
  have : allTs l = allTs (l.take i) + (allT l[i] + allTs (l.drop (i + 1))) := by
    conv => lhs; rw [e]
    rw [allTs_app]
    rfl
  omega
theorem allT_pos (t : Ty) : 1 ≤ allT t := by rw [allT_eq]; omega
theorem len_le_allTs : ∀ l : List Ty, l.length ≤ allTs l
  | [] => by simp
  | t :: r => by
    have h1 := allT_pos t
    have h2 := len_le_allTs r
    simp only [allTs, List.length_cons]
    omega
end Go.Proofs.YtbacejmdgfalpaaDoor
end

section
set_option linter.unusedVariables false
set_option linter.unusedSimpArgs false
set_option linter.unusedSectionVars false
namespace Go.Proofs.YtbacejmdgfalpaaDoor
open Go Go.VM
set_option maxRecDepth 100000
set_option maxHeartbeats 8000000
variable {G : GT}
/-- Too many arguments or too few. -/
def badA (op : Int) (a n : Nat) : Bool := if op = 4 then decide (6 < a) else if op = 6 then decide (a < 2) || (decide (7 < a) || (decide (0 < n) && !decide (n + 1 = a))) else false
def arE (b : Bool) : Int := if b then 13 else 0
theorem ent_types_arity : VM.Enters Tryd.prog 63 := VM.Enters.mk Tryd.func63 rfl
theorem types_arity_cs (op : Int) (nm : Nm) (l : List Ty) (ns : List Nm) (p : Pr) (ps : List Pr) (hl : l.length ≤ 900000000) (hn : ns.length ≤ 900000000) :
    CS Tryd.prog G 63 [.agg (tyD ⟨op, nm, l, ns, p, ps⟩)] (.d (.int .i64 (arE (badA op l.length ns.length)))) none := by
  refine CS.of_VK Tryd.func63 rfl Tryd.ntmps63 rfl ?_
  by_cases h4 : op = 4
  · subst h4
    by_cases h : 6 < l.length
    · have h' : (6 : Int) < (l.length : Int) := by omega
      simp [badA, arE, h, h']
    · have h' : ¬ (6 : Int) < (l.length : Int) := by omega
      simp [badA, arE, h, h']
  · by_cases h6 : op = 6
    · subst h6
      by_cases ha : l.length < 2
      · have ha' : (l.length : Int) < 2 := by omega
        simp [badA, arE, ha, ha']
      · have ha' : ¬ (l.length : Int) < 2 := by omega
        by_cases hb : 7 < l.length
        · have hb' : (7 : Int) < (l.length : Int) := by omega
          simp [badA, arE, ha, ha', hb, hb']
        · have hb' : ¬ (7 : Int) < (l.length : Int) := by omega
          by_cases hc : ns.length = 0
          · have hc' : ns = [] := List.length_eq_zero_iff.1 hc
            subst hc'
            simp [badA, arE, ha, ha', hb, hb']
          · have hc' : ¬ (ns.length : Int) = 0 := by omega
            have hc2 : ¬ ns = [] := fun e => hc (by rw [e]; rfl)
            have hw : IntKind.i64.wrap ((l.length : Int) - 1) = (l.length : Int) - 1 := wrap64 (by omega)
            have hp : 0 < ns.length := by omega
            by_cases hd : ns.length + 1 = l.length
            · have hd' : (ns.length : Int) = (l.length : Int) - 1 := by omega
              have hz : ¬ (l.length : Int) - 1 = 0 := by omega
              simp [badA, arE, ha, ha', hb, hb', hc', hc2, hw, hp, hd, hd', hz]
            · have hd' : ¬ (ns.length : Int) = (l.length : Int) - 1 := by omega
              simp [badA, arE, ha, ha', hb, hb', hc', hc2, hw, hp, hd, hd']
    · simp [badA, arE, h4, h6]
/-- A name that begins with a capital letter. -/
def upB : Nm → Bool
  | [] => false
  | b :: _ => decide (65 ≤ b.toNat) && decide (b.toNat ≤ 90)
end Go.Proofs.YtbacejmdgfalpaaDoor
end

section
set_option linter.unusedVariables false
set_option linter.unusedSimpArgs false
set_option linter.unusedSectionVars false
namespace Go.Proofs.YtbacejmdgfalpaaDoor
open Go Go.VM
set_option maxRecDepth 100000
set_option maxHeartbeats 4000000
theorem ex_map {α : Type} {f : α → List D} : ∀ {es : List (List D)}, (∀ x ∈ es, ∃ a, x = f a) → ∃ l : List α, es = l.map f
  | [], _ => ⟨[], rfl⟩
  | x :: r, h => by
    obtain ⟨a, ha⟩ := h x (by simp)
    obtain ⟨l, hl⟩ := ex_map (es := r) (f := f) (fun y hy => h y (by simp [hy]))
    exact ⟨a :: l, by simp [ha, hl]⟩
theorem szLL_mem {x : List D} : ∀ {es : List (List D)}, x ∈ es → szL x ≤ szLL es
  | y :: r, h => by
    simp only [szLL]
    rcases List.mem_cons.1 h with rfl | h
    · omega
    · have := szLL_mem h
      omega
theorem fits_strs {es : List (List D)} (h : ∀ x ∈ es, FitsT Tryd.prog 9 x) : ∃ l : List Nm, es = strs l := by
  obtain ⟨l, hl⟩ := ex_map (f := fun n : Nm => [D.str n]) fun x hx => by
    obtain ⟨s, hs, _⟩ := fits_str tu9 (h x hx)
    exact ⟨s, hs⟩
  exact ⟨l, by rw [hl]; rfl⟩
theorem fits_prN (n : Nat) : ∀ ds : List D, szL ds ≤ n → FitsT Tryd.prog 41 ds → ∃ p : Pr, ds = prC p := by
  induction n using Nat.strongRecOn with
  | ind n ih =>
    intro ds hn h
    obtain ⟨x0, x1, x2, x3, rfl, h0, h1, h2, h3⟩ := inv41 h
    obtain ⟨op, e0, _⟩ := fits_int tu38 h0
    obtain ⟨nm, e1, _⟩ := fits_str tu9 h1
    obtain ⟨k, e2, _⟩ := fits_int tu3 h2
    obtain ⟨es, e3, _, hes⟩ := fits_sl ty_elem39 h3
    cases e0; cases e1; cases e2; cases e3
    simp only [szL, szD] at hn
    obtain ⟨ks, rfl⟩ := ex_map (f := prC) fun x hx => ih (szL x) (by have := szLL_mem hx; omega) x (Nat.le_refl _) (hes x hx)
    exact ⟨⟨op, nm, k, ks⟩, by rw [prC_eq]⟩
theorem fits_pr (ds : List D) (h : FitsT Tryd.prog 41 ds) : ∃ p : Pr, ds = prC p := fits_prN _ ds (Nat.le_refl _) h
theorem fits_prs {es : List (List D)} (h : ∀ x ∈ es, FitsT Tryd.prog 41 x) : ∃ l : List Pr, es = l.map prC := ex_map fun x hx => fits_pr x (h x hx)
theorem fits_tyN (n : Nat) : ∀ ds : List D, szL ds ≤ n → FitsT Tryd.prog 43 ds → ∃ t : Ty, ds = tyC t := by
  induction n using Nat.strongRecOn with
  | ind n ih =>
    intro ds hn h
    obtain ⟨x0, x1, x2, x3, x4, x5, x6, x7, x8, rfl, h0, h1, h2, h3, h4, h8⟩ := inv43 h
    obtain ⟨op, e0, _⟩ := fits_int tu35 h0
    obtain ⟨nm, e1, _⟩ := fits_str tu9 h1
    obtain ⟨es, e2, _, hes⟩ := fits_sl ty_elem36 h2
    obtain ⟨ns, e3, _, hns⟩ := fits_sl ty_elem37 h3
    obtain ⟨p, e4⟩ := fits_pr _ h4
    obtain ⟨ps, e8, _, hps⟩ := fits_sl ty_elem39 h8
    rw [prC_eq] at e4
    cases e0; cases e1; cases e2; cases e3; cases e4; cases e8
    simp only [szL, szD] at hn
    obtain ⟨l, rfl⟩ := ex_map (f := tyC) fun x hx => ih (szL x) (by have := szLL_mem hx; omega) x (Nat.le_refl _) (hes x hx)
    obtain ⟨nl, rfl⟩ := fits_strs hns
    obtain ⟨pl, rfl⟩ := fits_prs hps
    exact ⟨⟨op, nm, l, nl, p, pl⟩, by rw [tyC_eq]⟩
theorem fits_ty (ds : List D) (h : FitsT Tryd.prog 43 ds) : ∃ t : Ty, ds = tyC t := fits_tyN _ ds (Nat.le_refl _) h
theorem fits_tys {es : List (List D)} (h : ∀ x ∈ es, FitsT Tryd.prog 43 x) : ∃ l : List Ty, es = l.map tyC := ex_map fun x hx => fits_ty x (h x hx)
end Go.Proofs.YtbacejmdgfalpaaDoor
end
