/- Bounds: how many parts predicates have; the tests of the statements. No condition. -/
import Derived.Test.YthikbenglkfioaaDoorBa
import Derived.Test.YthikbenglkfioaaDoorUp
set_option linter.unusedVariables false
set_option linter.unusedSimpArgs false
set_option linter.unusedSectionVars false
namespace Go.Proofs.YthikbenglkfioaaDoor
open Go Go.VM
set_option maxRecDepth 100000
set_option maxHeartbeats 8000000
variable {G : GT}
mutual
def blkP : Pr → Int → Int
  | ⟨_, _, _, l⟩, most => blkPs l most 0
def blkPs : List Pr → Int → Int → Int
  | [], _, n => n
  | p :: r, most, n => if n ≤ most then blkPs r most (n + 1 + ((p.name.length : Int) / 50) + blkP p (most - (n + 1 + ((p.name.length : Int) / 50)))) else n
end
theorem blkP_eq (p : Pr) (most : Int) : blkP p most = blkPs p.kids most 0 := by cases p; rw [blkP]
abbrev blkN (p : Pr) (n : Int) : Int := n + 1 + ((p.name.length : Int) / 50)
theorem blkPs_at {l : List Pr} {i : Nat} (h : i < l.length) (most n : Int) : blkPs (l.drop i) most n = if n ≤ most then blkPs (l.drop (i + 1)) most (blkN l[i] n + blkP l[i] (most - blkN l[i] n)) else n := by
  rw [List.drop_eq_getElem_cons h, blkPs]
theorem szP (p : Pr) : szL (prC p) = p.name.length + szLL (p.kids.map prC) + 4 := by
  rw [prC_eq]
  simp only [szL, szD]
  omega
mutual
theorem blkP_le : ∀ (p : Pr) (most : Int), 0 ≤ blkP p most ∧ blkP p most ≤ szLL (p.kids.map prC)
  | ⟨op, nm, n, l⟩, most => by
    rw [blkP]
    have := blkPs_le l most 0
    simp only at this ⊢
    omega
theorem blkPs_le : ∀ (l : List Pr) (most n : Int), n ≤ blkPs l most n ∧ blkPs l most n ≤ n + szLL (l.map prC)
  | [], most, n => by simp [blkPs, szLL]
  | p :: r, most, n => by
    rw [blkPs]
    have hz := szP p
    simp only [List.map_cons, szLL]
    split
    · have h1 := blkP_le p (most - (n + 1 + ((p.name.length : Int) / 50)))
      have h2 := blkPs_le r most (n + 1 + ((p.name.length : Int) / 50) + blkP p (most - (n + 1 + ((p.name.length : Int) / 50))))
      omega
    · omega
end
theorem szLL_app : ∀ (a b : List (List D)), szLL (a ++ b) = szLL a + szLL b
  | [], b => by simp [szLL]
  | x :: a, b => by simp only [List.cons_append, szLL, szLL_app a b]; omega
theorem szLL_step {l : List Pr} {i : Nat} (h : i < l.length) : szLL ((l.take (i + 1)).map prC) = szLL ((l.take i).map prC) + szL (prC l[i]) := by
  rw [List.take_succ_eq_append_getElem h, List.map_append, szLL_app]
  simp [szLL]
theorem szLL_take : ∀ (l : List Pr) (i : Nat), szLL ((l.take i).map prC) ≤ szLL (l.map prC)
  | [], i => by simp
  | p :: r, 0 => by simp [szLL]
  | p :: r, i + 1 => by
    have := szLL_take r i
    simp only [List.take_succ_cons, List.map_cons, szLL]
    omega
theorem ent_r20_preds : VM.Enters Tryd.prog 107 := VM.Enters.mk Tryd.func107 rfl
theorem r20_preds_cs : ∀ (N : Nat) (l : List Pr) (most : Int), szLL (l.map prC) ≤ N → N ≤ 2000000 → -4000000 ≤ most → most ≤ 4000000 → CS Tryd.prog G 107 [.sl (l.map prC), .int .i64 most] (.d (.int .i64 (blkPs l most 0))) none := by
  intro N
  induction N using Nat.strongRecOn with
  | ind N ih =>
    intro l most hN hN2 hm1 hm2
    have hlen : l.length ≤ szLL (l.map prC) := by
      clear hN
      induction l with
      | nil => simp
      | cons p r ih => have := szP p; simp only [List.map_cons, szLL, List.length_cons]; omega
    refine CS.of_VK Tryd.func107 rfl Tryd.ntmps107 rfl ?_
    simp
    refine SW.loopF (ι := { x : Nat × Int // x.1 ≤ l.length ∧ 0 ≤ x.2 ∧ x.2 ≤ szLL ((l.take x.1).map prC) ∧ blkPs (l.drop x.1) most x.2 = blkPs l most 0 }) (fun x => [(5, .d (.int .i64 x.1.2)), (6, .d (.int .i64 x.1.1))]) (fun _ => []) (fun _ => []) (fun x => l.length - x.1.1) ⟨(0, 0), by simp⟩ (by simp) ?_
    rintro ⟨⟨i, n⟩, hi, hn0, hn1, hR⟩
    try simp only at hi hn0 hn1 hR
    by_cases hlt : i < l.length
    · have hg := prs_get hlt
      have hw := wrap64s (show i < 9223372036854775807 by omega)
      have ht := szLL_take l i
      have ht2 := szLL_take l (i + 1)
      have hst := szLL_step hlt
      have hz := szP l[i]
      rw [blkPs_at hlt] at hR
      by_cases hle : n ≤ most
      · rw [if_pos hle] at hR
        have w0 : IntKind.i64.wrap ((l[i].name.length : Int) / 50) = (l[i].name.length : Int) / 50 := wrap64 (by omega)
        have w1 : IntKind.i64.wrap (n + 1) = n + 1 := wrap64 (by omega)
        have w2 : IntKind.i64.wrap (n + 1 + ((l[i].name.length : Int) / 50)) = blkN l[i] n := wrap64 (by omega)
        have w3 : IntKind.i64.wrap (most - blkN l[i] n) = most - blkN l[i] n := wrap64 (by simp only [blkN]; omega)
        have hb := blkP_le l[i] (most - blkN l[i] n)
        have w4 : IntKind.i64.wrap (blkN l[i] n + blkP l[i] (most - blkN l[i] n)) = blkN l[i] n + blkP l[i] (most - blkN l[i] n) := wrap64 (by simp only [blkN] at hb ⊢; omega)
        have hc := ih (szLL (l[i].kids.map prC)) (by omega) l[i].kids (most - blkN l[i] n) (Nat.le_refl _) (by omega) (by simp only [blkN]; omega) (by simp only [blkN]; omega)
        rw [← blkP_eq] at hc
        simp [hlt, hg, hle, w0, w1, w2, w3]
        refine callK.mk ent_r20_preds hc ?_
        simp [w4]
        exact Again.mk ⟨(i + 1, blkN l[i] n + blkP l[i] (most - blkN l[i] n)), hlt, by simp only [blkN] at hb ⊢; omega, by simp only [blkN] at hb ⊢; omega, hR⟩ (by simp [hw]) (by simp; omega)
      · rw [if_neg hle] at hR
        simp [hlt, hle, ← hR]
    · have : i = l.length := by omega
      subst this
      rw [List.drop_length, blkPs] at hR
      simp [hR]
/-- The type that holds two predicates. -/
abbrev tyTwo (h g : Pr) : List D := [.int .i64 0, .str [], .nils, .nils, .int .i64 0, .str [], .int .i64 0, .nils, .sl [prC h, prC g]]
def twoN (h g : Pr) : Int := 1 + blkPs [zerP, h, g] 300 0
theorem twoN_le (h g : Pr) : 1 ≤ twoN h g ∧ twoN h g ≤ 5 + (szL (prC h) + szL (prC g)) := by
  have := blkPs_le [zerP, h, g] 300 0
  have hz := szP zerP
  unfold twoN
  simp only [List.map_cons, List.map_nil, szLL, zerP, List.length_nil] at this hz ⊢
  omega
theorem ent_r20_types : VM.Enters Tryd.prog 77 := VM.Enters.mk Tryd.func77 rfl
theorem r20_types_nil (most : Int) : CS Tryd.prog G 77 [.nils, .int .i64 most] (.d (.int .i64 0)) none := by
  refine CS.of_VK Tryd.func77 rfl Tryd.ntmps77 rfl ?_
  simp
  refine SW.loopF (ι := Unit) (fun _ => [(5, .d (.int .i64 0)), (6, .d (.int .i64 0))]) (fun _ => []) (fun _ => []) (fun _ => 0) () (by simp) ?_
  rintro ⟨⟩
  simp
theorem r20_types_one (h g : Pr) (hs : szL (prC h) + szL (prC g) ≤ 1048576) : CS Tryd.prog G 77 [.sl [tyTwo h g], .int .i64 300] (.d (.int .i64 (twoN h g))) none := by
  have hz := szP zerP
  have hp := r20_preds_cs (G := G) 1100000 [zerP, h, g] 300 (by simp only [List.map_cons, List.map_nil, szLL, zerP, List.length_nil] at hz ⊢; omega) (by omega) (by omega) (by omega)
  have hle := twoN_le h g
  have hw1 : IntKind.i64.wrap (1 + blkPs [zerP, h, g] 300 0) = twoN h g := wrap64 (by unfold twoN at hle; omega)
  have hw2 : IntKind.i64.wrap (300 - twoN h g) = 300 - twoN h g := wrap64 (by omega)
  have hw3 : IntKind.i64.wrap (twoN h g) = twoN h g := wrap64 (by omega)
  have hz0 : IntKind.i64.wrap 0 = 0 := by decide
  have hz1 : IntKind.i64.wrap 1 = 1 := by decide
  have hp2 : CS Tryd.prog G 107 [.sl [[.int .i64 0, .str [], .int .i64 0, .nils], prC h, prC g], .int .i64 300] (.d (.int .i64 (blkPs [zerP, h, g] 300 0))) none := CS.args hp (by simp [zerP])
  simp [zerP] at hp2 hw1
  refine CS.of_VK Tryd.func77 rfl Tryd.ntmps77 rfl ?_
  simp
  refine SW.loopF (ι := Bool) (fun b => [(5, .d (.int .i64 (cond b (twoN h g) 0))), (6, .d (.int .i64 (cond b 1 0)))]) (fun _ => []) (fun _ => []) (fun b => cond b 0 1) false (by simp) ?_
  rintro ⟨⟩
  · simp [hz0, hz1]
    refine ⟨lexOk.mk (by kernel_rfl), ?_⟩
    refine callK.mk ent_r20_preds hp2 ?_
    simp [hw1, hw2]
    refine callK.mk ent_r20_types (r20_types_nil _) ?_
    simp [hw3]
    exact Again.mk true (by simp [hz1]) (by simp)
  · simp
abbrev exTwo (h g : Pr) : List D := [.int .i64 0, .str [], .int .i64 0, .nils, .nils, .nils, .sl [tyTwo h g]]
theorem ent_r20_Bulk : VM.Enters Tryd.prog 42 := VM.Enters.mk Tryd.func42 rfl
theorem r20_Bulk_cs (h g : Pr) (hs : szL (prC h) + szL (prC g) ≤ 1048576) : CS Tryd.prog G 42 [.agg (exTwo h g), .int .i64 300] (.d (.int .i64 (1 + twoN h g))) none := by
  have ht := r20_types_one (G := G) h g hs
  have hle := twoN_le h g
  have hw1 : IntKind.i64.wrap (1 + twoN h g) = 1 + twoN h g := wrap64 (by omega)
  try simp at ht
  have hz0 : IntKind.i64.wrap 0 = 0 := by decide
  have hz1 : IntKind.i64.wrap 1 = 1 := by decide
  refine CS.of_VK Tryd.func42 rfl Tryd.ntmps42 rfl ?_
  simp
  refine ⟨lexOk.mk (by kernel_rfl), ?_⟩
  refine callK.mk ent_r20_types ht ?_
  simp [hz0, hz1, hw1]
  refine SW.loopF (ι := Unit) (fun _ => [(5, .d (.int .i64 (1 + twoN h g))), (6, .d (.int .i64 0))]) (fun _ => [(2, .cells [.d (.int .i64 0), .d (.str []), .d (.int .i64 0), .d .nils, .d .nils, .d .nils, .d (.sl [tyTwo h g])])]) (fun _ => []) (fun _ => 0) () (by simp) ?_
  rintro ⟨⟩
  simp
  refine SW.loopF (ι := Unit) (fun _ => [(5, .d (.int .i64 (1 + twoN h g))), (7, .d (.int .i64 0))]) (fun _ => [(2, .cells [.d (.int .i64 0), .d (.str []), .d (.int .i64 0), .d .nils, .d .nils, .d .nils, .d (.sl [tyTwo h g])])]) (fun _ => []) (fun _ => 0) () (by simp) ?_
  rintro ⟨⟩
  simp
  refine SW.loopF (ι := Unit) (fun _ => [(5, .d (.int .i64 (1 + twoN h g))), (8, .d (.int .i64 0))]) (fun _ => [(2, .cells [.d (.int .i64 0), .d (.str []), .d (.int .i64 0), .d .nils, .d .nils, .d .nils, .d (.sl [tyTwo h g])])]) (fun _ => []) (fun _ => 0) () (by simp) ?_
  rintro ⟨⟩
  simp
def smallD (b : Bd) : Bool := if 10 < b.vars.length ∨ 100 < b.name.length then false else if (b.vars.all fun x => decide (x.1.length ≤ 100)) = false then false else decide (1 + twoN b.hyp b.goal ≤ 300)
theorem all_at {α : Type} {f : α → Bool} {l : List α} {i : Nat} (h : i < l.length) : (l.drop i).all f = (f l[i] && (l.drop (i + 1)).all f) := by
  rw [List.drop_eq_getElem_cons h, List.all_cons]
theorem ent_l36_small : VM.Enters Tryd.prog 9 := VM.Enters.mk Tryd.func9 rfl
theorem l36_small_cs (b : Bd) (hs : szL (prC b.hyp) + szL (prC b.goal) ≤ 1048576) : CS Tryd.prog G 9 [.agg (bdC b)] (.d (.bool (smallD b))) none := by
  have hB := r20_Bulk_cs (G := G) b.hyp b.goal hs
  simp only [exTwo, tyTwo, prC_eq] at hB
  refine CS.of_VK Tryd.func9 rfl Tryd.ntmps9 rfl ?_
  by_cases c1 : 10 < b.vars.length
  · have c2 : 10 < (b.vars.length : Int) := by omega
    simp [c1, c2, smallD]
  have c2 : ¬ 10 < (b.vars.length : Int) := by omega
  by_cases c3 : 100 < b.name.length
  · have c4 : 100 < (b.name.length : Int) := by omega
    simp [c1, c2, c3, c4, smallD]
  have c4 : ¬ 100 < (b.name.length : Int) := by omega
  have hm : smallD b = if (b.vars.all fun x => decide (x.1.length ≤ 100)) = false then false else decide (1 + twoN b.hyp b.goal ≤ 300) := by
    unfold smallD
    rw [if_neg (by omega)]
  simp [c1, c2, c3, c4]
  refine SW.loopF (ι := { i : Nat // i ≤ b.vars.length ∧ ((b.vars.drop i).all fun x => decide (x.1.length ≤ 100)) = b.vars.all fun x => decide (x.1.length ≤ 100) }) (fun i => [(3, .d (.int .i64 i.1))]) (fun _ => [(1, bdO b)]) (fun _ => []) (fun i => b.vars.length - i.1) ⟨0, by simp⟩ (by simp) ?_
  rintro ⟨i, hi, hR⟩
  try simp only at hi hR
  by_cases hlt : i < b.vars.length
  · have hg := vrs_get hlt
    have hw := wrap64s (show i < 9223372036854775807 by omega)
    rw [all_at hlt] at hR
    by_cases hl : b.vars[i].1.length ≤ 100
    · have hl2 : ¬ 100 < b.vars[i].1.length := by omega
      have hl3 : ¬ 100 < (b.vars[i].1.length : Int) := by omega
      simp only [hl, decide_true, Bool.true_and] at hR
      simp [hlt, hg, hl2, hl3]
      exact Again.mk ⟨i + 1, hlt, hR⟩ (by simp [hw]) (by simp; omega)
    · have hl2 : 100 < b.vars[i].1.length := by omega
      have hl3 : 100 < (b.vars[i].1.length : Int) := by omega
      simp only [hl, decide_false, Bool.false_and] at hR
      rw [if_pos hR.symm] at hm
      simp [hlt, hg, hl2, hl3, hm]
  · have : i = b.vars.length := by omega
    subst this
    rw [List.drop_length, List.all_nil] at hR
    rw [if_neg (by rw [← hR]; simp)] at hm
    simp [show List.range 2 = [0, 1] from rfl]
    refine callK.mk ent_r20_Bulk hB ?_
    simp [hm]
end Go.Proofs.YthikbenglkfioaaDoor
