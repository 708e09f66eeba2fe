/- sort.With. No condition. -/
import Derived.Test.YthikbenglkfioaaDoorSo
set_option linter.unusedVariables false
set_option linter.unusedSimpArgs false
set_option linter.unusedSectionVars false
namespace Go.Proofs.YthikbenglkfioaaDoor
open Go Go.VM
set_option maxRecDepth 100000
set_option maxHeartbeats 8000000
variable {G : GT}
theorem keptE_step {n : List UInt8} {l : List (List UInt8 × List UInt8)} {i : Nat} (h : i < l.length) : keptE n 0 (l.take (i + 1)) = keptE n 0 (l.take i) ++ if l[i].1 = n then [] else [(.int .i64 (i : Int), .agg (varC l[i]))] := by
  rw [List.take_succ_eq_append_getElem h, keptE_app]
  have : (l.take i).length = i := by simp; omega
  rw [this, Nat.zero_add]
theorem keptE_new {n : List UInt8} {l : List (List UInt8 × List UInt8)} {i : Nat} (h : i < l.length) : ∀ e ∈ keptE n 0 (l.take i), eqCell (.int .i64 (i : Int)) e.1 = some false := by
  intro e he
  obtain ⟨j, h1, h2, h3⟩ := keptE_key n _ 0 e he
  have : (l.take i).length = i := by simp; omega
  rw [h3]
  simp [eqCell]
  omega
theorem symsC_three (l : List SymL) : (∀ x, x ∈ symsC l → x.length = 3) = True := by
  simp only [eq_iff_iff, iff_true]
  intro x hx
  simp only [symsC, List.mem_map] at hx
  obtain ⟨y, _, rfl⟩ := hx
  rfl
theorem holesC_two (l : List HoleL) : (∀ x, x ∈ holesC l → x.length = 2) = True := by
  simp only [eq_iff_iff, iff_true]
  intro x hx
  simp only [holesC, List.mem_map] at hx
  obtain ⟨y, _, rfl⟩ := hx
  rfl
attribute [simp] symsC_three holesC_two
theorem symsC_take {l : List SymL} {i : Nat} (h : i < l.length) : symsC (l.take (i + 1)) = symsC (l.take i) ++ [[.str l[i].name, .sl (strs l[i].args), .str l[i].res]] := by
  rw [List.take_succ_eq_append_getElem h]
  simp only [symsC, List.map_append, List.map_cons, List.map_nil]
  rfl
theorem holesC_take {l : List HoleL} {i : Nat} (h : i < l.length) : holesC (l.take (i + 1)) = holesC (l.take i) ++ [[.str l[i].name, .sl (varsC l[i].params)]] := by
  rw [List.take_succ_eq_append_getElem h]
  simp only [holesC, List.map_append, List.map_cons, List.map_nil]
  rfl
/-- The variables of other names. -/
def others (n : List UInt8) (l : List (List UInt8 × List UInt8)) : List (List UInt8 × List UInt8) := l.filter fun y => !decide (y.1 = n)
theorem others_take {n : List UInt8} {l : List (List UInt8 × List UInt8)} {i : Nat} (h : i < l.length) : others n (l.take (i + 1)) = others n (l.take i) ++ if l[i].1 = n then [] else [l[i]] := by
  rw [List.take_succ_eq_append_getElem h]
  unfold others
  rw [List.filter_append]
  by_cases hk : l[i].1 = n <;> simp [hk]
theorem others_len (n : List UInt8) (l : List (List UInt8 × List UInt8)) : (others n l).length ≤ l.length := List.length_filter_le _ _
theorem ent_s_With : VM.Enters Tryd.prog 75 := VM.Enters.mk Tryd.func75 rfl
theorem s_With_cs (v : EnvL) (x : List UInt8 × List UInt8) (hf : Fit v) : CS Tryd.prog G 75 [.agg (envC v), .agg (varC x)] (.d (.agg (envC ⟨addR v.vars x, v.syms, v.holes⟩))) none := by
  obtain ⟨vs, ss, hs⟩ := v
  obtain ⟨xn, xs⟩ := x
  obtain ⟨f1, f2, f3, f4, f5⟩ := hf
  simp only at f1 f2 f3 f4 f5
  refine CS.of_VK Tryd.func75 rfl Tryd.ntmps75 rfl ?_
  simp [envC, varC]
  refine SW.loopF (ι := { i : Nat // i ≤ vs.length }) (fun i => [(20, .d (.int .i64 i.1))]) (fun i => [(2, .cells [.d (.sl (varsC vs)), .d (.sl (symsC ss)), .d (.sl (holesC hs))]), (3, .cells [.d (.str xn), .d (.str xs)]), (4, .cells [.d .nils, .d .nils, .d .nils]), (16, .map (keptE xn 0 (vs.take i.1)))]) (fun _ => []) (fun i => vs.length - i.1) ⟨0, by simp⟩ (by simp [keptE]) ?_
  rintro ⟨i, hi⟩
  by_cases hlt : i < vs.length
  · have hw := wrap64s (show i < 9223372036854775807 by omega)
    have hset := setKeyD_new (k := .int .i64 (i : Int)) (v := .agg [.str vs[i].1, .str vs[i].2]) (keptE_new (n := xn) hlt)
    have hdel := delKeyD_last (k := .int .i64 (i : Int)) (v := .agg [.str vs[i].1, .str vs[i].2]) (by simp [eqCell]) (keptE_new (n := xn) hlt)
    by_cases hk : vs[i].1 = xn
    · rw [hk] at hset hdel
      simp [hlt, hk, hset, hdel]
      exact Again.mk ⟨i + 1, hlt⟩ (by simp [hw, keptE_step hlt, hk]) (by simp; omega)
    · simp [hlt, hset, hk]
      exact Again.mk ⟨i + 1, hlt⟩ (by simp [hw, keptE_step hlt, hk, varC]) (by simp; omega)
  · have hi' : i = vs.length := by omega
    subst hi'
    simp
    -- the symbols
    refine SW.loopF (ι := { i : Nat // i ≤ ss.length }) (fun i => [(39, .d (.int .i64 i.1))]) (fun i => [(2, .cells [.d (.sl (varsC vs)), .d (.sl (symsC ss)), .d (.sl (holesC hs))]), (3, .cells [.d (.str xn), .d (.str xs)]), (4, .cells [.d .nils, .d .nils, .d .nils]), (16, .map (keptE xn 0 vs)), (8, .cells [.d (.sl []), .d (.sl (symsC (ss.take i.1))), .d (.sl [])])]) (fun _ => [(87, [.c 8 1]), (40, [.c 8 2]), (79, [.c 8 0])]) (fun i => ss.length - i.1) ⟨0, by simp⟩ (by simp [symsC]) ?_
    rintro ⟨i, hi⟩
    by_cases hlt : i < ss.length
    · have hw := wrap64s (show i < 9223372036854775807 by omega)
      simp [hlt]
      refine callK.mk ent_cloneS (cloneS_cs _ (f4 _ (List.getElem_mem hlt))) ?_
      have hsz : (min i ss.length + 1) * 57 ≤ 140737488355328 := by omega
      simp [hlt, hsz]
      exact Again.mk ⟨i + 1, hlt⟩ (by simp [hw, symsC_take hlt]) (by simp; omega)
    · have hi' : i = ss.length := by omega
      subst hi'
      simp
      -- the holes
      refine SW.loopF (ι := { i : Nat // i ≤ hs.length }) (fun i => [(57, .d (.int .i64 i.1))]) (fun i => [(2, .cells [.d (.sl (varsC vs)), .d (.sl (symsC ss)), .d (.sl (holesC hs))]), (3, .cells [.d (.str xn), .d (.str xs)]), (4, .cells [.d .nils, .d .nils, .d .nils]), (16, .map (keptE xn 0 vs)), (8, .cells [.d (.sl []), .d (.sl (symsC ss)), .d (.sl (holesC (hs.take i.1)))])]) (fun _ => [(40, [.c 8 2]), (79, [.c 8 0])]) (fun i => hs.length - i.1) ⟨0, by simp⟩ (by simp [holesC]) ?_
      rintro ⟨i, hi⟩
      by_cases hlt : i < hs.length
      · have hw := wrap64s (show i < 9223372036854775807 by omega)
        simp [hlt]
        refine callK.mk ent_cloneV (cloneV_cs _ (f5 _ (List.getElem_mem hlt))) ?_
        have hsz : (min i hs.length + 1) * 41 ≤ 140737488355328 := by omega
        simp [hlt, hsz]
        exact Again.mk ⟨i + 1, hlt⟩ (by simp [hw, holesC_take hlt]) (by simp; omega)
      · have hi' : i = hs.length := by omega
        subst hi'
        simp
        -- the variables
        refine SW.loopF (ι := { i : Nat // i ≤ vs.length }) (fun i => [(75, .d (.int .i64 i.1))]) (fun i => [(2, .cells [.d (.sl (varsC vs)), .d (.sl (symsC ss)), .d (.sl (holesC hs))]), (3, .cells [.d (.str xn), .d (.str xs)]), (4, .cells [.d .nils, .d .nils, .d .nils]), (16, .map (keptE xn 0 vs)), (8, .cells [.d (.sl (varsC (others xn (vs.take i.1)))), .d (.sl (symsC ss)), .d (.sl (holesC hs))])]) (fun _ => [(79, [.c 8 0])]) (fun i => vs.length - i.1) ⟨0, by simp⟩ (by simp [others, varsC]) ?_
        rintro ⟨i, hi⟩
        by_cases hlt : i < vs.length
        · have hw := wrap64s (show i < 9223372036854775807 by omega)
          have hfd := keptE_find xn vs 0 i hlt
          rw [Nat.zero_add] at hfd
          have hlen : (others xn (vs.take i)).length ≤ i := by have := others_len xn (vs.take i); simp at this; omega
          have hsz : ((others xn (vs.take i)).length + 1) * 33 ≤ 140737488355328 := by omega
          by_cases hk : vs[i].1 = xn
          · rw [if_pos hk] at hfd
            simp [hlt, hfd]
            exact Again.mk ⟨i + 1, hlt⟩ (by simp [hw, others_take hlt, hk]) (by simp; omega)
          · rw [if_neg hk] at hfd
            simp [hlt, hfd, varC, hsz]
            exact Again.mk ⟨i + 1, hlt⟩ (by simp [hw, others_take hlt, hk]) (by simp; omega)
        · have hi' : i = vs.length := by omega
          subst hi'
          have hlen := others_len xn vs
          have hsz : ((others xn vs).length + 1) * 33 ≤ 140737488355328 := by omega
          simp [hsz]
          have ha : addR vs (xn, xs) = others xn vs ++ [(xn, xs)] := rfl
          rw [ha, varsC_app, WkLL_refl]
          trivial
end Go.Proofs.YthikbenglkfioaaDoor
