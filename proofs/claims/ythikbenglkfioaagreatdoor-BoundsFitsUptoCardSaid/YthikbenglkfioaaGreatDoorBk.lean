/- What environments and bounds come in; the statement BoundsChecks. No condition. -/
import Derived.Test.YthikbenglkfioaaGreatDoorBf
import Derived.Test.YthikbenglkfioaaGreatDoorBe
import Derived.Test.YthikbenglkfioaaGreatDoorPy
import Derived.Test.YthikbenglkfioaaGreatDoorSy
set_option linter.unusedVariables false
set_option linter.unusedSimpArgs false
set_option linter.unusedSectionVars false
namespace Go.Proofs.YthikbenglkfioaaGreatDoor
open Go Go.VM
set_option maxRecDepth 100000
set_option maxHeartbeats 8000000
theorem len_szLL {α : Type} {f : α → List D} (hf : ∀ x, 1 ≤ szL (f x)) : ∀ l : List α, l.length ≤ szLL (l.map f)
  | [] => by simp
  | x :: r => by
    have := len_szLL hf r
    have := hf x
    simp only [List.map_cons, szLL, List.length_cons]
    omega
theorem mem_szLL {α : Type} {f : α → List D} {l : List α} {x : α} (h : x ∈ l) : szL (f x) ≤ szLL (l.map f) := szLL_mem (List.mem_map.2 ⟨x, h, rfl⟩)
theorem fit_sz {v : EnvL} (h : szLL (varsC v.vars) + szLL (symsC v.syms) + szLL (holesC v.holes) ≤ 1100000) : Fit v := by
  have h1 : v.vars.length ≤ szLL (varsC v.vars) := len_szLL (fun x => by simp [varC, szL, szD]; omega) _
  have h2 : v.syms.length ≤ szLL (symsC v.syms) := len_szLL (fun x => by simp [symC, szL, szD]; omega) _
  have h3 : v.holes.length ≤ szLL (holesC v.holes) := len_szLL (fun x => by simp [holeC, szL, szD]; omega) _
  refine ⟨by omega, by omega, by omega, fun y hy => ?_, fun y hy => ?_⟩
  · have q1 : szL (symC y) ≤ szLL (symsC v.syms) := mem_szLL hy
    have q2 : y.args.length ≤ szLL (strs y.args) := len_szLL (f := fun s => [D.str s]) (fun x => by simp [szL, szD]) _
    simp only [symC, szL, szD] at q1
    omega
  · have q1 : szL (holeC y) ≤ szLL (holesC v.holes) := mem_szLL hy
    have q2 : y.params.length ≤ szLL (varsC y.params) := len_szLL (fun x => by simp [varC, szL, szD]; omega) _
    simp only [holeC, szL, szD] at q1
    omega
mutual
theorem nod_sz : ∀ p : Pr, 4 * nodP p ≤ szL (prC p)
  | ⟨op, nm, n, l⟩ => by
    have := nods_sz l
    rw [prC_eq]
    simp only [nodP, szL, szD]
    omega
theorem nods_sz : ∀ l : List Pr, 4 * nodPs l ≤ szLL (l.map prC)
  | [] => by simp [nodPs]
  | t :: r => by
    have h1 := nod_sz t
    have h2 := nods_sz r
    simp only [nodPs, List.map_cons, szLL]
    omega
end
theorem szL_pred (p : Pr) : szL (prC p) = szD (.int .i64 p.op) + (szD (.str p.name) + (szD (.int .i64 p.n) + (szD (.sl (p.kids.map prC)) + 0))) := by
  rw [prC_eq]
  simp only [szL]
theorem bd_sz (b : Bd) : szL (bdC b) = szD (.str b.name) + (szD (.sl (b.vars.map vrC)) + (szL (prC b.hyp) + szL (prC b.goal))) := by
  simp only [bdC, szL, szL_pred]
  omega
theorem fits_bd {x : List D} (h : FitsT Tryz.prog 32 x) : ∃ b : Bd, x = bdC b := by
  obtain ⟨x0, x1, x2, x3, x4, x5, x6, x7, x8, x9, rfl, h0, h1, h2, h3⟩ := inv32 h
  obtain ⟨nm, e0, _⟩ := fits_str tu9 h0
  obtain ⟨es, e1, _, hes⟩ := fits_sl ty_elem22 h1
  obtain ⟨l, rfl⟩ := fits_vrs hes
  obtain ⟨p, e2⟩ := fits_pr _ h2
  obtain ⟨q, e3⟩ := fits_pr _ h3
  rw [prC_eq] at e2 e3
  cases e0; cases e1; cases e2; cases e3
  exact ⟨⟨nm, l, p, q⟩, rfl⟩
theorem fitV_bd {d : D} (h : FitsV Tryz.prog 32 d) : ∃ b : Bd, d = .agg (bdC b) := by
  obtain ⟨cs, rfl, hb⟩ := fitsV_agg ty_field32_0 h
  obtain ⟨b, rfl⟩ := fits_bd hb
  exact ⟨b, rfl⟩
def envB (v : EnvL) : Bool := decide (v.vars.length ≤ 30) && (decide (v.syms.length ≤ 30) && decide (v.holes.length ≤ 30))
theorem ent_l36_env : VM.Enters Tryz.prog 7 := VM.Enters.mk Tryz.func7 rfl
theorem l36_env_cs {G : GT} (v : EnvL) : CS Tryz.prog G 7 [.agg (envC v)] (.d (.bool (envB v))) none := by
  have hm : envB v = (decide (v.vars.length ≤ 30) && (decide (v.syms.length ≤ 30) && decide (v.holes.length ≤ 30))) := rfl
  simp only [envC]
  refine CS.of_VK Tryz.func7 rfl Tryz.ntmps7 rfl ?_
  by_cases h1 : v.vars.length ≤ 30
  rotate_left
  · have h1' : ¬ (v.vars.length : Int) ≤ 30 := by omega
    simp [h1, h1', hm, varsC]
  by_cases h2 : v.syms.length ≤ 30
  rotate_left
  · have h2' : ¬ (v.syms.length : Int) ≤ 30 := by omega
    simp [h1, h2, h2', hm, varsC, symsC]
  have h1' : (v.vars.length : Int) ≤ 30 := by omega
  have h2' : (v.syms.length : Int) ≤ 30 := by omega
  simp [h1, h2, h1', h2', hm, varsC, symsC, holesC]
theorem ent_l36_BoundsChecks : VM.Enters Tryz.prog 3 := VM.Enters.mk Tryz.func3 rfl
theorem l36_BoundsChecks_cs (v : EnvL) (b : Bd) (hs : szLL (varsC v.vars) + szLL (symsC v.syms) + szLL (holesC v.holes) + szL (bdC b) ≤ 1100000) (hs2 : szL (bdC b) ≤ 1048576) : CS Tryz.prog G0 3 [.agg (envC v), .agg (bdC b)] (.d (.bool true)) none := by
  have hb := bd_sz b
  have n1 := nod_sz b.hyp
  have n2 := nod_sz b.goal
  have hF := fit_sz (v := v) (by omega)
  have hE := l36_env_cs (G := G0) v
  have hS := l36_small_cs (G := G0) b (by omega)
  have hl : v.vars.length ≤ szLL (varsC v.vars) := len_szLL (fun x => by simp [varC, szL, szD]; omega) _
  have c1 := bounds_Check_cs (G := G0) G0_kw v b hF (by omega) (by omega) (by omega)
  have c2 := r36_Check_cs (G := G0) v b hF (by omega) (by omega) (by omega)
  simp only [envC] at hE c1 c2 ⊢
  refine CS.of_VK Tryz.func3 rfl Tryz.ntmps3 rfl ?_
  simp
  refine callK.mk ent_l36_env hE ?_
  cases h1 : envB v
  · simp
    refine callK.mk ent_l36_awake (l36_awake_cs ) ?_
    simp
  simp
  refine callK.mk ent_l36_small hS ?_
  cases h2 : smallD b
  · simp
    refine callK.mk ent_l36_awake (l36_awake_cs ) ?_
    simp
  simp
  refine ⟨lexOk.mk (by kernel_rfl), ?_⟩
  refine callK.mk ent_bounds_Check c1 ?_
  simp
  refine callK.mk ent_r36_Check c2 ?_
  simp
  refine callK.mk ent_l36_awake (l36_awake_cs ) ?_
  simp
theorem boundsChecks_all (xs : List D) (h : FitsAll Tryz.prog [26, 32] xs) (hsz : szL xs ≤ 1048576) : CS Tryz.prog G0 3 xs (.d (.bool true)) none := by
  match xs, h with
  | [a, b], ⟨h1, h2, _⟩ =>
    obtain ⟨v, rfl⟩ := fitV_env h1
    obtain ⟨c, rfl⟩ := fitV_bd h2
    simp only [szL, szD, envC] at hsz
    have hb := bd_sz c
    simp only [szL, szD] at hb
    exact l36_BoundsChecks_cs v c (by simp only [bdC, szL, szD]; omega) (by simp only [bdC, szL, szD]; omega)
end Go.Proofs.YthikbenglkfioaaGreatDoor
