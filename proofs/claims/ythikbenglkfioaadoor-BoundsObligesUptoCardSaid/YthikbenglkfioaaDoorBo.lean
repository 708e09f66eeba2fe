/- The statement BoundsObliges. No condition. -/
import Derived.Test.YthikbenglkfioaaDoorBn
import Derived.Test.YthikbenglkfioaaDoorBp
set_option linter.unusedVariables false
set_option linter.unusedSimpArgs false
set_option linter.unusedSectionVars false
namespace Go.Proofs.YthikbenglkfioaaDoor
open Go Go.VM
set_option maxRecDepth 100000
set_option maxHeartbeats 4000000
variable {G : GT}
/-! ### The same constraints -/
def okC : Cn → Prop
  | ⟨_, _, _, p, _, l⟩ => nodP p ≤ 900000000 ∧ l.length ≤ 900000000 ∧ ∀ k ∈ l, okC k
theorem okC_eq (c : Cn) : okC c = (nodP c.pred ≤ 900000000 ∧ c.kids.length ≤ 900000000 ∧ ∀ k ∈ c.kids, okC k) := by cases c; rw [okC]
abbrev cnO2 (op : Int) (nm s : Nm) (p : Pr) (t : Int) (k : D) : AObj := .cells [.d (.int .i64 op), .d (.str nm), .d (.str s), .d (.int .i64 p.op), .d (.str p.name), .d (.int .i64 p.n), .d (.sl (p.kids.map prC)), .d (.int .i64 t), .d k]
theorem ent_r36_SameCons : VM.Enters Tryd.prog 11 := VM.Enters.mk Tryd.func11 rfl
theorem r36_SameCons_cs : ∀ c : Cn, okC c → CS Tryd.prog G 11 [.agg (cnD c), .agg (cnD c)] (.d (.bool true)) none := by
  refine Cn.ind fun c ih => ?_
  intro hok
  rw [okC_eq] at hok
  obtain ⟨h1, h2, h3⟩ := hok
  obtain ⟨op, nm, s, p, t, l⟩ := c
  simp only at ih h1 h2 h3
  have hS := r7_Same_cs (G := G) p p h1
  rw [samP_dec] at hS
  simp at hS
  refine CS.of_VK Tryd.func11 rfl Tryd.ntmps11 rfl ?_
  simp
  refine callK.mk ent_r7_Same hS ?_
  simp
  refine SW.loopF (ι := { i : Nat // i ≤ l.length }) (fun i => [(5, .d (.int .i64 i.1))]) (fun _ => [(2, cnO2 op nm s p t (.sl (l.map cnC))), (3, cnO2 op nm s p t (.sl (l.map cnC)))]) (fun _ => []) (fun i => l.length - i.1) ⟨0, by simp⟩ (by simp) ?_
  rintro ⟨i, hi⟩
  by_cases hlt : i < l.length
  · have hg := cns_get hlt
    have hw := wrap64s (show i < 9223372036854775807 by omega)
    have hc := ih l[i] (List.getElem_mem hlt) (h3 _ (List.getElem_mem hlt))
    simp [hlt, hg]
    refine ⟨lexOk.mk (by kernel_rfl), ?_⟩
    refine callK.mk ent_r36_SameCons hc ?_
    simp
    exact Again.mk ⟨i + 1, hlt⟩ (by simp [hw]) (by simp; omega)
  · have : i = l.length := by omega
    subst this
    simp
/-! ### Finding -/
structure Sg where
  x : Nat → D
  abs : List Vr
  bs : List Bd
abbrev sgC (s : Sg) : List D := [s.x 0, s.x 1, .sl (s.abs.map vrC), .sl (s.bs.map bdC), s.x 4, s.x 5, s.x 6, s.x 7, s.x 8, s.x 9, s.x 10, s.x 11, s.x 12, s.x 13]
abbrev sgO (s : Sg) : AObj := .cells [.d (s.x 0), .d (s.x 1), .d (.sl (s.abs.map vrC)), .d (.sl (s.bs.map bdC)), .d (s.x 4), .d (s.x 5), .d (s.x 6), .d (s.x 7), .d (s.x 8), .d (s.x 9), .d (s.x 10), .d (s.x 11), .d (s.x 12), .d (s.x 13)]
theorem bds_get {l : List Bd} {i : Nat} (h : i < l.length) : (l.map bdC)[i]? = some (bdC l[i]) := by simp [h]
def zeroB : Bd := ⟨[], [], zerP, zerP⟩
def bdF (nm : Nm) : List Bd → Bd × Bool
  | [] => (zeroB, false)
  | b :: r => if b.name = nm then (b, true) else bdF nm r
theorem bdF_at {nm : Nm} {l : List Bd} {i : Nat} (h : i < l.length) : bdF nm (l.drop i) = if l[i].name = nm then (l[i], true) else bdF nm (l.drop (i + 1)) := by
  rw [List.drop_eq_getElem_cons h, bdF]
theorem bdF_mem {nm : Nm} : ∀ l : List Bd, (bdF nm l).1 = zeroB ∨ (bdF nm l).1 ∈ l
  | [] => .inl rfl
  | b :: r => by
    unfold bdF
    split
    · right; exact .head _
    · rcases bdF_mem (nm := nm) r with h | h
      · exact .inl h
      · exact .inr (.tail _ h)
theorem ent_bounds_Find : VM.Enters Tryd.prog 13 := VM.Enters.mk Tryd.func13 rfl
theorem bounds_Find_cs (s : Sg) (nm : Nm) (hl : s.bs.length ≤ 900000000) : CS Tryd.prog G 13 [.agg (sgC s), .str nm] (.tup [.agg (bdC (bdF nm s.bs).1), .bool (bdF nm s.bs).2]) none := by
  refine CS.of_VK Tryd.func13 rfl Tryd.ntmps13 rfl ?_
  simp
  refine SW.loopF (ι := { i : Nat // i ≤ s.bs.length ∧ bdF nm (s.bs.drop i) = bdF nm s.bs }) (fun i => [(11, .d (.int .i64 i.1))]) (fun _ => [(4, bdO zeroB)]) (fun _ => []) (fun i => s.bs.length - i.1) ⟨0, by simp⟩ (by simp [zeroB, zerP]) ?_
  rintro ⟨i, hi, hR⟩
  try simp only at hi hR
  by_cases hlt : i < s.bs.length
  · have hg := bds_get hlt
    have hw := wrap64s (show i < 9223372036854775807 by omega)
    rw [bdF_at hlt] at hR
    by_cases he : s.bs[i].name = nm
    · rw [if_pos he] at hR
      have hR2 := hR.symm
      simp [hlt, hg, he, hR2]
    · rw [if_neg he] at hR
      simp [hlt, hg, he]
      exact Again.mk ⟨i + 1, hlt, hR⟩ (by simp [hw]) (by simp; omega)
  · have : i = s.bs.length := by omega
    subst this
    rw [List.drop_length, bdF] at hR
    have hR2 := hR.symm
    simp [hR2, zeroB, zerP]
theorem ent_r36_Find : VM.Enters Tryd.prog 14 := VM.Enters.mk Tryd.func14 rfl
theorem r36_Find_cs (s : Sg) (nm : Nm) (hl : s.bs.length ≤ 900000000) : CS Tryd.prog G 14 [.agg (sgC s), .str nm] (.tup [.agg (bdC (bdF nm s.bs).1), .bool (bdF nm s.bs).2]) none := by
  refine CS.of_VK Tryd.func14 rfl Tryd.ntmps14 rfl ?_
  simp
  refine SW.loopF (ι := { i : Nat // i ≤ s.bs.length ∧ bdF nm (s.bs.drop i) = bdF nm s.bs }) (fun i => [(6, .d (.int .i64 i.1))]) (fun _ => [(2, sgO s), (4, bdO zeroB)]) (fun _ => []) (fun i => s.bs.length - i.1) ⟨0, by simp⟩ (by simp [zeroB, zerP]) ?_
  rintro ⟨i, hi, hR⟩
  try simp only at hi hR
  by_cases hlt : i < s.bs.length
  · have hg := bds_get hlt
    have hw := wrap64s (show i < 9223372036854775807 by omega)
    rw [bdF_at hlt] at hR
    by_cases he : s.bs[i].name = nm
    · rw [if_pos he] at hR
      have hR2 := hR.symm
      simp [hlt, hg, he, hR2]
    · rw [if_neg he] at hR
      simp [hlt, hg, he]
      exact Again.mk ⟨i + 1, hlt, hR⟩ (by simp [hw]) (by simp; omega)
  · have : i = s.bs.length := by omega
    subst this
    rw [List.drop_length, bdF] at hR
    have hR2 := hR.symm
    simp [hR2, zeroB, zerP]
theorem ent_r36_Same : VM.Enters Tryd.prog 15 := VM.Enters.mk Tryd.func15 rfl
theorem r36_Same_cs (b : Bd) (hl : b.vars.length ≤ 900000000) (h1 : nodP b.hyp ≤ 900000000) (h2 : nodP b.goal ≤ 900000000) : CS Tryd.prog G 15 [.agg (bdC b), .agg (bdC b)] (.d (.bool true)) none := by
  have hS := r7_Same_cs (G := G) b.hyp b.hyp h1
  have hT := r7_Same_cs (G := G) b.goal b.goal h2
  rw [samP_dec] at hS hT
  simp at hS hT
  refine CS.of_VK Tryd.func15 rfl Tryd.ntmps15 rfl ?_
  simp
  refine callK.mk ent_r7_Same hS ?_
  simp
  refine callK.mk ent_r7_Same hT ?_
  simp
  refine SW.loopF (ι := { i : Nat // i ≤ b.vars.length }) (fun i => [(5, .d (.int .i64 i.1))]) (fun _ => [(2, bdO b), (3, bdO b)]) (fun _ => []) (fun i => b.vars.length - i.1) ⟨0, by simp⟩ (by simp) ?_
  rintro ⟨i, hi⟩
  by_cases hlt : i < b.vars.length
  · have hg := vrs_get hlt
    have hw := wrap64s (show i < 9223372036854775807 by omega)
    simp [hlt, hg]
    refine ⟨lexOk.mk (by kernel_rfl), ?_⟩
    exact Again.mk ⟨i + 1, hlt⟩ (by simp [hw]) (by simp; omega)
  · have : i = b.vars.length := by omega
    subst this
    simp
end Go.Proofs.YthikbenglkfioaaDoor
