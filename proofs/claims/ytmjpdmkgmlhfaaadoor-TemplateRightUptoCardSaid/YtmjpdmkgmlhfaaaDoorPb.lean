/- Predicates: the walks of equality, copying, replacing, taking apart, filling, in the program and in the reference. No condition. -/
import Derived.Test.YtmjpdmkgmlhfaaaDoorPa
set_option linter.unusedVariables false
set_option linter.unusedSimpArgs false
set_option linter.unusedSectionVars false
namespace Go.Proofs.YtmjpdmkgmlhfaaaDoor
open Go Go.VM
set_option maxRecDepth 100000
set_option maxHeartbeats 8000000
variable {G : GT}
theorem map_stepC {α : Type} (f : α → List D) {l : List α} {i : Nat} (h : i < l.length) : List.take (i + 1) (List.map f l) = List.take i (List.map f l) ++ [f l[i]] := by
  have := map_step f h
  rw [List.map_take, List.map_take] at this
  exact this
theorem len_mem {α : Type} {f : α → List D} {k : Nat} (hf : ∀ a, (f a).length = k) {l : List α} {i : Nat} : ∀ (x : List D), x ∈ List.take i (List.map f l) → x.length = k := fun x hx => by
  obtain ⟨t, _, rfl⟩ := List.mem_map.1 (List.mem_of_mem_take hx)
  exact hf t
/-- The cells of a predicate as an object. -/
abbrev prO (op : Int) (nm : Nm) (n : Int) (k : D) : AObj := .cells [.d (.int .i64 op), .d (.str nm), .d (.int .i64 n), .d k]
/-! ### Finding a text -/
theorem find_range (s : Nm) (l : List Nm) : findI s l 0 < 0 ∨ (0 ≤ findI s l 0 ∧ findI s l 0 < l.length) := by
  suffices h : ∀ (l : List Nm) (i : Nat), findI s l i < 0 ∨ ((i : Int) ≤ findI s l i ∧ findI s l i < i + l.length) by
    have := h l 0
    simpa using this
  intro l
  induction l with
  | nil => intro i; left; simp [findI]
  | cons k r ih =>
    intro i
    unfold findI
    split
    · right; simp; omega
    · rcases ih (i + 1) with h | ⟨h1, h2⟩
      · left; exact h
      · right; simp at h1 h2 ⊢; omega
theorem ent_sIdx : VM.Enters Tryd.prog 142 := VM.Enters.mk Tryd.func142 rfl
theorem sIdx_cs (l : List Nm) (s : Nm) (hl : l.length ≤ 900000000) : CS Tryd.prog G 142 [.sl (strs l), .str s] (.d (.int .i64 (findI s l 0))) none := by
  refine CS.of_VK Tryd.func142 rfl Tryd.ntmps142 rfl ?_
  simp [strs_len]
  refine SW.loopF (ι := { i : Nat // i ≤ l.length ∧ findI s l 0 = findI s (l.drop i) i }) (fun i => [(8, .d (.int .i64 i.1))]) (fun _ => []) (fun _ => []) (fun i => l.length - i.1) ⟨0, by simp⟩ (by simp) ?_
  rintro ⟨i, hi, he⟩
  try simp only at hi he
  by_cases hlt : i < l.length
  · have hg := strs_get hlt
    have hw := wrap64s (show i < 9223372036854775807 by omega)
    rw [findI_step hlt] at he
    by_cases hs : l[i] = s
    · rw [if_pos hs] at he
      simp [hlt, hg, hs, he]
    · rw [if_neg hs] at he
      have hs' : ¬ s = l[i] := fun e => hs e.symm
      simp [hlt, hg, hs']
      exact Again.mk ⟨i + 1, hlt, he⟩ (by simp [hw]) (by simp; omega)
  · have : i = l.length := by omega
    subst this
    simp [findI] at he
    simp [he]
theorem ent_n_Find : VM.Enters Tryd.prog 135 := VM.Enters.mk Tryd.func135 rfl
theorem n_Find_cs (l : List Nm) (s : Nm) (hl : l.length ≤ 900000000) : CS Tryd.prog G 135 [.sl (strs l), .str s] (.d (.int .i64 (findI s l 0))) none := by
  refine CS.of_VK Tryd.func135 rfl Tryd.ntmps135 rfl ?_
  simp
  refine callK.mk ent_sIdx (sIdx_cs l s hl) ?_
  simp
/-! ### Equality -/
theorem ent_pred_Same : VM.Enters Tryd.prog 124 := VM.Enters.mk Tryd.func124 rfl
theorem ent_equal : VM.Enters Tryd.prog 134 := VM.Enters.mk Tryd.func134 rfl
theorem equal_ch (l l' : List Pr) (hN : nodPs l ≤ 900000000) (ih : ∀ k ∈ l, ∀ u : Pr, nodP k ≤ 900000000 → CS Tryd.prog G 124 [.agg (prD k), .agg (prD u)] (.d (.bool (samP k u))) none) :
    CH Tryd.prog G 134 ⟨[.d (.sl (l.map prC)), .d (.sl (l'.map prC)), .fn 124], [], []⟩ ⟨[.d (.bool (samA l l'))], [], []⟩ := by
  have hl := len_le_nodPs l
  refine CH.of_VK Tryd.func134 rfl Tryd.ntmps134 rfl (by simp) ?_
  by_cases h3 : l.length = l'.length
  · have hq : samA l l' = samPs l l' := by simp [samA, h3]
    simp [h3]
    refine SW.loopF (ι := { i : Nat // i ≤ l.length ∧ samPs (l.drop i) (l'.drop i) = samPs l l' }) (fun i => [(15, .d (.int .i64 i.1))]) (fun _ => []) (fun _ => []) (fun i => l.length - i.1) ⟨0, by simp⟩ (by simp) ?_
    rintro ⟨i, hi, hR⟩
    try simp only at hi hR
    by_cases hlt : i < l.length
    · have hlt' : i < l'.length := by omega
      have hg := prs_get hlt
      have hg' := prs_get hlt'
      have hw := wrap64s (show i < 9223372036854775807 by omega)
      have hb2 := nodPs_step hlt
      have hb3 := nodPs_take_le l (i + 1)
      rw [samPs_drop hlt hlt'] at hR
      simp [hlt', hlt, hg, hg']
      refine ⟨lexOk.mk (by kernel_rfl), ?_⟩
      refine callK.mk ent_pred_Same (ih l[i] (List.getElem_mem hlt) l'[i] (by omega)) ?_
      cases hs : samP l[i] l'[i]
      · rw [hs, Bool.false_and] at hR
        simp [hs, hq, ← hR]
      · rw [hs, Bool.true_and] at hR
        simp [hs]
        exact Again.mk ⟨i + 1, hlt, hR⟩ (by simp [hw]) (by simp; omega)
    · have : i = l.length := by omega
      subst this
      rw [samPs_end] at hR
      simp [hq, ← hR, ← h3]
  · have h3' : ¬ ((l.length : Int) = (l'.length : Int)) := by omega
    have hq : samA l l' = false := by simp [samA, h3]
    simp [h3, h3', hq]
theorem pred_Same_cs : ∀ t u : Pr, nodP t ≤ 900000000 → CS Tryd.prog G 124 [.agg (prD t), .agg (prD u)] (.d (.bool (samP t u))) none := by
  refine Pr.ind fun t ih => ?_
  obtain ⟨op, nm, n, l⟩ := t
  intro u hN
  obtain ⟨op', nm', n', l'⟩ := u
  simp only at ih
  have hn := nodP_kids ⟨op, nm, n, l⟩
  have hq := samP_eq ⟨op, nm, n, l⟩ ⟨op', nm', n', l'⟩
  simp only at hn hq
  have hE := equal_ch (G := G) l l' (by omega) ih
  have hA : (decide (l.length = l'.length) && samPs l l') = samA l l' := rfl
  rw [hA] at hq
  refine CS.of_VK Tryd.func124 rfl Tryd.ntmps124 rfl ?_
  by_cases h1 : op = op'
  · by_cases h2 : nm = nm'
    · by_cases h4 : n = n'
      · simp only [h1, h2, h4, decide_true, Bool.true_and] at hq
        simp [h1, h2, h4]
        refine callHK.ro ent_equal hE [] (by simp) (by simp) (by simp) (by simp) (by simp) ?_
        simp [hq]
      · simp only [h1, h2, h4, decide_true, decide_false, Bool.true_and, Bool.false_and] at hq
        simp [h1, h2, h4, hq]
    · simp only [h1, h2, decide_true, decide_false, Bool.true_and, Bool.false_and] at hq
      simp [h1, h2, hq]
  · simp only [h1, decide_false, Bool.false_and] at hq
    simp [h1, hq]
/-- The zero predicate, as it is built. -/
theorem zer_wk : WkL [.int .i64 0, .str [], .int .i64 0, .nils] (prD zerP) := by simp [zerP]
/-! ### Constants, void -/
theorem ent_pred_constant : VM.Enters Tryd.prog 125 := VM.Enters.mk Tryd.func125 rfl
def conP (b : Bool) : Pr := if b then truP else falP
theorem pred_constant_cs (b : Bool) : CS Tryd.prog G 125 [.bool b] (.d (.agg (prD (conP b)))) none := by
  refine CS.of_VK Tryd.func125 rfl Tryd.ntmps125 rfl ?_
  cases b <;> simp [conP, truP, falP]
theorem ent_r7_True : VM.Enters Tryd.prog 123 := VM.Enters.mk Tryd.func123 rfl
theorem r7_True_cs : CS Tryd.prog G 123 [] (.d (.agg (prD truP))) none := by
  refine CS.of_VK Tryd.func123 rfl Tryd.ntmps123 rfl ?_
  simp [truP]
theorem samP_dec (a b : Pr) : samP a b = decide (a = b) := by
  rw [Bool.eq_iff_iff, samP_iff]
  simp
theorem ent_r7_Void : VM.Enters Tryd.prog 104 := VM.Enters.mk Tryd.func104 rfl
theorem r7_Void_cs (p : Pr) (h : nodP p ≤ 900000000) : CS Tryd.prog G 104 [.agg (prD p)] (.d (.bool (voidP p))) none := by
  have e1 := r7_Same_cs (G := G) p zerP h
  have e2 := r7_Same_cs (G := G) p truP h
  rw [samP_dec] at e1 e2
  refine CS.of_VK Tryd.func104 rfl Tryd.ntmps104 rfl ?_
  simp
  refine ⟨lexOk.mk (by kernel_rfl), ?_⟩
  refine callK.mk ent_r7_True (r7_True_cs ) ?_
  simp
  refine callK.mk ent_r7_Same e2 ?_
  by_cases hz : p = truP
  · simp [hz, voidP]
  · simp [hz, voidP]
    refine callK.mk ent_r7_Same (CS.args e1 (by simp [zerP])) ?_
    simp
/-! ### Copying -/
theorem ent_pred_copied : VM.Enters Tryd.prog 136 := VM.Enters.mk Tryd.func136 rfl
theorem pred_copied_cs : ∀ p : Pr, nodP p ≤ 900000000 → CS Tryd.prog G 136 [.agg (prD p)] (.d (.agg (prD p))) none := by
  refine Pr.ind fun p ih => ?_
  obtain ⟨op, nm, n, l⟩ := p
  intro hN
  simp only at ih
  have hn := nodP_kids ⟨op, nm, n, l⟩
  simp only at hn
  have hl := len_le_nodPs l
  refine CS.of_VK Tryd.func136 rfl Tryd.ntmps136 rfl ?_
  simp
  refine SW.loopF (ι := { i : Nat // i ≤ l.length }) (fun i => [(16, .d (.int .i64 i.1))]) (fun i => [(1, prO op nm n (.sl (l.map prC))), (2, prO 0 [] 0 .nils), (3, prO op nm n (.sl ((l.take i.1).map prC)))]) (fun _ => [(36, [.c 3 3])]) (fun i => l.length - i.1) ⟨0, by simp⟩ (by simp) ?_
  rintro ⟨i, hi⟩
  by_cases hlt : i < l.length
  · have hg := prs_get hlt
    have hw := wrap64s (show i < 9223372036854775807 by omega)
    have hs2 := map_stepC prC hlt
    rw [prC_eq] at hs2
    have h4 : ∀ (x : List D), x ∈ List.take i (List.map prC l) → x.length = 4 := len_mem (by simp)
    have hb2 := nodPs_step hlt
    have hb3 := nodPs_take_le l (i + 1)
    simp [hlt, hg]
    refine ⟨lexOk.mk (by kernel_rfl), ?_⟩
    refine callK.mk ent_pred_copied (ih l[i] (List.getElem_mem hlt) (by omega)) ?_
    simp
    refine stepK_len ⟨h4, by omega⟩ ?_
    simp
    exact Again.mk ⟨i + 1, hlt⟩ (by simp [hw, hs2]) (by simp; omega)
  · have : i = l.length := by omega
    subst this
    simp
/-! ### Replacing -/
theorem pickP_none {ns : List Nm} {bys : List Pr} {op : Int} {nm : Nm} (h : ¬ (op = 3 ∧ 0 ≤ findI nm ns 0)) : pickP ns bys op nm = none := by
  unfold pickP
  rw [if_neg h]
theorem pickP_at {ns : List Nm} {bys : List Pr} {nm : Nm} {k : Nat} (h : findI nm ns 0 = (k : Int)) : pickP ns bys 3 nm = bys[k]? := by
  unfold pickP
  rw [if_pos ⟨rfl, by omega⟩, h]
  rfl
theorem ent_pred_SubstAll : VM.Enters Tryd.prog 126 := VM.Enters.mk Tryd.func126 rfl
theorem pred_SubstAll_cs (ns : List Nm) (bys : List Pr) (h1 : ns.length ≤ 900000000) (h2 : bys.length ≤ 900000000) (h3 : ∀ u ∈ bys, nodP u ≤ 900000000) : ∀ p : Pr, nodP p ≤ 900000000 → CS Tryd.prog G 126 [.agg (prD p), .sl (strs ns), .sl (bys.map prC)] (.d (.agg (prD (substP ns bys p)))) none := by
  refine Pr.ind fun p ih => ?_
  obtain ⟨op, nm, n, l⟩ := p
  intro hN
  simp only at ih
  have hn := nodP_kids ⟨op, nm, n, l⟩
  have hm := substP_eq ns bys ⟨op, nm, n, l⟩
  simp only at hn hm
  have hl := len_le_nodPs l
  refine CS.of_VK Tryd.func126 rfl Tryd.ntmps126 rfl ?_
  by_cases h5 : op = 3
  · subst h5
    simp
    refine callK.mk ent_n_Find (n_Find_cs ns nm h1) ?_
    rcases find_range nm ns with hf | ⟨hf0, hf1⟩
    · have hge : ¬ 0 ≤ findI nm ns 0 := by omega
      rw [pickP_none (by omega)] at hm
      simp only at hm
      simp [hge]
      refine SW.loopF (ι := { i : Nat // i ≤ l.length }) (fun i => [(41, .d (.int .i64 i.1))]) (fun i => [(3, prO 3 nm n (.sl (l.map prC))), (6, prO 0 [] 0 .nils), (8, prO 3 nm n (.sl ((l.take i.1).map (prC ∘ substP ns bys))))]) (fun _ => [(36, [.c 8 3])]) (fun i => l.length - i.1) ⟨0, by simp⟩ (by simp) ?_
      rintro ⟨i, hi⟩
      by_cases hlt : i < l.length
      · have hg := prs_get hlt
        have hw := wrap64s (show i < 9223372036854775807 by omega)
        have hs2 := map_stepC (prC ∘ substP ns bys) hlt
        simp at hs2
        have h4 : ∀ (x : List D), x ∈ List.take i (List.map (prC ∘ substP ns bys) l) → x.length = 4 := len_mem (by simp)
        have hb2 := nodPs_step hlt
        have hb3 := nodPs_take_le l (i + 1)
        simp [hlt, hg]
        refine ⟨lexOk.mk (by kernel_rfl), ?_⟩
        refine callK.mk ent_pred_SubstAll (ih l[i] (List.getElem_mem hlt) (by omega)) ?_
        simp
        refine stepK_len ⟨h4, by omega⟩ ?_
        simp
        exact Again.mk ⟨i + 1, hlt⟩ (by simp [hw, hs2]) (by simp; omega)
      · have : i = l.length := by omega
        subst this
        simp [hm]
    · obtain ⟨k, hk⟩ : ∃ k : Nat, findI nm ns 0 = (k : Int) := ⟨(findI nm ns 0).toNat, by omega⟩
      rw [pickP_at hk] at hm
      by_cases hkl : k < bys.length
      · rw [List.getElem?_eq_getElem hkl] at hm
        simp only at hm
        have hg := prs_get hkl
        simp [hk, hkl, hg]
        refine callK.mk ent_pred_copied (pred_copied_cs bys[k] (h3 _ (List.getElem_mem hkl))) ?_
        simp [hm]
      · rw [List.getElem?_eq_none (by omega)] at hm
        simp only at hm
        simp [hk, hkl]
        refine SW.loopF (ι := { i : Nat // i ≤ l.length }) (fun i => [(41, .d (.int .i64 i.1))]) (fun i => [(3, prO 3 nm n (.sl (l.map prC))), (6, prO 0 [] 0 .nils), (8, prO 3 nm n (.sl ((l.take i.1).map (prC ∘ substP ns bys))))]) (fun _ => [(36, [.c 8 3])]) (fun i => l.length - i.1) ⟨0, by simp⟩ (by simp) ?_
        rintro ⟨i, hi⟩
        by_cases hlt : i < l.length
        · have hg := prs_get hlt
          have hw := wrap64s (show i < 9223372036854775807 by omega)
          have hs2 := map_stepC (prC ∘ substP ns bys) hlt
          simp at hs2
          have h4 : ∀ (x : List D), x ∈ List.take i (List.map (prC ∘ substP ns bys) l) → x.length = 4 := len_mem (by simp)
          have hb2 := nodPs_step hlt
          have hb3 := nodPs_take_le l (i + 1)
          simp [hlt, hg]
          refine ⟨lexOk.mk (by kernel_rfl), ?_⟩
          refine callK.mk ent_pred_SubstAll (ih l[i] (List.getElem_mem hlt) (by omega)) ?_
          simp
          refine stepK_len ⟨h4, by omega⟩ ?_
          simp
          exact Again.mk ⟨i + 1, hlt⟩ (by simp [hw, hs2]) (by simp; omega)
        · have : i = l.length := by omega
          subst this
          simp [hm]
  · rw [pickP_none (by omega)] at hm
    simp only at hm
    simp [h5]
    refine SW.loopF (ι := { i : Nat // i ≤ l.length }) (fun i => [(41, .d (.int .i64 i.1))]) (fun i => [(3, prO op nm n (.sl (l.map prC))), (6, prO 0 [] 0 .nils), (8, prO op nm n (.sl ((l.take i.1).map (prC ∘ substP ns bys))))]) (fun _ => [(36, [.c 8 3])]) (fun i => l.length - i.1) ⟨0, by simp⟩ (by simp) ?_
    rintro ⟨i, hi⟩
    by_cases hlt : i < l.length
    · have hg := prs_get hlt
      have hw := wrap64s (show i < 9223372036854775807 by omega)
      have hs2 := map_stepC (prC ∘ substP ns bys) hlt
      simp at hs2
      have h4 : ∀ (x : List D), x ∈ List.take i (List.map (prC ∘ substP ns bys) l) → x.length = 4 := len_mem (by simp)
      have hb2 := nodPs_step hlt
      have hb3 := nodPs_take_le l (i + 1)
      simp [hlt, hg]
      refine ⟨lexOk.mk (by kernel_rfl), ?_⟩
      refine callK.mk ent_pred_SubstAll (ih l[i] (List.getElem_mem hlt) (by omega)) ?_
      simp
      refine stepK_len ⟨h4, by omega⟩ ?_
      simp
      exact Again.mk ⟨i + 1, hlt⟩ (by simp [hw, hs2]) (by simp; omega)
    · have : i = l.length := by omega
      subst this
      simp [hm]
/-- Replacing nothing: a copy. -/
theorem pred_SubstAll_nil (p : Pr) (h : nodP p ≤ 900000000) : CS Tryd.prog G 126 [.agg (prD p), .nils, .nils] (.d (.agg (prD p))) none := by
  have := pred_SubstAll_cs (G := G) [] [] (by simp) (by simp) (by simp) p h
  rw [substP_nil] at this
  exact CS.args this (by simp)
end Go.Proofs.YtmjpdmkgmlhfaaaDoor
