/- Joined texts. Template, the reference: the check of a type. Template: the environment accepts the holes of a right type, plain. Template: the statement TemplateRight. No condition. -/
import Derived.Test.YtmjpdmkgmlhfaaaDoorOc
import Derived.Test.YtmjpdmkgmlhfaaaDoorMb
import Derived.Test.YtmjpdmkgmlhfaaaDoorZP
import Derived.Test.YtmjpdmkgmlhfaaaDoorZT
section
set_option linter.unusedVariables false
set_option linter.unusedSimpArgs false
set_option linter.unusedSectionVars false
namespace Go.Proofs.YtmjpdmkgmlhfaaaDoor
open Go Go.VM
set_option maxRecDepth 100000
set_option maxHeartbeats 16000000
variable {G : GT}
theorem nodup_step {l : List Nm} {i : Nat} (h : i < l.length) (hd : (l.take i).Nodup) (hm : l[i] ∉ l.take i) : (l.take (i + 1)).Nodup := by
  rw [List.take_succ_eq_append_getElem h, List.nodup_append]
  refine ⟨hd, by simp, fun a ha b hb => ?_⟩
  rw [List.mem_singleton] at hb
  subst hb
  exact fun e => hm (e ▸ ha)
theorem nodup_bad {l : List Nm} {i : Nat} (h : i < l.length) (hm : l[i] ∈ l.take i) : ¬ l.Nodup := fun hd => by
  have e : l = l.take i ++ l[i] :: l.drop (i + 1) := by rw [← List.drop_eq_getElem_cons h, List.take_append_drop]
  rw [e, List.nodup_append] at hd
  exact hd.2.2 _ hm _ (.head _) rfl
theorem r4_Find2_cs (l : List (List UInt8)) (s : List UInt8) (hl : l.length ≤ 900000000) : CS Tryd.prog G 113 [.sl (strs l), .str s] (.d (.int .i64 (findI s l 0))) none := by
  refine CS.of_VK Tryd.func113 rfl Tryd.ntmps113 rfl ?_
  simp [strs_len]
  refine SW.loopF (ι := { i : Nat // i ≤ l.length ∧ findI s l 0 = findI s (l.drop i) i }) (fun i => [(8, .d (.int .i64 i.1))]) (fun _ => []) (fun _ => []) (fun i => l.length - i.1) ⟨0, by simp⟩ (by simp) ?_
  rintro ⟨i, hi, he⟩
  by_cases hlt : i < l.length
  · have hg := strs_get hlt
    rw [findI_step hlt] at he
    by_cases hk : l[i] = s
    · simp [hlt, strs_len, hg, hk]
      rw [if_pos hk] at he
      rw [he]
    · simp [hlt, strs_len, hg, hk]
      rw [if_neg hk] at he
      exact Again.mk ⟨i + 1, hlt, he⟩ (by simp [wrap64s (show i < 9223372036854775807 by omega)]) (by simp; omega)
  · simp [hlt]
    rw [he, List.drop_of_length_le (by omega)]
    rfl
theorem findI_first (s : Nm) : ∀ (l : List Nm) (j i : Nat) (h : i < l.length), l[i] = s → (findI s l j = ((j + i : Nat) : Int) ↔ s ∉ l.take i)
  | a :: r, j, 0, h, he => by
    simp only [List.getElem_cons_zero] at he
    simp [findI, he]
  | a :: r, j, i + 1, h, he => by
    simp only [List.getElem_cons_succ] at he
    have ih := findI_first s r (j + 1) i (by simpa using h) he
    simp only [findI, List.take_succ_cons, List.mem_cons, not_or]
    by_cases ha : a = s
    · simp only [ha, if_true, not_true_eq_false, false_and, iff_false]
      omega
    · rw [if_neg ha]
      have e : ((j + 1 + i : Nat) : Int) = ((j + (i + 1) : Nat) : Int) := by omega
      rw [e] at ih
      rw [ih]
      exact ⟨fun h => ⟨fun e => ha e.symm, h⟩, fun h => h.2⟩
theorem ent_r4_Distinct : VM.Enters Tryd.prog 117 := VM.Enters.mk Tryd.func117 rfl
theorem r4_Distinct_cs (l : List Nm) (hl : l.length ≤ 900000000) : CS Tryd.prog G 117 [.sl (strs l)] (.d (.bool (decide l.Nodup))) none := by
  refine CS.of_VK Tryd.func117 rfl Tryd.ntmps117 rfl ?_
  simp
  refine SW.loopF (ι := { i : Nat // i ≤ l.length ∧ (l.take i).Nodup }) (fun i => [(6, .d (.int .i64 i.1))]) (fun _ => []) (fun _ => []) (fun i => l.length - i.1) ⟨0, by simp⟩ (by simp) ?_
  rintro ⟨i, hi, hd⟩
  try simp only at hi hd
  by_cases hlt : i < l.length
  · have hg := strs_get hlt
    have hw := wrap64s (show i < 9223372036854775807 by omega)
    have hf := findI_first l[i] l 0 i hlt rfl
    rw [Nat.zero_add] at hf
    simp [hlt, hg]
    refine callK.mk ent_r4_Find (r4_Find2_cs l l[i] hl) ?_
    by_cases hm : l[i] ∈ l.take i
    · have h1 := nodup_bad hlt hm
      have h2 : ¬ findI l[i] l 0 = (i : Int) := fun e => (hf.1 e) hm
      simp [h2, h1]
    · have h2 : findI l[i] l 0 = (i : Int) := hf.2 hm
      simp [h2]
      exact Again.mk ⟨i + 1, hlt, nodup_step hlt hd hm⟩ (by simp [hw]) (by simp; omega)
  · have : i = l.length := by omega
    subst this
    rw [List.take_length] at hd
    simp [hd]
/-! ### The check -/
theorem ent_r32_zero : VM.Enters Tryd.prog 116 := VM.Enters.mk Tryd.func116 rfl
theorem r32_zero_cs (p : Pr) (h : nodP p ≤ 900000000) : CS Tryd.prog G 116 [.agg (prD p)] (.d (.bool (samP p zeroP))) none := by
  have hs := r7_Same_cs (G := G) p zeroP h
  refine CS.of_VK Tryd.func116 rfl Tryd.ntmps116 rfl ?_
  simp
  refine callK.mk ent_r7_Same (CS.args hs (by simp [zeroP])) ?_
  simp
/-- The first error of the predicates. -/
def prdE : List Pr → Int
  | [] => 0
  | p :: r => if samP p zeroP = false ∧ chkE p ≠ 0 then chkE p else prdE r
theorem prdE_drop {L : List Pr} {i : Nat} (h : i < L.length) : prdE (L.drop i) = if samP L[i] zeroP = false ∧ chkE L[i] ≠ 0 then chkE L[i] else prdE (L.drop (i + 1)) := by
  rw [List.drop_eq_getElem_cons h]
  rfl
def ndeR (t : Ty) : Int := if (t.op = 6 ∧ samP t.pred zeroP = false) ∨ (t.op ≠ 4 ∧ t.preds ≠ []) then 1 else if (t.names.all fun n => nameB n) = false then 3 else if ¬ t.names.Nodup then 4 else prdE (t.pred :: t.preds)
mutual
def frmR : Ty → Int
  | ⟨op, nm, l, ns, p, ps⟩ => if ndeR ⟨op, nm, l, ns, p, ps⟩ ≠ 0 then ndeR ⟨op, nm, l, ns, p, ps⟩ else frmRs l
def frmRs : List Ty → Int
  | [] => 0
  | a :: r => if frmR a ≠ 0 then frmR a else frmRs r
end
theorem frmRs_drop {l : List Ty} {i : Nat} (h : i < l.length) : frmRs (l.drop i) = if frmR l[i] ≠ 0 then frmR l[i] else frmRs (l.drop (i + 1)) := by
  rw [List.drop_eq_getElem_cons h]
  rfl
abbrev tyW (op : Int) (nm : Nm) (l : List Ty) (ns : List Nm) (p : Pr) (ps : List Pr) : AObj := .cells [.d (.int .i64 op), .d (.str nm), .d (.sl (l.map tyC)), .d (.sl (strs ns)), .d (.int .i64 p.op), .d (.str p.name), .d (.int .i64 p.n), .d (.sl (p.kids.map prC)), .d (.sl (ps.map prC))]
theorem ent_r32_node : VM.Enters Tryd.prog 96 := VM.Enters.mk Tryd.func96 rfl
theorem r32_node_cs (t : Ty) (hW : WB 2000000 t) : CS Tryd.prog G 96 [.agg (tyD t)] (.d (.int .i64 (ndeR t))) none := by
  cases hW with
  | mk op nm l ns p ps w1 w2 w3 w4 w5 w6 =>
  have hz := r32_zero_cs (G := G) p (by omega)
  have hdi := r4_Distinct_cs (G := G) ns (by omega)
  obtain ⟨L, hL⟩ : ∃ L, L = p :: ps := ⟨_, rfl⟩
  have hLC : ([.int .i64 p.op, .str p.name, .int .i64 p.n, .sl (p.kids.map prC)] :: ps.map prC) = L.map prC := by rw [hL]; simp
  have hLl : L.length = ps.length + 1 := by rw [hL]; rfl
  have hLs : ∀ i (h : i < L.length), nodP L[i] ≤ 2000000 := fun i h => by
    subst hL
    cases i with
    | zero => exact w3
    | succ i => exact w5 _ (List.getElem_mem _)
  unfold ndeR
  simp only
  rw [← hL]
  by_cases hc : (op = 6 ∧ samP p zeroP = false) ∨ (op ≠ 4 ∧ ps ≠ [])
  · rw [if_pos hc]
    refine CS.of_VK Tryd.func96 rfl Tryd.ntmps96 rfl ?_
    by_cases h6 : op = 6
    · subst h6
      simp
      refine callK.mk ent_r32_zero hz ?_
      cases hs : samP p zeroP
      · simp
      · have hps : ps ≠ [] := by
          rcases hc with h | h
          · rw [hs] at h; cases h.2
          · exact h.2
        have h0 : 0 < ps.length := List.length_pos_iff.2 hps
        simp [h0]
    · have hps : op ≠ 4 ∧ ps ≠ [] := hc.resolve_left fun h => h6 h.1
      have h0 : 0 < ps.length := List.length_pos_iff.2 hps.2
      simp [h6, hps.1, h0]
  rw [if_neg hc]
  refine CS.of_SWK Tryd.func96 rfl Tryd.ntmps96 rfl ?_
  refine SW.seqq (SW.vk ?_)
  simp
  refine SW.cutF [] [(1, tyW op nm l ns p ps)] [] (SW.vk ?_) ?_
  · by_cases h6 : op = 6
    · subst h6
      have hs : samP p zeroP = true := by
        cases h : samP p zeroP
        · exact absurd (.inl ⟨rfl, h⟩) hc
        · rfl
      have hps : ps = [] := by
        rcases ps with _ | ⟨a, r⟩
        · rfl
        · exact absurd (.inr ⟨by decide, by simp⟩) hc
      rw [hs] at hz
      subst hps
      simp
      refine callK.mk ent_r32_zero hz ?_
      simp
    · by_cases h4 : op = 4
      · simp [h4]
      · have hps : ps = [] := by
          rcases ps with _ | ⟨a, r⟩
          · rfl
          · exact absurd (.inr ⟨h4, by simp⟩) hc
        subst hps
        simp [h6, h4]
  · refine SW.vk ?_
    simp
    refine SW.loopF (ι := { i : Nat // i ≤ ns.length ∧ ∀ n ∈ ns.take i, nameB n = true }) (fun i => [(31, .d (.int .i64 i.1))]) (fun _ => [(1, tyW op nm l ns p ps)]) (fun _ => []) (fun i => ns.length - i.1) ⟨0, by simp⟩ (by simp) ?_
    rintro ⟨i, hi, hx⟩
    by_cases hlt : i < ns.length
    · have hg := strs_get hlt
      have hw := wrap64s (show i < 9223372036854775807 by omega)
      have hck := r4_Check_cs (G := G) ns[i]
      cases hb : nameB ns[i]
      · have hall : (ns.all fun n => nameB n) = false := by
          rw [List.all_eq_false]
          exact ⟨ns[i], List.getElem_mem hlt, by simp [hb]⟩
        rw [hb] at hck
        simp [hlt, hg]
        refine callK.mk ent_r4_Check hck ?_
        simp [errName]
        intro h
        have := h _ (List.getElem_mem hlt)
        rw [hb] at this
        cases this
      · rw [hb] at hck
        have hx2 : ∀ n ∈ ns.take (i + 1), nameB n = true := fun n hn => by
          rw [List.take_succ_eq_append_getElem hlt, List.mem_append, List.mem_singleton] at hn
          rcases hn with hn | rfl
          · exact hx n hn
          · exact hb
        simp [hlt, hg]
        refine callK.mk ent_r4_Check hck ?_
        simp [errName]
        exact Again.mk ⟨i + 1, hlt, hx2⟩ (by simp [hw]) (by simp; omega)
    have hie : i = ns.length := by omega
    subst hie
    rw [List.take_length] at hx
    have hnx : ¬ ∃ x, x ∈ ns ∧ nameB x = false := fun ⟨x, h1, h2⟩ => by
      have := hx x h1
      rw [h2] at this
      cases this
    by_cases hnd : ns.Nodup
    · have hd1 : decide ns.Nodup = true := decide_eq_true hnd
      rw [hd1] at hdi
      simp
      refine callK.mk ent_r4_Distinct hdi ?_
      simp
      refine stepK_len (by omega) ?_
      simp only [hLC]
      simp
      refine SW.loopF (ι := { i : Nat // i ≤ L.length ∧ prdE (L.drop i) = prdE L }) (fun i => [(50, .d (.int .i64 i.1))]) (fun _ => [(1, tyW op nm l ns p ps)]) (fun _ => []) (fun i => L.length - i.1) ⟨0, by simp⟩ (by simp) ?_
      rintro ⟨i, hi, he⟩
      by_cases hlt : i < L.length
      · have hg := prs_get hlt
        have hw := wrap64s (show i < 9223372036854775807 by omega)
        have hc7 := r7_Check_cs (G := G) L[i] (by have := hLs i hlt; omega)
        have hzi := r32_zero_cs (G := G) L[i] (by have := hLs i hlt; omega)
        rw [prdE_drop hlt] at he
        generalize chkE L[i] = e at hc7 he
        simp [hlt, hg]
        refine callK.mk ent_r7_Check hc7 ?_
        simp
        refine callK.mk ent_r32_zero hzi ?_
        cases hs : samP L[i] zeroP
        · by_cases h0 : e = 0
          · rw [if_neg (by simp [h0])] at he
            simp [h0]
            exact Again.mk ⟨i + 1, hlt, he⟩ (by simp [hw]) (by simp; omega)
          · rw [if_pos ⟨hs, h0⟩] at he
            simp [h0]
            rw [if_neg hnx, if_pos hnd]
            exact he
        · rw [if_neg (by simp [hs])] at he
          simp
          exact Again.mk ⟨i + 1, hlt, he⟩ (by simp [hw]) (by simp; omega)
      · have hie : i = L.length := by omega
        subst hie
        rw [List.drop_length, prdE] at he
        simp
        rw [if_neg hnx, if_pos hnd]
        exact he
    · have hd1 : decide ns.Nodup = false := decide_eq_false hnd
      rw [hd1] at hdi
      simp
      refine callK.mk ent_r4_Distinct hdi ?_
      simp
      rw [if_neg hnx, if_neg hnd]
theorem ent_r32_form : VM.Enters Tryd.prog 65 := VM.Enters.mk Tryd.func65 rfl
theorem r32_form_cs : ∀ t : Ty, WB 2000000 t → CS Tryd.prog G 65 [.agg (tyD t)] (.d (.int .i64 (frmR t))) none := by
  refine Ty.ind fun t ih => ?_
  obtain ⟨op, nm, l, ns, p, ps⟩ := t
  simp only at ih
  intro hW
  have hn := r32_node_cs (G := G) _ hW
  cases hW with
  | mk _ _ _ _ _ _ w1 w2 w3 w4 w5 w6 =>
  rw [frmR]
  generalize ndeR ⟨op, nm, l, ns, p, ps⟩ = e at hn
  refine CS.of_VK Tryd.func65 rfl Tryd.ntmps65 rfl ?_
  by_cases h0 : e = 0
  · subst h0
    simp
    refine callK.mk ent_r32_node hn ?_
    simp
    refine SW.loopF (ι := { i : Nat // i ≤ l.length ∧ frmRs (l.drop i) = frmRs l }) (fun i => [(15, .d (.int .i64 i.1))]) (fun _ => [(1, tyW op nm l ns p ps)]) (fun _ => []) (fun i => l.length - i.1) ⟨0, by simp⟩ (by simp) ?_
    rintro ⟨i, hi, he⟩
    by_cases hlt : i < l.length
    · have hg := tys_get hlt
      have hw := wrap64s (show i < 9223372036854775807 by omega)
      have hki := ih l[i] (List.getElem_mem hlt) (w6 _ (List.getElem_mem hlt))
      rw [frmRs_drop hlt] at he
      generalize frmR l[i] = f at hki he
      simp [hlt, hg]
      refine callK.mk ent_r32_form hki ?_
      by_cases hf : f = 0
      · rw [if_neg (by simp [hf])] at he
        simp [hf]
        exact Again.mk ⟨i + 1, hlt, he⟩ (by simp [hw]) (by simp; omega)
      · rw [if_pos hf] at he
        simp [hf]
        exact he
    · have hie : i = l.length := by omega
      subst hie
      rw [List.drop_length, frmRs] at he
      simp [← he]
  · simp [h0]
    refine callK.mk ent_r32_node hn ?_
    simp [h0]
/-! ### Names -/
mutual
def namB2 (x : Nm) : Ty → Bool
  | ⟨_, _, l, ns, _, _⟩ => decide (x ∈ ns) || namBs x l
def namBs (x : Nm) : List Ty → Bool
  | [] => false
  | a :: r => namB2 x a || namBs x r
end
theorem namBs_drop {x : Nm} {l : List Ty} {i : Nat} (h : i < l.length) : namBs x (l.drop i) = (namB2 x l[i] || namBs x (l.drop (i + 1))) := by
  rw [List.drop_eq_getElem_cons h]
  rfl
theorem ent_l37_named : VM.Enters Tryd.prog 26 := VM.Enters.mk Tryd.func26 rfl
theorem l37_named_cs (x : Nm) : ∀ t : Ty, WB 2000000 t → CS Tryd.prog G 26 [.agg (tyD t), .str x] (.d (.bool (namB2 x t))) none := by
  refine Ty.ind fun t ih => ?_
  obtain ⟨op, nm, l, ns, p, ps⟩ := t
  simp only at ih
  intro hW
  cases hW with
  | mk _ _ _ _ _ _ w1 w2 w3 w4 w5 w6 =>
  rw [namB2]
  refine CS.of_VK Tryd.func26 rfl Tryd.ntmps26 rfl ?_
  simp
  refine SW.loopF (ι := { i : Nat // i ≤ ns.length ∧ x ∉ ns.take i }) (fun i => [(5, .d (.int .i64 i.1))]) (fun _ => [(2, tyW op nm l ns p ps)]) (fun _ => []) (fun i => ns.length - i.1) ⟨0, by simp⟩ (by simp) ?_
  rintro ⟨i, hi, hx⟩
  by_cases hlt : i < ns.length
  · have hg := strs_get hlt
    have hw := wrap64s (show i < 9223372036854775807 by omega)
    by_cases he : ns[i] = x
    · have hm : x ∈ ns := he ▸ List.getElem_mem hlt
      simp [hlt, hg, he, hm]
    · have hx2 : x ∉ ns.take (i + 1) := by
        rw [List.take_succ_eq_append_getElem hlt, List.mem_append, List.mem_singleton]
        rintro (h | h)
        · exact hx h
        · exact he h.symm
      simp [hlt, hg, he]
      exact Again.mk ⟨i + 1, hlt, hx2⟩ (by simp [hw]) (by simp; omega)
  have hie : i = ns.length := by omega
  subst hie
  rw [List.take_length] at hx
  simp [hx]
  refine SW.loopF (ι := { i : Nat // i ≤ l.length ∧ namBs x (l.drop i) = namBs x l }) (fun i => [(6, .d (.int .i64 i.1))]) (fun _ => [(2, tyW op nm l ns p ps)]) (fun _ => []) (fun i => l.length - i.1) ⟨0, by simp⟩ (by simp) ?_
  rintro ⟨i, hi, he⟩
  by_cases hlt : i < l.length
  · have hg := tys_get hlt
    have hw := wrap64s (show i < 9223372036854775807 by omega)
    have hki := ih l[i] (List.getElem_mem hlt) (w6 _ (List.getElem_mem hlt))
    rw [namBs_drop hlt] at he
    simp [hlt, hg]
    refine callK.mk ent_l37_named hki ?_
    cases hb : namB2 x l[i]
    · rw [hb, Bool.false_or] at he
      simp
      exact Again.mk ⟨i + 1, hlt, he⟩ (by simp [hw]) (by simp; omega)
    · rw [hb, Bool.true_or] at he
      simp [← he]
  · have hie : i = l.length := by omega
    subst hie
    rw [List.drop_length, namBs] at he
    simp [← he]
theorem ent_l37_variable : VM.Enters Tryd.prog 28 := VM.Enters.mk Tryd.func28 rfl
theorem l37_variable_cs (l : List Vr) (x : Nm) (hl : l.length ≤ 900000000) : CS Tryd.prog G 28 [.sl (l.map vrC), .str x] (.d (.bool (decide (x ∈ l.map (·.1))))) none := by
  refine CS.of_VK Tryd.func28 rfl Tryd.ntmps28 rfl ?_
  simp
  refine SW.loopF (ι := { i : Nat // i ≤ l.length ∧ x ∉ (l.take i).map (·.1) }) (fun i => [(5, .d (.int .i64 i.1))]) (fun _ => []) (fun _ => []) (fun i => l.length - i.1) ⟨0, by simp⟩ (by simp) ?_
  rintro ⟨i, hi, hx⟩
  by_cases hlt : i < l.length
  · have hg := vrs_get hlt
    have hw := wrap64s (show i < 9223372036854775807 by omega)
    by_cases he : l[i].1 = x
    · have hm : x ∈ l.map (·.1) := he ▸ List.mem_map_of_mem (List.getElem_mem hlt)
      simp [hlt, hg, he]
      simpa using hm
    · have hx2 : x ∉ (l.take (i + 1)).map (·.1) := by
        rw [List.take_succ_eq_append_getElem hlt, List.map_append, List.mem_append]
        rintro (h | h)
        · exact hx h
        · simp at h; exact he h.symm
      simp [hlt, hg, he]
      exact Again.mk ⟨i + 1, hlt, hx2⟩ (by simp [hw]) (by simp; omega)
  · have hie : i = l.length := by omega
    subst hie
    rw [List.take_length] at hx
    simp
    simpa using hx
end Go.Proofs.YtmjpdmkgmlhfaaaDoor
end

section
set_option linter.unusedVariables false
set_option linter.unusedSimpArgs false
set_option linter.unusedSectionVars false
namespace Go.Proofs.YtmjpdmkgmlhfaaaDoor
open Go Go.VM
set_option maxRecDepth 100000
set_option maxHeartbeats 16000000
theorem name_vn {s : Nm} (h : nameB s = true) : vnB s = true := by
  have h0 := h
  simp only [nameB, Bool.and_eq_true, sizedB, decide_eq_true_eq, all8, List.all_eq_true] at h
  obtain ⟨⟨⟨⟨h1, h2⟩, h3⟩, h4⟩, h5⟩ := h
  have hp : partsL s = [s] := partsL_one fun b hb e => by
    subst e
    have := h5 46 hb
    revert this
    decide
  unfold vnB coreB
  rw [hp]
  simp only [h0, List.all_nil, Bool.true_or, Bool.and_true, Bool.or_eq_true, decide_eq_true_eq]
  right
  omega
theorem kw_x : (kwL.all fun k => match k with
  | c :: _ => c != 120
  | [] => true) = true := by decide
theorem xN_vn (k : Nat) (hk : k < 1000) : vnB (xN k) = true := by
  refine name_vn ?_
  have hd := dd_len 2 k (by omega)
  have hx : ∃ r, xN k = 120 :: r ∧ r.length ≤ 3 ∧ ∀ b ∈ r, wdB b.toNat = true := by
    unfold xN
    split
    · exact ⟨[], rfl, by simp, by simp⟩
    · refine ⟨_, rfl, by omega, fun b hb => ?_⟩
      have h := isDg_iff.1 ((dd_all k).2.1 b hb)
      simp [wdB, digB]
      omega
  obtain ⟨r, hr, hl, hb⟩ := hx
  rw [hr]
  have hkw : kwB (120 :: r) = false := by
    unfold kwB
    rw [List.any_eq_false]
    intro q hq
    have := List.all_eq_true.1 kw_x q hq
    simp only [decide_eq_true_eq]
    rintro rfl
    simp at this
  simp only [nameB, Bool.and_eq_true, sizedB, decide_eq_true_eq, List.length_cons, hkw, Bool.not_false, all8, List.all_cons, List.all_eq_true]
  refine ⟨⟨⟨⟨by omega, by omega⟩, by show smallB 120 = true; decide⟩, trivial⟩, by decide, fun b hb' => hb b hb'⟩
theorem vn_vn : vnB vN = true := by decide
/-- What the check says of names. -/
theorem frm_fn : ∀ t : Ty, frmR t = 0 → namB2 vN t = false → FnOk t := by
  refine Ty.ind fun t ih => ?_
  obtain ⟨op, nm, l, ns, p, ps⟩ := t
  simp only at ih
  intro h hn
  rw [frmR] at h
  rw [namB2, Bool.or_eq_false_iff] at hn
  have h1 : ndeR ⟨op, nm, l, ns, p, ps⟩ = 0 := by
    by_cases he : ndeR ⟨op, nm, l, ns, p, ps⟩ = 0
    · exact he
    · rw [if_pos he] at h
      exact absurd h he
  rw [if_neg (by simp [h1])] at h
  have hns : (ns.all fun n => nameB n) = true := by
    unfold ndeR at h1
    split at h1
    · cases h1
    · split at h1
      · cases h1
      · rename_i hx
        simpa using hx
  have hl : ∀ k ∈ l, FnOk k := by
    have : ∀ l : List Ty, frmRs l = 0 → namBs vN l = false → (∀ k ∈ l, frmR k = 0 → namB2 vN k = false → FnOk k) → ∀ k ∈ l, FnOk k := by
      intro l
      induction l with
      | nil => intro _ _ _ k hk; cases hk
      | cons a r ihr =>
        intro h hn hi k hk
        rw [frmRs] at h
        rw [namBs, Bool.or_eq_false_iff] at hn
        have ha : frmR a = 0 := by
          by_cases he : frmR a = 0
          · exact he
          · rw [if_pos he] at h
            exact absurd h he
        rw [if_neg (by simp [ha])] at h
        rcases List.mem_cons.1 hk with rfl | hk
        · exact hi _ (.head _) ha hn.1
        · exact ihr h hn.2 (fun k hk => hi k (.tail _ hk)) k hk
    exact this l h hn.2 ih
  refine .mk _ _ _ _ _ _ (fun n hm => ⟨name_vn (List.all_eq_true.1 hns n hm), fun e => ?_⟩) hl
  have := hn.1
  simp only [decide_eq_false_iff_not] at this
  exact this (e ▸ hm)
theorem varsGo_inv : ∀ (l : List Vr) (seen : List Nm), varsGo seen l = 0 → (∀ v ∈ l, vnB v.1 = true ∧ sortB v.2 = true) ∧ (l.map (·.1)).Nodup ∧ ∀ v ∈ l, v.1 ∉ seen
  | [], _, _ => by simp
  | x :: r, seen, h => by
    rw [varsGo] at h
    split at h
    · cases h
    rename_i h1
    split at h
    · cases h
    rename_i h2
    split at h
    · cases h
    rename_i h3
    obtain ⟨q1, q2, q3⟩ := varsGo_inv r _ h
    refine ⟨fun v hv => ?_, ?_, fun v hv => ?_⟩
    · rcases List.mem_cons.1 hv with rfl | hv
      · exact ⟨by simpa using h1, by simpa using h3⟩
      · exact q1 v hv
    · rw [List.map_cons, List.nodup_cons]
      refine ⟨fun hm => ?_, q2⟩
      obtain ⟨v, hv, he⟩ := List.mem_map.1 hm
      exact q3 v hv (by rw [List.mem_append, List.mem_singleton]; exact .inr he)
    · rcases List.mem_cons.1 hv with rfl | hv
      · exact h2
      · exact fun hm => q3 v hv (List.mem_append.2 (.inl hm))
theorem okVs_of {l : List Vr} (h : varsE l = 0) : okVs l := by
  unfold varsE at h
  split at h
  · cases h
  · obtain ⟨q1, q2, _⟩ := varsGo_inv l [] h
    exact ⟨q1, q2⟩
theorem holes_neA {pre : Nm} {hs : List Ho} (h : holesOk pre hs) {i j : Nat} (hi : i < hs.length) (hj : j < hs.length) (hne : i ≠ j) : hs[i].1 ≠ hs[j].1 := by
  intro e
  rw [(h i hi).1, (h j hj).1] at e
  exact hne (dot_inj e)
theorem holesGo_ok {pre : Nm} (hc : coreB pre = true) (hp : pre.length ≤ 90) : ∀ (n i : Nat) (H : List Ho) (seen : List Nm), H.length - i = n → H.length ≤ 1000 → holesOk pre H → (∀ h ∈ H, hoOk h) → seen = (H.take i).map (·.1) → holesGo seen (toL (H.drop i)) = 0
  | 0, i, H, seen, hn, _, _, _, _ => by
    rw [List.drop_of_length_le (by omega)]
    rfl
  | n + 1, i, H, seen, hn, hl, hok, hho, hs => by
    have hi : i < H.length := by omega
    have ih := holesGo_ok hc hp n (i + 1) H (seen ++ [H[i].1]) (by omega) hl hok hho (by rw [hs, List.take_succ_eq_append_getElem hi, List.map_append]; rfl)
    rw [List.drop_eq_getElem_cons hi]
    unfold toL at ih ⊢
    rw [List.map_cons, holesGo]
    obtain ⟨o1, o2⟩ := hho H[i] (List.getElem_mem hi)
    have hcore : coreB H[i].1 = true := by
      rw [(hok i hi).1]
      exact core_dot hc hp (by omega)
    have hns : H[i].1 ∉ seen := by
      rw [hs]
      intro hm
      obtain ⟨x, hx, he⟩ := List.mem_map.1 hm
      obtain ⟨j, hj, rfl⟩ := List.getElem_of_mem hx
      rw [List.length_take] at hj
      rw [List.getElem_take] at he
      exact holes_neA hok (by omega) hi (by omega) he
    have hlen : ¬ H[i].2.length = 0 := fun h => o2 (List.eq_nil_of_length_eq_zero h)
    simp only
    rw [if_neg (by rw [hcore]; simp), if_neg hns, if_neg hlen, if_pos o1]
    exact ih
/-- With right names and sorts the environment accepts the holes. -/
theorem right_plain {m : Mt} {t : Ty} {pre : Nm} {sc : List Vr} (hc : coreB pre = true) (hp : pre.length ≤ 60) (hfrm : frmR t = 0) (hnam : namB2 vN t = false) (hsc : varsE sc = 0) (hv : vN ∉ sc.map (·.1)) (hdat : ∀ d ∈ m.datas, ∀ v ∈ d.preds, sortB v.2 = true)
    (hl : sc.length + nodT t ≤ 400) (hn : (visT sortB pre (datN m) t sc []).2.length ≤ 40) : holesE (toL (visT sortB pre (datN m) t sc []).2) = 0 := by
  have hfn := frm_fn t hfrm hnam
  have hd : ∀ n, ∀ s ∈ datN m n, sortB s = true := fun n s hs => by
    unfold datN datF at hs
    cases hf : m.datas.find? (fun d => decide (d.name = n)) with
    | none => rw [hf] at hs; cases hs
    | some d =>
      rw [hf] at hs
      obtain ⟨v, hv, rfl⟩ := List.mem_map.1 hs
      exact hdat d (List.mem_of_find?_eq_some hf) v hv
  have hr := vis_right (pre := pre) vn_vn xN_vn hd t hfn sc [] (okVs_of hsc) hv hl (by simp)
  obtain ⟨hok, _⟩ := vis_ok (srt := sortB) (pre := pre) (dat := datN m) t sc [] (fun i hi => by simp at hi)
  unfold holesE
  rw [if_neg (by simp [toL]; omega)]
  have := holesGo_ok hc (by omega) _ 0 (visT sortB pre (datN m) t sc []).2 [] rfl (by omega) hok hr rfl
  simpa using this
end Go.Proofs.YtmjpdmkgmlhfaaaDoor
end

section
set_option linter.unusedVariables false
set_option linter.unusedSimpArgs false
set_option linter.unusedSectionVars false
namespace Go.Proofs.YtmjpdmkgmlhfaaaDoor
open Go Go.VM
set_option maxRecDepth 100000
set_option maxHeartbeats 16000000
variable {G : GT}
def chkR (t : Ty) : Int := if checkT t ≠ 0 then checkT t else frmR t
theorem ent_r32_Check : VM.Enters Tryd.prog 25 := VM.Enters.mk Tryd.func25 rfl
theorem r32_Check_cs (t : Ty) (hW : WB 2000000 t) (hA : allT t ≤ 900000000) : CS Tryd.prog G 25 [.agg (tyD t)] (.d (.int .i64 (chkR t))) none := by
  have h1 := r19_Check_cs (G := G) t hA
  have h2 := r32_form_cs (G := G) t hW
  unfold chkR
  generalize checkT t = a at h1
  generalize frmR t = b at h2
  refine CS.of_VK Tryd.func25 rfl Tryd.ntmps25 rfl ?_
  simp
  refine callK.mk ent_r19_Check h1 ?_
  by_cases h0 : a = 0
  · simp [h0]
    refine callK.mk ent_r32_form h2 ?_
    simp
  · simp [h0]
mutual
theorem allT_szA : ∀ t : Ty, allT t ≤ szL (tyC t)
  | ⟨op, nm, l, ns, p, ps⟩ => by
    have h1 := allTs_szA l
    have h2 := strs_szA ns
    have h3 := nodPs_szA p.kids
    have h4 := nodPs_szA ps
    have h5 := nodP_eqA p
    rw [tyC_eq]
    simp only [allT, szL, szD]
    omega
theorem allTs_szA : ∀ l : List Ty, allTs l ≤ szLL (l.map tyC)
  | [] => by simp [allTs, szLL]
  | t :: r => by
    have h1 := allT_szA t
    have h2 := allTs_szA r
    simp only [allTs, List.map_cons, szLL]
    omega
end
theorem envE_vars (l : List Vr) : envE ⟨l, [], []⟩ = varsE l := by
  unfold envE
  simp only [symsE, symsGo, holesE, holesGo, List.length_nil]
  by_cases h : varsE l = 0
  · simp [h]
  · simp [h]
theorem envE_holes (l : List HoleL) : envE ⟨[], [], l⟩ = holesE l := by
  unfold envE
  simp [symsE, symsGo, varsE, varsGo]
/-- The frame of the loop over the data types. -/
def rtH (m : Mt) (t : Ty) (pre : Nm) (sc : List Vr) : List (Nat × AObj) := [(3, .cells ((mtC m).map .d)), (4, tyW t.op t.name t.args t.names t.pred t.preds), (5, .cells [.d (.str pre), .d (.sl (sc.map vrC))])]
theorem ent_l37_TemplateRight : VM.Enters Tryd.prog 8 := VM.Enters.mk Tryd.func8 rfl
theorem l37_Right_cs (m : Mt) (t : Ty) (pre : Nm) (sc : List Vr) (hm : szL (mtC m) ≤ 1048576) (ht : szL (tyD t) ≤ 1048576) (hsc : sc.length ≤ 1048576) : CS Tryd.prog G0 8 [.agg (mtC m), .agg (tyD t), .agg (plC pre sc)] (.d (.bool true)) none := by
  obtain ⟨d1, d2⟩ := mt_sz m
  have ht2 := tyD_sz t
  have htc : szL (tyC t) ≤ 1048576 := by rw [tyC_eq]; exact ht
  have hA := allT_szA t
  have hli := l37_light_cs (G := G0) m t sc (by omega) (by omega) (by omega) (fun d hd => by have := d2 d hd; omega)
  have hco := r4_Core_cs (G := G0) pre
  cases hb : lightB m t sc
  · rw [hb] at hli
    refine CS.of_VK Tryd.func8 rfl Tryd.ntmps8 rfl ?_
    simp [mtC, plC]
    refine callK.mk ent_l37_light hli ?_
    simp
    refine callK.mk ent_l37_awake l37_awake_cs ?_
    simp
  rw [hb] at hli
  obtain ⟨e1, e2, e3, e4, e5, e6⟩ := light_news hb pre
  obtain ⟨_, hnod, _, _⟩ := light_spec hb
  refine CS.of_VK Tryd.func8 rfl Tryd.ntmps8 rfl ?_
  simp [mtC, plC]
  refine callK.mk ent_l37_light hli ?_
  by_cases h20 : (20 : Int) < sc.length
  · simp [h20]
    refine callK.mk ent_l37_awake l37_awake_cs ?_
    simp
  by_cases h100 : (100 : Int) < pre.length
  · simp [h20, h100]
    refine callK.mk ent_l37_awake l37_awake_cs ?_
    simp
  simp [h20, h100]
  refine callK.mk ent_r4_Core hco ?_
  cases hcb : coreB pre
  · simp [errName]
    refine callK.mk ent_l37_awake l37_awake_cs ?_
    simp
  by_cases h60 : (60 : Int) < pre.length
  · simp [errName, h60]
    refine callK.mk ent_l37_awake l37_awake_cs ?_
    simp
  have hWB : WB 2000000 t := WB_sz t (by omega)
  have hck := r32_Check_cs (G := G0) t hWB (by omega)
  have hna := l37_named_cs (G := G0) vN t hWB
  simp [errName, h60]
  refine callK.mk ent_r32_Check hck ?_
  by_cases hc0 : chkR t = 0
  rotate_left
  · simp [hc0]
    refine callK.mk ent_l37_awake l37_awake_cs ?_
    simp
  simp [hc0]
  refine callK.mk ent_l37_named hna ?_
  cases hnb : namB2 vN t
  rotate_left
  · simp
    refine callK.mk ent_l37_awake l37_awake_cs ?_
    simp
  have hen := s_Env_cs (G := G0) G0_kw ⟨sc, [], []⟩
  rw [envE_vars] at hen
  have hva := l37_variable_cs (G := G0) sc vN (by omega)
  simp
  have hen' : CS Tryd.prog G0 27 [.agg [.sl (sc.map vrC), .nils, .nils]] (.d (.int .i64 (varsE sc))) none := CS.args hen (by
    have e : varsC sc = sc.map vrC := rfl
    simp [envC, symsC, holesC, e])
  refine callK.mk ent_s_Env hen' ?_
  by_cases hv0 : varsE sc = 0
  rotate_left
  · simp [hv0]
    refine callK.mk ent_l37_awake l37_awake_cs ?_
    simp
  simp [hv0]
  refine callK.mk ent_l37_variable hva ?_
  by_cases hvm : vN ∈ sc.map (·.1)
  · have : decide (vN ∈ sc.map (·.1)) = true := decide_eq_true hvm
    rw [this]
    simp
    refine callK.mk ent_l37_awake l37_awake_cs ?_
    simp
  have hvd : decide (vN ∈ sc.map (·.1)) = false := decide_eq_false hvm
  rw [hvd]
  simp
  refine SW.loopF (ι := { i : Nat // i ≤ m.datas.length ∧ ∀ d ∈ m.datas.take i, ∀ v ∈ d.preds, sortB v.2 = true }) (fun i => [(7, .d (.int .i64 i.1))]) (fun _ => rtH m t pre sc) (fun _ => []) (fun i => m.datas.length - i.1) ⟨0, by simp⟩ (by simp [rtH, mtC]) ?_
  rintro ⟨i, hi, hx⟩
  by_cases hlt : i < m.datas.length
  · have hg := das_get hlt
    have hw := wrap64s (show i < 9223372036854775807 by omega)
    have hpl := d2 _ (List.getElem_mem hlt)
    simp [hlt, rtH, mtC]
    refine SW.loopF (ι := { k : Nat // k ≤ m.datas[i].preds.length ∧ ∀ v ∈ m.datas[i].preds.take k, sortB v.2 = true }) (fun k => [(8, .d (.int .i64 k.1))]) (fun _ => rtH m t pre sc) (fun _ => []) (fun k => m.datas[i].preds.length - k.1) ⟨0, by simp⟩ (by simp [rtH, mtC]) ?_
    rintro ⟨k, hk, hy⟩
    by_cases hlk : k < m.datas[i].preds.length
    · have hgk := vrs_get hlk
      have hwk := wrap64s (show k < 9223372036854775807 by omega)
      have hsk := s_Check_cs (G := G0) G0_kw m.datas[i].preds[k].2
      simp [hlt, hg, hlk, hgk, rtH, mtC, daC]
      refine callK.mk ent_s_Check hsk ?_
      cases hsb : sortB m.datas[i].preds[k].2
      · simp [sortE, hsb]
        refine callK.mk ent_l37_awake l37_awake_cs ?_
        simp
      · have hy2 : ∀ v ∈ m.datas[i].preds.take (k + 1), sortB v.2 = true := fun v hv => by
          rw [List.take_succ_eq_append_getElem hlk, List.mem_append, List.mem_singleton] at hv
          rcases hv with hv | rfl
          · exact hy v hv
          · exact hsb
        simp [sortE, hsb]
        exact Again.mk ⟨k + 1, hlk, hy2⟩ (by simp [hwk, rtH, mtC]) (by simp; omega)
    · have hke : k = m.datas[i].preds.length := by omega
      subst hke
      rw [List.take_length] at hy
      have hx2 : ∀ d ∈ m.datas.take (i + 1), ∀ v ∈ d.preds, sortB v.2 = true := fun d hd => by
        rw [List.take_succ_eq_append_getElem hlt, List.mem_append, List.mem_singleton] at hd
        rcases hd with hd | rfl
        · exact hx d hd
        · exact hy
      simp [hlt, hg, rtH, mtC, daC]
      exact Again.mk ⟨i + 1, hlt, hx2⟩ (by simp [hw, rtH, mtC]) (by simp; omega)
  have hie : i = m.datas.length := by omega
  subst hie
  rw [List.take_length] at hx
  have hn1 := t_New_cs G0_kw G0_pow (added_ok (G := G0)) pre m (by omega) e3 t sc e1 e2
  have hfrm : frmR t = 0 := by
    unfold chkR at hc0
    by_cases h : checkT t = 0
    · rwa [if_neg (by simp [h])] at hc0
    · rw [if_pos h] at hc0
      exact absurd hc0 h
  have hrp := fun hn => right_plain (m := m) (t := t) (pre := pre) (sc := sc) hcb (by omega) hfrm hnb hv0 hvm hx (by omega) hn
  generalize visT sortB pre (datN m) t sc [] = r at hn1 hrp
  obtain ⟨a, H⟩ := r
  simp only at hn1 hrp
  have hen2 := s_Env_cs (G := G0) G0_kw ⟨[], [], toL H⟩
  rw [envE_holes] at hen2
  have hen3 : CS Tryd.prog G0 27 [.agg [.nils, .nils, .sl (H.map hoC)]] (.d (.int .i64 (holesE (toL H)))) none := CS.args hen2 (by
    have e : holesC (toL H) = H.map hoC := toL_eq H
    simp [envC, symsC, varsC, e])
  simp [rtH, mtC]
  refine callK.mk ent_template_New hn1 ?_
  by_cases h40 : (40 : Int) < H.length
  · simp [h40]
    refine callK.mk ent_l37_awake l37_awake_cs ?_
    simp
  · have hz := hrp (by omega)
    rw [hz] at hen3
    simp [h40]
    refine callK.mk ent_s_Env hen3 ?_
    simp
    refine callK.mk ent_l37_awake l37_awake_cs ?_
    simp
theorem templateRight_all (xs : List D) (h : FitsAll Tryd.prog [29, 38, 41] xs) (hsz : szL xs ≤ 1048576) : CS Tryd.prog G0 8 xs (.d (.bool true)) none := by
  match xs, h with
  | [a, b, c], ⟨h1, h2, h3, _⟩ =>
    obtain ⟨m, rfl⟩ := fitV_mt h1
    obtain ⟨t, rfl⟩ := fitV_ty h2
    obtain ⟨pre, sc, rfl⟩ := fitV_pl h3
    have z1 := agg_sz (cs := mtC m) (xs := [.agg (mtC m), .agg (tyD t), .agg (plC pre sc)]) (by simp)
    have z2 := agg_sz (cs := tyD t) (xs := [.agg (mtC m), .agg (tyD t), .agg (plC pre sc)]) (.tail _ (.head _))
    have z3 := agg_sz (cs := plC pre sc) (xs := [.agg (mtC m), .agg (tyD t), .agg (plC pre sc)]) (by simp)
    have hv := vrs_len_szA sc
    have z4 : szLL (sc.map vrC) ≤ szL (plC pre sc) := by simp only [plC, szL, szD]; omega
    exact l37_Right_cs m t pre sc (Nat.le_trans z1 hsz) (Nat.le_trans z2 hsz) (Nat.le_trans hv (Nat.le_trans z4 (Nat.le_trans z3 hsz)))
end Go.Proofs.YtmjpdmkgmlhfaaaDoor
end
