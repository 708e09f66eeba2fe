/- Predicates: the walks of filling, in the program and in the reference. No condition. -/
import Derived.Test.YtmjpdmkgmlhfaaaDoorPc
set_option linter.unusedVariables false
set_option linter.unusedSimpArgs false
set_option linter.unusedSectionVars false
namespace Go.Proofs.YtmjpdmkgmlhfaaaDoor
open Go Go.VM
set_option maxRecDepth 100000
set_option maxHeartbeats 8000000
variable {G : GT}
abbrev Vr := Nm × Nm
/-- An unknown predicate: its name, its parameters. -/
abbrev Ho := Nm × List Vr
/-- A solution. -/
abbrev So := Nm × Pr
def vrC (v : Vr) : List D := [.str v.1, .str v.2]
abbrev hoD (h : Ho) : List D := [.str h.1, .sl (h.2.map vrC)]
def hoC (h : Ho) : List D := hoD h
abbrev soD (s : So) : List D := [.str s.1, .int .i64 s.2.op, .str s.2.name, .int .i64 s.2.n, .sl (s.2.kids.map prC)]
def soC (s : So) : List D := soD s
theorem vrC_eq (v : Vr) : vrC v = [.str v.1, .str v.2] := rfl
theorem hoC_eq (h : Ho) : hoC h = [.str h.1, .sl (h.2.map vrC)] := rfl
theorem soC_eq (s : So) : soC s = [.str s.1, .int .i64 s.2.op, .str s.2.name, .int .i64 s.2.n, .sl (s.2.kids.map prC)] := rfl
attribute [simp] vrC_eq hoC_eq soC_eq
theorem vrs_get {l : List Vr} {i : Nat} (h : i < l.length) : (l.map vrC)[i]? = some [.str l[i].1, .str l[i].2] := by simp [h, vrC]
theorem hos_get {l : List Ho} {i : Nat} (h : i < l.length) : (l.map hoC)[i]? = some (hoD l[i]) := by simp [h, hoC]
theorem sos_get {l : List So} {i : Nat} (h : i < l.length) : (l.map soC)[i]? = some (soD l[i]) := by simp [h, soC]
def hoN (H : List Ho) : List (Nm × List Nm) := H.map fun h => (h.1, h.2.map (·.1))
theorem find_at {α : Type} {p : α → Bool} {l : List α} {i : Nat} (h : i < l.length) : (l.drop i).find? p = if p l[i] then some l[i] else (l.drop (i + 1)).find? p := by
  rw [List.drop_eq_getElem_cons h, List.find?_cons]
  cases p l[i] <;> rfl
theorem find_end {α : Type} {p : α → Bool} {l : List α} : (l.drop l.length).find? p = none := by simp
def hoF (H : List Ho) (nm : Nm) : Option Ho := H.find? fun h => decide (h.1 = nm)
def soF (S : List So) (nm : Nm) : Option So := S.find? fun s => decide (s.1 = nm)
theorem hoN_find (H : List Ho) (nm : Nm) : (hoN H).find? (fun h => decide (h.1 = nm)) = (hoF H nm).map fun h => (h.1, h.2.map (·.1)) := by
  unfold hoN hoF
  induction H with
  | nil => rfl
  | cons h r ih =>
    simp only [List.map_cons, List.find?_cons]
    cases decide (h.1 = nm)
    · exact ih
    · rfl
theorem solP_eq (H : List Ho) (S : List So) (nm : Nm) (kids : List Pr) : solP (hoN H) S nm kids = match soF S nm, hoF H nm with
    | some s, some h => if voidP s.2 then truP else substP (h.2.map (·.1)) kids s.2
    | _, _ => truP := by
  unfold solP
  rw [hoN_find]
  unfold soF
  cases List.find? (fun s => decide (s.1 = nm)) S <;> cases hoF H nm <;> rfl
theorem fst_step {l : List Vr} {i : Nat} (h : i < l.length) : strs (List.map (·.1) (l.take (i + 1))) = strs (List.map (·.1) (l.take i)) ++ [[.str l[i].1]] := by
  rw [List.take_succ_eq_append_getElem h, List.map_append, strs_app2]
  rfl
/-- The names of the parameters. -/
theorem subst_tru (ns : List Nm) (bys : List Pr) : substP ns bys truP = truP := by
  rw [substP_eq, pickP_none (by simp [truP])]
  rfl
theorem ent_pred_filled : VM.Enters Tryd.prog 105 := VM.Enters.mk Tryd.func105 rfl
theorem pred_filled_cs (H : List Ho) (S : List So) (p : Pr) (h1 : H.length ≤ 900000000) (h2 : ∀ h ∈ H, h.2.length ≤ 900000000) (h3 : S.length ≤ 900000000) (h4 : ∀ s ∈ S, nodP s.2 ≤ 900000000) (h5 : p.kids.length ≤ 900000000) (h6 : ∀ u ∈ p.kids, nodP u ≤ 900000000) :
    CS Tryd.prog G 105 [.agg (prD p), .sl (H.map hoC), .sl (S.map soC)] (.d (.agg (prD (solP (hoN H) S p.name p.kids)))) none := by
  obtain ⟨op, nm, n, l⟩ := p
  have hm := solP_eq H S nm l
  simp only at h5 h6 ⊢
  refine CS.of_VK Tryd.func105 rfl Tryd.ntmps105 rfl ?_
  simp
  refine SW.loopF (ι := { i : Nat // i ≤ S.length ∧ soF S nm = soF (S.drop i) nm }) (fun i => [(16, .d (.int .i64 i.1))]) (fun _ => [(3, prO op nm n (.sl (l.map prC))), (6, prO 0 [] 0 .nils)]) (fun _ => []) (fun i => S.length - i.1) ⟨0, by simp⟩ (by simp) ?_
  rintro ⟨i, hi, hR⟩
  try simp only at hi hR
  by_cases hlt : i < S.length
  · have hg := sos_get hlt
    have hw := wrap64s (show i < 9223372036854775807 by omega)
    have hf := find_at (p := fun s : So => decide (s.1 = nm)) hlt
    have hR' : soF S nm = if decide (S[i].1 = nm) then some S[i] else soF (S.drop (i + 1)) nm := by rw [hR]; exact hf
    by_cases hn : S[i].1 = nm
    · rw [if_pos (by simpa using hn)] at hR'
      rw [hR'] at hm
      have hnod := h4 _ (List.getElem_mem hlt)
      have hz := pred_Same_cs (G := G) S[i].2 zerP hnod
      rw [samP_dec] at hz
      simp [hlt, hg, hn]
      refine callK.mk ent_pred_Same (CS.args hz (by simp [zerP])) ?_
      by_cases hzz : S[i].2 = zerP
      · have hv : voidP S[i].2 = true := by simp [voidP, hzz]
        have hm2 : solP (hoN H) S nm l = truP := by
          rw [hm]
          cases hoF H nm <;> simp [hv]
        simp [hzz]
        refine callK.mk ent_pred_constant (pred_constant_cs true) ?_
        simp [hm2, conP]
      · simp [hzz]
        refine SW.loopF (ι := { j : Nat // j ≤ H.length ∧ hoF H nm = hoF (H.drop j) nm }) (fun j => [(32, .d (.int .i64 j.1))]) (fun _ => [(3, prO op nm n (.sl (l.map prC))), (6, prO 0 [] 0 .nils), (8, .cells [.d (.str nm), .d (.int .i64 S[i].2.op), .d (.str S[i].2.name), .d (.int .i64 S[i].2.n), .d (.sl (S[i].2.kids.map prC))])]) (fun _ => []) (fun j => H.length - j.1) ⟨0, by simp⟩ (by simp) ?_
        rintro ⟨k, hk, hQ⟩
        try simp only at hk hQ
        by_cases hltk : k < H.length
        · have hgk := hos_get hltk
          have hwk := wrap64s (show k < 9223372036854775807 by omega)
          have hQ' : hoF H nm = if decide (H[k].1 = nm) then some H[k] else hoF (H.drop (k + 1)) nm := by rw [hQ]; exact find_at (p := fun s : Ho => decide (s.1 = nm)) hltk
          by_cases hnk : H[k].1 = nm
          · rw [if_pos (by simpa using hnk)] at hQ'
            rw [hQ'] at hm
            simp only at hm
            have hlen := h2 _ (List.getElem_mem hltk)
            have hfin : solP (hoN H) S nm l = substP (H[k].2.map (·.1)) l S[i].2 := by
              rw [hm]
              split
              · rename_i hv
                simp only [voidP, hzz, decide_false, Bool.false_or, decide_eq_true_eq] at hv
                rw [hv, subst_tru]
              · rfl
            have hsub := pred_SubstAll_cs (G := G) (H[k].2.map (·.1)) l (by simpa using hlen) h5 h6 S[i].2 hnod
            simp [hltk, hgk, hnk]
            refine SW.loopF (ι := { i : Nat // i ≤ H[k].2.length }) (fun i => [(11, .d (.sl (strs (List.map (·.1) (H[k].2.take i.1))))), (44, .d (.int .i64 i.1))]) (fun _ => [(3, prO op nm n (.sl (l.map prC))), (6, prO 0 [] 0 .nils), (8, .cells [.d (.str nm), .d (.int .i64 S[i].2.op), .d (.str S[i].2.name), .d (.int .i64 S[i].2.n), .d (.sl (S[i].2.kids.map prC))])]) (fun _ => [(9, [.t 11])]) (fun i => H[k].2.length - i.1) ⟨0, by simp⟩ (by simp) ?_
            rintro ⟨j, hj⟩
            by_cases hltj : j < H[k].2.length
            · have hgj := vrs_get hltj
              have hwj := wrap64s (show j < 9223372036854775807 by omega)
              have hs2 := fst_step hltj
              have hsz : (j + 1) * 17 ≤ 140737488355328 := by omega
              have hmin : min j H[k].2.length = j := by omega
              simp at hs2
              simp [hltj, hgj, hsz, hmin]
              exact Again.mk ⟨j + 1, hltj⟩ (by simp [hwj, hs2]) (by simp; omega)
            · have : j = H[k].2.length := by omega
              subst this
              simp
              refine callK.mk ent_pred_SubstAll hsub ?_
              simp [hfin]
          · rw [if_neg (by simpa using hnk)] at hQ'
            simp [hltk, hgk, hnk]
            exact Again.mk ⟨k + 1, hltk, hQ'⟩ (by simp [hwk]) (by simp; omega)
        · have : k = H.length := by omega
          subst this
          have hQ' : hoF H nm = none := by rw [hQ]; simp [hoF]
          rw [hQ'] at hm
          simp only at hm
          simp
          refine callK.mk ent_pred_constant (pred_constant_cs true) ?_
          simp [hm, conP]
    · rw [if_neg (by simpa using hn)] at hR'
      simp [hlt, hg, hn]
      exact Again.mk ⟨i + 1, hlt, hR'⟩ (by simp [hw]) (by simp; omega)
  · have : i = S.length := by omega
    subst this
    have hR' : soF S nm = none := by rw [hR]; simp [soF]
    rw [hR'] at hm
    simp only at hm
    simp
    refine callK.mk ent_pred_constant (pred_constant_cs true) ?_
    simp [hm, conP]
theorem ent_r7_solution : VM.Enters Tryd.prog 107 := VM.Enters.mk Tryd.func107 rfl
theorem r7_solution_cs (H : List Ho) (S : List So) (p : Pr) (h1 : H.length ≤ 900000000) (h2 : ∀ h ∈ H, h.2.length ≤ 1000000) (h3 : S.length ≤ 900000000) (h4 : ∀ s ∈ S, nodP s.2 ≤ 900000000) (h5 : p.kids.length ≤ 900000000) :
    CS Tryd.prog G 107 [.agg (prD p), .sl (H.map hoC), .sl (S.map soC)] (.d (.agg (prD (solP (hoN H) S p.name p.kids)))) none := by
  obtain ⟨op, nm, n, l⟩ := p
  have hm := solP_eq H S nm l
  simp only at h5 ⊢
  refine CS.of_VK Tryd.func107 rfl Tryd.ntmps107 rfl ?_
  simp
  refine SW.loopF (ι := { j : Nat // j ≤ H.length ∧ hoF H nm = hoF (H.drop j) nm }) (fun j => [(16, .d (.int .i64 j.1))]) (fun _ => [(3, prO op nm n (.sl (l.map prC))), (6, prO 0 [] 0 .nils)]) (fun _ => []) (fun j => H.length - j.1) ⟨0, by simp⟩ (by simp) ?_
  rintro ⟨k, hk, hQ⟩
  try simp only at hk hQ
  by_cases hltk : k < H.length
  · have hgk := hos_get hltk
    have hwk := wrap64s (show k < 9223372036854775807 by omega)
    have hQ' : hoF H nm = if decide (H[k].1 = nm) then some H[k] else hoF (H.drop (k + 1)) nm := by rw [hQ]; exact find_at (p := fun s : Ho => decide (s.1 = nm)) hltk
    by_cases hnk : H[k].1 = nm
    · rw [if_pos (by simpa using hnk)] at hQ'
      rw [hQ'] at hm
      have hlen := h2 _ (List.getElem_mem hltk)
      simp [hltk, hgk, hnk]
      refine SW.loopF (ι := { i : Nat // i ≤ H[k].2.length }) (fun i => [(9, .d (.sl (strs (List.map (·.1) (H[k].2.take i.1))))), (28, .d (.int .i64 i.1))]) (fun _ => [(3, prO op nm n (.sl (l.map prC))), (6, prO 0 [] 0 .nils)]) (fun _ => [(9, [.t 9])]) (fun i => H[k].2.length - i.1) ⟨0, by simp⟩ (by simp) ?_
      rintro ⟨j, hj⟩
      by_cases hltj : j < H[k].2.length
      · have hgj := vrs_get hltj
        have hwj := wrap64s (show j < 9223372036854775807 by omega)
        have hs2 := fst_step hltj
        have hsz : (j + 1) * 17 ≤ 140737488355328 := by omega
        have hmin : min j H[k].2.length = j := by omega
        simp at hs2
        simp [hltj, hgj, hsz, hmin]
        exact Again.mk ⟨j + 1, hltj⟩ (by simp [hwj, hs2]) (by simp; omega)
      · have : j = H[k].2.length := by omega
        subst this
        simp
        refine SW.loopF (ι := { i : Nat // i ≤ S.length ∧ soF S nm = soF (S.drop i) nm }) (fun i => [(40, .d (.int .i64 i.1))]) (fun _ => [(3, prO op nm n (.sl (l.map prC))), (6, prO 0 [] 0 .nils)]) (fun _ => []) (fun i => S.length - i.1) ⟨0, by simp⟩ (by simp) ?_
        rintro ⟨i, hi, hR⟩
        try simp only at hi hR
        by_cases hlt : i < S.length
        · have hg := sos_get hlt
          have hw := wrap64s (show i < 9223372036854775807 by omega)
          have hR' : soF S nm = if decide (S[i].1 = nm) then some S[i] else soF (S.drop (i + 1)) nm := by rw [hR]; exact find_at (p := fun s : So => decide (s.1 = nm)) hlt
          by_cases hn : S[i].1 = nm
          · rw [if_pos (by simpa using hn)] at hR'
            rw [hR'] at hm
            simp only at hm
            have hnod := h4 _ (List.getElem_mem hlt)
            have hsub := r7_SubstAll_cs (G := G) (H[k].2.map (·.1)) l (by simpa using hlen) h5 S[i].2 hnod
            simp [hlt, hg, hn]
            refine callK.mk ent_r7_Void (r7_Void_cs S[i].2 hnod) ?_
            cases hv : voidP S[i].2
            · rw [hv] at hm
              simp at hm
              simp
              refine callK.mk ent_r7_SubstAll hsub ?_
              simp [hm]
            · rw [hv] at hm
              simp at hm
              simp
              refine callK.mk ent_r7_True (r7_True_cs ) ?_
              simp [hm]
          · rw [if_neg (by simpa using hn)] at hR'
            simp [hlt, hg, hn]
            exact Again.mk ⟨i + 1, hlt, hR'⟩ (by simp [hw]) (by simp; omega)
        · have : i = S.length := by omega
          subst this
          have hR' : soF S nm = none := by rw [hR]; simp [soF]
          rw [hR'] at hm
          simp only at hm
          simp
          refine callK.mk ent_r7_True (r7_True_cs ) ?_
          simp [hm]
    · rw [if_neg (by simpa using hnk)] at hQ'
      simp [hltk, hgk, hnk]
      exact Again.mk ⟨k + 1, hltk, hQ'⟩ (by simp [hwk]) (by simp; omega)
  · have : k = H.length := by omega
    subst this
    have hQ' : hoF H nm = none := by rw [hQ]; simp [hoF]
    have hm2 : solP (hoN H) S nm l = truP := by
      rw [hm, hQ']
      cases soF S nm <;> rfl
    simp
    refine callK.mk ent_r7_True (r7_True_cs ) ?_
    simp [hm2]
/-! ### Filling -/
theorem fills_nod {H : List Ho} {S : List So} (hS : ∀ s ∈ S, nodP s.2 ≤ 10) (p : Pr) (hN : nodP p * 10 ^ depP p ≤ 900000000) :
    nodPs (p.kids.map (fillP (hoN H) S)) ≤ 900000000 ∧ ∀ k ∈ p.kids, nodP k * 10 ^ depP k ≤ 900000000 := by
  have hd := depP_eq p
  have hn := nodP_kids p
  have h1 := nods_fill (H := hoN H) hS p.kids (depPs p.kids 0) fun k hk => depPs_mem hk
  rw [fillPs_eq] at h1
  have hle : nodPs p.kids * 10 ^ depPs p.kids 0 ≤ nodP p * 10 ^ depP p := Nat.mul_le_mul (by omega) (Nat.pow_le_pow_right (by omega) (by omega))
  refine ⟨by omega, fun k hk => ?_⟩
  have h2 := nodPs_mem hk
  have h3 := depPs_mem (n := 0) hk
  have : nodP k * 10 ^ depP k ≤ nodP p * 10 ^ depP p := Nat.mul_le_mul (by omega) (Nat.pow_le_pow_right (by omega) (by omega))
  omega
theorem nod_of_pow {p : Pr} (hN : nodP p * 10 ^ depP p ≤ 900000000) : nodP p ≤ 900000000 := by
  have : nodP p * 1 ≤ nodP p * 10 ^ depP p := Nat.mul_le_mul_left _ (Nat.pow_pos (by omega))
  omega
theorem fillP_hole {H : List (Nm × List Nm)} {S : List (Nm × Pr)} {nm : Nm} {n : Int} {l : List Pr} : fillP H S ⟨5, nm, n, l⟩ = solP H S nm (l.map (fillP H S)) := by rw [fillP_eq]; simp
theorem fillP_other {H : List (Nm × List Nm)} {S : List (Nm × Pr)} {op : Int} {nm : Nm} {n : Int} {l : List Pr} (h : ¬ op = 5) : fillP H S ⟨op, nm, n, l⟩ = ⟨op, nm, n, l.map (fillP H S)⟩ := by rw [fillP_eq]; simp [h]
theorem ent_pred_Fill : VM.Enters Tryd.prog 72 := VM.Enters.mk Tryd.func72 rfl
theorem pred_Fill_cs (H : List Ho) (S : List So) (h1 : H.length ≤ 900000000) (h2 : ∀ h ∈ H, h.2.length ≤ 900000000) (h3 : S.length ≤ 900000000) (h4 : ∀ s ∈ S, nodP s.2 ≤ 10) :
    ∀ p : Pr, nodP p * 10 ^ depP p ≤ 900000000 → CS Tryd.prog G 72 [.agg (prD p), .sl (H.map hoC), .sl (S.map soC)] (.d (.agg (prD (fillP (hoN H) S p)))) none := by
  refine Pr.ind fun p ih => ?_
  intro hP
  obtain ⟨hK, hks⟩ := fills_nod (H := H) h4 p hP
  have hN := nod_of_pow hP
  obtain ⟨op, nm, n, l⟩ := p
  simp only at ih hK hks
  have hn := nodP_kids ⟨op, nm, n, l⟩
  simp only at hn
  have hl := len_le_nodPs l
  have hsol := pred_filled_cs (G := G) H S ⟨op, nm, n, l.map (fillP (hoN H) S)⟩ h1 h2 h3 (fun s hs => by have := h4 s hs; omega) (by simp; omega) (fun u hu => Nat.le_trans (nodPs_mem (l := l.map (fillP (hoN H) S)) hu) hK)
  simp only [prD, List.map_map] at hsol
  refine CS.of_VK Tryd.func72 rfl Tryd.ntmps72 rfl ?_
  simp
  refine SW.loopF (ι := { i : Nat // i ≤ l.length }) (fun i => [(20, .d (.int .i64 i.1))]) (fun i => [(3, prO op nm n (.sl (l.map prC))), (6, prO 0 [] 0 .nils), (7, prO op nm n (.sl ((l.take i.1).map (prC ∘ fillP (hoN H) S))))]) (fun _ => [(36, [.c 7 3])]) (fun i => l.length - i.1) ⟨0, by simp⟩ (by simp) ?_
  rintro ⟨i, hi⟩
  by_cases hlt : i < l.length
  · have hg := prs_get hlt
    have hw := wrap64s (show i < 9223372036854775807 by omega)
    have hs2 := map_stepC (prC ∘ fillP (hoN H) S) hlt
    simp at hs2
    have h4 : ∀ (x : List D), x ∈ List.take i (List.map (prC ∘ fillP (hoN H) S) l) → x.length = 4 := len_mem (by simp)
    simp [hlt, hg]
    refine ⟨lexOk.mk (by kernel_rfl), ?_⟩
    refine callK.mk ent_pred_Fill (ih l[i] (List.getElem_mem hlt) (hks _ (List.getElem_mem hlt))) ?_
    simp
    refine stepK_len ⟨h4, by omega⟩ ?_
    simp
    exact Again.mk ⟨i + 1, hlt⟩ (by simp [hw, hs2]) (by simp; omega)
  · have : i = l.length := by omega
    subst this
    by_cases h5 : op = 5
    · subst h5
      simp [fillP_hole]
      refine callK.mk ent_pred_filled hsol ?_
      simp
    · simp [h5, fillP_other h5]
theorem ent_r7_Fill : VM.Enters Tryd.prog 78 := VM.Enters.mk Tryd.func78 rfl
theorem r7_Fill_cs (H : List Ho) (S : List So) (h1 : H.length ≤ 900000000) (h2 : ∀ h ∈ H, h.2.length ≤ 1000000) (h3 : S.length ≤ 900000000) (h4 : ∀ s ∈ S, nodP s.2 ≤ 10) :
    ∀ p : Pr, nodP p * 10 ^ depP p ≤ 900000000 → CS Tryd.prog G 78 [.agg (prD p), .sl (H.map hoC), .sl (S.map soC)] (.d (.agg (prD (fillP (hoN H) S p)))) none := by
  refine Pr.ind fun p ih => ?_
  intro hP
  obtain ⟨hK, hks⟩ := fills_nod (H := H) h4 p hP
  have hN := nod_of_pow hP
  obtain ⟨op, nm, n, l⟩ := p
  simp only at ih hK hks
  have hn := nodP_kids ⟨op, nm, n, l⟩
  simp only at hn
  have hl := len_le_nodPs l
  have hsol := r7_solution_cs (G := G) H S ⟨op, nm, n, l.map (fillP (hoN H) S)⟩ h1 h2 h3 (fun s hs => by have := h4 s hs; omega) (by simp; omega)
  have hwi := r7_with_cs (G := G) ⟨op, nm, n, l⟩ (l.map (fillP (hoN H) S))
  simp only [prD, List.map_map] at hsol
  simp at hwi
  refine CS.of_VK Tryd.func78 rfl Tryd.ntmps78 rfl ?_
  simp
  refine SW.loopF (ι := { i : Nat // i ≤ l.length }) (fun i => [(7, .d (.sl ((l.take i.1).map (prC ∘ fillP (hoN H) S)))), (14, .d (.int .i64 i.1))]) (fun i => [(3, prO op nm n (.sl (l.map prC))), (6, prO 0 [] 0 .nils)]) (fun _ => [(36, [.t 7])]) (fun i => l.length - i.1) ⟨0, by simp⟩ (by simp) ?_
  rintro ⟨i, hi⟩
  by_cases hlt : i < l.length
  · have hg := prs_get hlt
    have hw := wrap64s (show i < 9223372036854775807 by omega)
    have hs2 := map_stepC (prC ∘ fillP (hoN H) S) hlt
    simp at hs2
    have h4 : ∀ (x : List D), x ∈ List.take i (List.map (prC ∘ fillP (hoN H) S) l) → x.length = 4 := len_mem (by simp)
    simp [hlt, hg]
    refine callK.mk ent_r7_Fill (ih l[i] (List.getElem_mem hlt) (hks _ (List.getElem_mem hlt))) ?_
    simp
    refine stepK_len ⟨h4, by omega⟩ ?_
    simp
    exact Again.mk ⟨i + 1, hlt⟩ (by simp [hw, hs2]) (by simp; omega)
  · have : i = l.length := by omega
    subst this
    simp
    refine callK.mk ent_r7_with hwi ?_
    by_cases h5 : op = 5
    · subst h5
      simp [fillP_hole]
      refine callK.mk ent_r7_solution hsol ?_
      simp
    · simp [h5, fillP_other h5]
end Go.Proofs.YtmjpdmkgmlhfaaaDoor
