/- The checks of instances and modules in the reference; the walks. No condition. -/
import Derived.Test.YtbacejmdgfalpaaDoorKf
set_option linter.unusedVariables false
set_option linter.unusedSimpArgs false
set_option linter.unusedSectionVars false
namespace Go.Proofs.YtbacejmdgfalpaaDoor
open Go Go.VM
set_option maxRecDepth 100000
set_option maxHeartbeats 8000000
variable {G : GT}
theorem name_in {l : List Df} {nm : Nm} : nm ∈ l.map (·.name) ↔ ∃ y ∈ l, y.name = nm := by
  rw [List.mem_map]
theorem take2_no {α : Type} {M : α → Prop} {l : List α} {i j : Nat} (h : j < l.length) (hj : j < i) (hn : ∀ y ∈ (l.take i).take j, ¬ M y) (h1 : ¬ M l[j]) : ∀ y ∈ (l.take i).take (j + 1), ¬ M y := by
  intro y hy
  rw [List.take_take] at hn hy
  have e1 : min (j + 1) i = j + 1 := by omega
  have e2 : min j i = j := by omega
  rw [e2] at hn
  rw [e1, List.take_succ_eq_append_getElem h] at hy
  rcases List.mem_append.1 hy with hy | hy
  · exact hn y hy
  · rw [List.mem_singleton.1 hy]; exact h1
def hasN (l : List Df) (nm : Nm) (k : Nat) : Bool := (l.take k).any fun y => decide (y.name = nm)
theorem hasN_succ {l : List Df} {nm : Nm} {k : Nat} (h : k < l.length) : hasN l nm (k + 1) = (hasN l nm k || decide (l[k].name = nm)) := by
  unfold hasN
  rw [List.take_succ_eq_append_getElem h, List.any_append]
  simp
theorem hasN_all (l : List Df) (nm : Nm) : hasN l nm l.length = decide (nm ∈ l.map (·.name)) := by
  unfold hasN
  rw [List.take_length, Bool.eq_iff_iff, List.any_eq_true, decide_eq_true_eq, name_in]
  constructor
  · rintro ⟨y, h1, h2⟩; exact ⟨y, h1, of_decide_eq_true h2⟩
  · rintro ⟨y, h1, h2⟩; exact ⟨y, h1, decide_eq_true h2⟩
theorem ent_r25_definitions : VM.Enters Tryd.prog 42 := VM.Enters.mk Tryd.func42 rfl
theorem r25_definitions_cs (c : Cl) (l : List Df) (hl : l.length ≤ 900000000) (hd : ∀ d ∈ l, okDf d) (hc : okCl c) : CS Tryd.prog G 42 [.agg (clC c), .sl (l.map dfC)] (.d (.int .i64 (defsE c l))) none := by
  obtain ⟨E, hE⟩ : ∃ E, dfE c [] l = E := ⟨_, rfl⟩
  obtain ⟨L, hL⟩ : ∃ L, lackE l c.mds = L := ⟨_, rfl⟩
  unfold defsE
  rw [hE, hL]
  obtain ⟨hk, hm⟩ := hc
  refine CS.of_VK Tryd.func42 rfl Tryd.ntmps42 rfl ?_
  simp
  refine SW.loopF (ι := { i : Nat // i ≤ l.length ∧ dfE c (l.take i) (l.drop i) = E }) (fun i => [(18, .d (.int .i64 i.1))]) (fun _ => [(2, .cells ((clC c).map .d))]) (fun _ => []) (fun i => l.length - i.1) ⟨0, by simp [hE]⟩ (by simp) ?_
  rintro ⟨i, hi, hR⟩
  try simp only at hi hR
  by_cases hlt : i < l.length
  · have hw := wrap64s (show i < 9223372036854775807 by omega)
    obtain ⟨d, hdx⟩ : ∃ d, l[i] = d := ⟨_, rfl⟩
    have hdd := hd l[i] (List.getElem_mem hlt)
    have hmd := r25_method_cs (G := G) c d.name hk
    have hpar := r25_params_cs (G := G) (mdOf c.mds d.name).ty (getD_mem (M := fun y => y.ty.args.length ≤ 900000000) (fun y hy => by have := hm y hy; have := args_le y.ty; omega) (by simp [zeroTy]))
    rw [dfE_step hlt] at hR
    rw [hdx] at hR hdd
    simp at hmd
    simp [hlt, hdx]
    refine callK.mk ent_r25_method hmd ?_
    cases hh : mdHas c.mds d.name with
    | false =>
      rw [if_pos hh] at hR
      simp [← hR]
    | true =>
      rw [if_neg (by simp [hh])] at hR
      simp [hi]
      refine SW.loopF (ι := { k : Nat // k ≤ i ∧ ∀ y ∈ (l.take i).take k, ¬ y.name = d.name }) (fun k => [(36, .d (.int .i64 k.1))]) (fun _ => [(2, .cells ((clC c).map .d)), (6, .cells ((dfC d).map .d)), (7, .cells ((mdC (mdOf c.mds d.name)).map .d))]) (fun _ => []) (fun k => i - k.1) ⟨0, by simp⟩ (by simp) ?_
      rintro ⟨k, hk2, hn⟩
      try simp only at hk2 hn
      by_cases hki : k < i
      · have hkl : k < l.length := by omega
        have hwk := wrap64s (show k < 9223372036854775807 by omega)
        have hmin : min i l.length = i := by omega
        simp [hki, hkl, hmin]
        by_cases he : l[k].name = d.name
        · have hex : d.name ∈ (l.take i).map (·.name) := name_in.2 ⟨l[k], List.mem_take_iff_getElem.2 ⟨k, by omega, rfl⟩, he⟩
          rw [if_pos hex] at hR
          simp [he, ← hR]
        · simp [he]
          exact Again.mk ⟨k + 1, hki, take2_no (M := fun y : Df => y.name = d.name) hkl hki hn he⟩ (by simp [hwk]) (by simp; omega)
      · have hki2 : k = i := by omega
        subst hki2
        have hno : ¬ d.name ∈ (l.take k).map (·.name) := fun h => by
          obtain ⟨y, h1, h2⟩ := name_in.1 h
          exact hn y (by rw [List.take_take, Nat.min_self]; exact h1) h2
        rw [if_neg hno] at hR
        have hmin : min k l.length = k := by omega
        simp [hmin]
        refine ⟨lexOk.mk (by kernel_rfl), ?_⟩
        try simp
        refine callK.mk ent_r25_params hpar ?_
        by_cases hp : (d.params.length : Int) = parN (mdOf c.mds d.name).ty
        · rw [if_neg (by simp [hp])] at hR
          simp [hp]
          exact Again.mk ⟨k + 1, hlt, hR⟩ (by simp [hw]) (by simp; omega)
        · rw [if_pos hp] at hR
          simp [hp, ← hR]
  · have hil : i = l.length := by omega
    subst hil
    rw [List.drop_length, dfE] at hR
    subst hR
    simp
    refine SW.loopF (ι := { i : Nat // i ≤ c.mds.length ∧ lackE l (c.mds.drop i) = L }) (fun i => [(57, .d (.int .i64 i.1))]) (fun _ => [(2, .cells ((clC c).map .d))]) (fun _ => []) (fun i => c.mds.length - i.1) ⟨0, by simp [hL]⟩ (by simp) ?_
    rintro ⟨i, hi2, hR⟩
    try simp only at hi2 hR
    by_cases hlt : i < c.mds.length
    · have hw := wrap64s (show i < 9223372036854775807 by omega)
      obtain ⟨y, hyx⟩ : ∃ y, c.mds[i] = y := ⟨_, rfl⟩
      rw [lackE_step hlt, hyx] at hR
      simp [hlt, hyx]
      refine SW.loopF (ι := { k : Nat // k ≤ l.length }) (fun k => [(13, .d (.bool (hasN l y.name k.1))), (63, .d (.int .i64 k.1))]) (fun _ => [(2, .cells ((clC c).map .d)), (12, .cells ((mdC y).map .d))]) (fun _ => []) (fun k => l.length - k.1) ⟨0, by simp⟩ (by simp [hasN]) ?_
      rintro ⟨k, hk2⟩
      try simp only at hk2
      by_cases hkl : k < l.length
      · have hwk := wrap64s (show k < 9223372036854775807 by omega)
        have hss := hasN_succ (nm := y.name) hkl
        cases hb : hasN l y.name k with
        | true =>
          rw [hb] at hss
          simp [hkl]
          exact Again.mk ⟨k + 1, hkl⟩ (by simp [hwk, hss]) (by simp; omega)
        | false =>
          rw [hb] at hss
          simp [hkl]
          exact Again.mk ⟨k + 1, hkl⟩ (by simp [hwk, hss]) (by simp; omega)
      · have hkk : k = l.length := by omega
        subst hkk
        have ha := hasN_all l y.name
        by_cases hin : y.name ∈ l.map (·.name)
        · rw [if_pos hin] at hR
          rw [decide_eq_true hin] at ha
          simp [ha]
          exact Again.mk ⟨i + 1, hlt, hR⟩ (by simp [hw]) (by simp; omega)
        · rw [if_neg hin] at hR
          rw [decide_eq_false hin] at ha
          simp [ha, ← hR]
    · have hil : i = c.mds.length := by omega
      subst hil
      rw [List.drop_length, lackE] at hR
      simp [← hR]
theorem ent_r25_instance : VM.Enters Tryd.prog 26 := VM.Enters.mk Tryd.func26 rfl
theorem r25_instance_cs (m : Mo) (hm : okMo m) (i : Nat) (hi : i < m.ins.length) : CS Tryd.prog G 26 [.agg (moC m), .int .i64 i] (.d (.int .i64 (inE m.cls (m.ins.take i) m.ins[i]))) none := by
  obtain ⟨E, hE⟩ : ∃ E, inE m.cls (m.ins.take i) m.ins[i] = E := ⟨_, rfl⟩
  rw [hE]
  rw [inE_eq] at hE
  obtain ⟨⟨hc, hin, hd⟩, hcl, hio, _⟩ := hm
  have hxo := hio m.ins[i] (List.getElem_mem hi)
  obtain ⟨x, hx⟩ : ∃ x, m.ins[i] = x := ⟨_, rfl⟩
  rw [hx] at hxo hE
  have hclo := clOf_mem (nm := x.cls) hcl okCl0
  have hcc := r25_class_cs (G := G) m x.cls hc
  have hdf := r25_definitions_cs (G := G) (clOf m.cls x.cls) x.defs hxo.2.1 hxo.2.2.2 hclo
  have hvt := r19_Vars_cs (G := G) x.ty hxo.2.2.1
  have hvl := varsT_len x.ty []
  simp only [List.length_nil, Nat.zero_add] at hvl
  obtain ⟨vs, hvs⟩ : ∃ vs, varsT x.ty [] = vs := ⟨_, rfl⟩
  have hle := Nat.le_of_lt hi
  rw [hvs] at hvt hvl hE
  simp at hcc hdf
  refine CS.of_VK Tryd.func26 rfl Tryd.ntmps26 rfl ?_
  simp [hi, hx]
  refine callK.mk ent_r25_class hcc ?_
  cases hh : clHas m.cls x.cls with
  | false =>
    rw [if_pos hh] at hE
    simp [← hE]
  | true =>
    rw [if_neg (by simp [hh])] at hE
    simp [hle]
    refine SW.loopF (ι := { j : Nat // j ≤ i ∧ ∀ y ∈ (m.ins.take i).take j, ¬ twin x y }) (fun j => [(31, .d (.int .i64 j.1))]) (fun _ => [(2, .cells ((moC m).map .d)), (5, .cells ((inC x).map .d)), (6, .cells ((clC (clOf m.cls x.cls)).map .d))]) (fun _ => []) (fun j => i - j.1) ⟨0, by simp⟩ (by simp) ?_
    rintro ⟨j, hj, hR⟩
    try simp only at hj hR
    by_cases hlt : j < i
    · have hjl : j < m.ins.length := by omega
      have hw := wrap64s (show j < 9223372036854775807 by omega)
      have hmin : min i m.ins.length = i := by omega
      simp [hlt, hjl, hmin]
      by_cases h1 : m.ins[j].cls = x.cls
      · simp [h1]
        by_cases h2 : m.ins[j].ty.op = x.ty.op
        · simp [h2]
          by_cases h3 : m.ins[j].ty.name = x.ty.name
          · have hex : ∃ y ∈ m.ins.take i, twin x y := ⟨m.ins[j], List.mem_take_iff_getElem.2 ⟨j, by omega, rfl⟩, h1, h2, h3⟩
            rw [if_pos hex] at hE
            simp [h3, ← hE]
          · simp [h3]
            exact Again.mk ⟨j + 1, hlt, twin_step hjl hlt hR (fun h => h3 h.2.2)⟩ (by simp [hw]) (by simp; omega)
        · simp [h2]
          exact Again.mk ⟨j + 1, hlt, twin_step hjl hlt hR (fun h => h2 h.2.1)⟩ (by simp [hw]) (by simp; omega)
      · simp [h1]
        exact Again.mk ⟨j + 1, hlt, twin_step hjl hlt hR (fun h => h1 h.1)⟩ (by simp [hw]) (by simp; omega)
    · have hji : j = i := by omega
      subst hji
      have hno : ¬ ∃ y ∈ m.ins.take j, twin x y := by
        rintro ⟨y, h1, h2⟩
        exact hR y (by rw [List.take_take, Nat.min_self]; exact h1) h2
      rw [if_neg hno] at hE
      have hmin : min j m.ins.length = j := by omega
      obtain ⟨N, hN⟩ : ∃ N, needsE m.cls vs x.needs = N := ⟨_, rfl⟩
      rw [hN] at hE
      simp [hmin]
      refine SW.loopF (ι := { k : Nat // k ≤ x.needs.length ∧ needsE m.cls vs (x.needs.drop k) = N }) (fun k => [(62, .d (.int .i64 k.1))]) (fun _ => [(2, .cells ((moC m).map .d)), (5, .cells ((inC x).map .d)), (6, .cells ((clC (clOf m.cls x.cls)).map .d))]) (fun _ => []) (fun k => x.needs.length - k.1) ⟨0, by simp [hN]⟩ (by simp) ?_
      rintro ⟨k, hk, hQ⟩
      try simp only at hk hQ
      by_cases hkl : k < x.needs.length
      · have hw := wrap64s (show k < 9223372036854775807 by have := hxo.1; omega)
        have hcn := r25_known_cs (G := G) m x.needs[k].1 hc
        have hco := r4_Find_cs (G := G) vs x.needs[k].2 (by have := hxo.2.2.1; omega)
        have hfn := find_negC x.needs[k].2 vs
        rw [needsE_step hkl] at hQ
        simp at hcn
        simp [hkl]
        refine callK.mk ent_r25_known hcn ?_
        cases hh2 : clHas m.cls x.needs[k].1 with
        | false =>
          rw [if_pos hh2] at hQ
          rw [← hQ, if_pos (by simp)] at hE
          simp [← hE]
        | true =>
          rw [if_neg (by simp [hh2])] at hQ
          simp
          refine ⟨lexOk.mk (by kernel_rfl), ?_⟩
          try simp
          refine callK.mk ent_r19_Vars hvt ?_
          simp
          refine callK.mk ent_r4_Find hco ?_
          by_cases hin : x.needs[k].2 ∈ vs
          · have h0 : ¬ findI x.needs[k].2 vs 0 < 0 := fun h => hfn.1 h hin
            rw [if_pos hin] at hQ
            simp [h0]
            exact Again.mk ⟨k + 1, hkl, hQ⟩ (by simp [hw]) (by simp; omega)
          · have h0 : findI x.needs[k].2 vs 0 < 0 := hfn.2 hin
            rw [if_neg hin] at hQ
            rw [← hQ, if_pos (by simp)] at hE
            simp [h0, ← hE]
      · have hkk : k = x.needs.length := by omega
        subst hkk
        rw [List.drop_length, needsE] at hQ
        rw [← hQ, if_neg (by simp)] at hE
        simp
        refine callK.mk ent_r25_definitions hdf ?_
        simp [hE]
theorem ent_r25_Check : VM.Enters Tryd.prog 8 := VM.Enters.mk Tryd.func8 rfl
theorem r25_Check_cs (m : Mo) (hm : okMo m) : CS Tryd.prog G 8 [.agg (moC m)] (.d (.int .i64 (checkM m))) none := by
  have hm0 := hm
  obtain ⟨⟨hc, hin, hd⟩, hcl, hio, hdo⟩ := hm
  obtain ⟨F, hF⟩ : ∃ F, formsE m.cls = F := ⟨_, rfl⟩
  obtain ⟨I, hI⟩ : ∃ I, insE m.cls [] m.ins = I := ⟨_, rfl⟩
  obtain ⟨S, hS⟩ : ∃ S, sigE m.cls m.defs = S := ⟨_, rfl⟩
  unfold checkM
  rw [hF, hI, hS]
  refine CS.of_VK Tryd.func8 rfl Tryd.ntmps8 rfl ?_
  simp
  refine SW.loopF (ι := { i : Nat // i ≤ m.cls.length ∧ formsE (m.cls.drop i) = F }) (fun i => [(16, .d (.int .i64 i.1))]) (fun _ => [(1, .cells ((moC m).map .d))]) (fun _ => []) (fun i => m.cls.length - i.1) ⟨0, by simp [hF]⟩ (by simp) ?_
  rintro ⟨i, hi, hR⟩
  try simp only at hi hR
  by_cases hlt : i < m.cls.length
  · have hw := wrap64s (show i < 9223372036854775807 by omega)
    obtain ⟨c, hcx⟩ : ∃ c, m.cls[i] = c := ⟨_, rfl⟩
    have hco := hcl m.cls[i] (List.getElem_mem hlt)
    rw [formsE_step hlt] at hR
    rw [hcx] at hR hco
    simp [hlt, hcx]
    refine SW.loopF (ι := { k : Nat // k ≤ c.mds.length ∧ ∀ y ∈ c.mds.take k, ¬ c.var ∉ varsT y.ty [] }) (fun k => [(23, .d (.int .i64 k.1))]) (fun _ => [(1, .cells ((moC m).map .d)), (4, .cells ((clC c).map .d))]) (fun _ => []) (fun k => c.mds.length - k.1) ⟨0, by simp⟩ (by simp) ?_
    rintro ⟨k, hk, hn⟩
    try simp only at hk hn
    by_cases hkl : k < c.mds.length
    · have hwk := wrap64s (show k < 9223372036854775807 by have := hco.1; omega)
      have hnk := hco.2 c.mds[k] (List.getElem_mem hkl)
      have hvt := r19_Vars_cs (G := G) c.mds[k].ty hnk
      have hvl := varsT_len c.mds[k].ty []
      simp only [List.length_nil, Nat.zero_add] at hvl
      have hcs := r4_Find_cs (G := G) (varsT c.mds[k].ty []) c.var (by omega)
      have hfn := find_negC c.var (varsT c.mds[k].ty [])
      simp [hkl]
      refine ⟨lexOk.mk (by kernel_rfl), ?_⟩
      try simp
      refine callK.mk ent_r19_Vars hvt ?_
      simp
      refine callK.mk ent_r4_Find hcs ?_
      by_cases hv : c.var ∈ varsT c.mds[k].ty []
      · have h0 : ¬ findI c.var (varsT c.mds[k].ty []) 0 < 0 := fun h => hfn.1 h hv
        simp [h0]
        exact Again.mk ⟨k + 1, hkl, take_no (M := fun y : Md => c.var ∉ varsT y.ty []) hkl hn (by simp [hv])⟩ (by simp [hwk]) (by simp; omega)
      · have h0 : findI c.var (varsT c.mds[k].ty []) 0 < 0 := hfn.2 hv
        rw [if_pos (badFm_t ⟨_, List.getElem_mem hkl, hv⟩)] at hR
        simp [h0, ← hR]
    · have hkk : k = c.mds.length := by omega
      subst hkk
      rw [List.take_length] at hn
      rw [if_neg (by rw [badFm_f hn]; simp)] at hR
      simp
      exact Again.mk ⟨i + 1, hlt, hR⟩ (by simp [hw]) (by simp; omega)
  have hil : i = m.cls.length := by omega
  subst hil
  rw [List.drop_length, formsE] at hR
  subst hR
  simp
  refine SW.loopF (ι := { i : Nat // i ≤ m.ins.length ∧ insE m.cls (m.ins.take i) (m.ins.drop i) = I }) (fun i => [(39, .d (.int .i64 i.1))]) (fun _ => [(1, .cells ((moC m).map .d))]) (fun _ => []) (fun i => m.ins.length - i.1) ⟨0, by simp [hI]⟩ (by simp) ?_
  rintro ⟨i, hi2, hR⟩
  try simp only at hi2 hR
  by_cases hlt : i < m.ins.length
  · have hw := wrap64s (show i < 9223372036854775807 by omega)
    have hii := r25_instance_cs (G := G) m hm0 i hlt
    rw [insE_step hlt] at hR
    obtain ⟨e, he⟩ : ∃ e, inE m.cls (m.ins.take i) m.ins[i] = e := ⟨_, rfl⟩
    rw [he] at hR hii
    simp at hii
    simp [hlt]
    refine callK.mk ent_r25_instance hii ?_
    by_cases h0 : e = 0
    · rw [if_neg (by simp [h0])] at hR
      simp [h0]
      exact Again.mk ⟨i + 1, hlt, hR⟩ (by simp [hw]) (by simp; omega)
    · rw [if_pos h0] at hR
      subst hR
      simp [h0]
  have hil : i = m.ins.length := by omega
  subst hil
  rw [List.drop_length, insE] at hR
  subst hR
  simp
  refine SW.loopF (ι := { i : Nat // i ≤ m.defs.length ∧ sigE m.cls (m.defs.drop i) = S }) (fun i => [(52, .d (.int .i64 i.1))]) (fun _ => [(1, .cells ((moC m).map .d))]) (fun _ => []) (fun i => m.defs.length - i.1) ⟨0, by simp [hS]⟩ (by simp) ?_
  rintro ⟨i, hi3, hR⟩
  try simp only at hi3 hR
  by_cases hlt : i < m.defs.length
  · have hw := wrap64s (show i < 9223372036854775807 by omega)
    obtain ⟨d, hdx⟩ : ∃ d, m.defs[i] = d := ⟨_, rfl⟩
    have hdd := hdo m.defs[i] (List.getElem_mem hlt)
    rw [sigE_step hlt] at hR
    rw [hdx] at hR hdd
    simp [hlt, hdx]
    refine SW.loopF (ι := { k : Nat // k ≤ d.needs.length ∧ ∀ y ∈ d.needs.take k, ¬ clHas m.cls y.1 = false }) (fun k => [(60, .d (.int .i64 k.1))]) (fun _ => [(1, .cells ((moC m).map .d)), (10, .cells ((dfC d).map .d))]) (fun _ => []) (fun k => d.needs.length - k.1) ⟨0, by simp⟩ (by simp) ?_
    rintro ⟨k, hk, hn⟩
    try simp only at hk hn
    by_cases hkl : k < d.needs.length
    · have hwk := wrap64s (show k < 9223372036854775807 by have := hdd.2; omega)
      have hcn := r25_known_cs (G := G) m d.needs[k].1 hc
      simp at hcn
      simp [hkl]
      refine callK.mk ent_r25_known hcn ?_
      cases hv : clHas m.cls d.needs[k].1 with
      | true =>
        simp
        exact Again.mk ⟨k + 1, hkl, take_no (M := fun y : Nd => clHas m.cls y.1 = false) hkl hn (by simp [hv])⟩ (by simp [hwk]) (by simp; omega)
      | false =>
        rw [if_pos (badSg_t ⟨_, List.getElem_mem hkl, hv⟩)] at hR
        simp [← hR]
    · have hkk : k = d.needs.length := by omega
      subst hkk
      rw [List.take_length] at hn
      rw [if_neg (by rw [badSg_f hn]; simp)] at hR
      simp
      exact Again.mk ⟨i + 1, hlt, hR⟩ (by simp [hw]) (by simp; omega)
  have hil : i = m.defs.length := by omega
  subst hil
  rw [List.drop_length, sigE] at hR
  simp [← hR]
end Go.Proofs.YtbacejmdgfalpaaDoor
