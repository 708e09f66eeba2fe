/- The check of an instance and of a module in the program; the walks. No condition. -/
import Derived.Test.YtbacejmdgfalpaaDoorKe
set_option linter.unusedVariables false
set_option linter.unusedSimpArgs false
set_option linter.unusedSectionVars false
namespace Go.Proofs.YtbacejmdgfalpaaDoor
open Go Go.VM
set_option maxRecDepth 100000
set_option maxHeartbeats 8000000
variable {G : GT}
def twin (x y : In) : Prop := y.cls = x.cls ∧ y.ty.op = x.ty.op ∧ y.ty.name = x.ty.name
instance (x y : In) : Decidable (twin x y) := inferInstanceAs (Decidable (_ ∧ _))
theorem inE_eq (cs : List Cl) (done : List In) (x : In) : inE cs done x = if clHas cs x.cls = false then 17 else if (∃ y ∈ done, twin x y) then 4
  else if needsE cs (varsT x.ty []) x.needs ≠ 0 then needsE cs (varsT x.ty []) x.needs else defsE (clOf cs x.cls) x.defs := by
  have h : (done.any fun y => decide (y.cls = x.cls ∧ y.ty.op = x.ty.op ∧ y.ty.name = x.ty.name)) = true ↔ ∃ y ∈ done, twin x y := by
    rw [List.any_eq_true]
    constructor
    · rintro ⟨y, h1, h2⟩; exact ⟨y, h1, of_decide_eq_true h2⟩
    · rintro ⟨y, h1, h2⟩; exact ⟨y, h1, decide_eq_true h2⟩
  unfold inE
  by_cases h1 : clHas cs x.cls = false
  · rw [if_pos h1, if_pos h1]
  · rw [if_neg h1, if_neg h1]
    by_cases h2 : ∃ y ∈ done, twin x y
    · rw [if_pos (h.2 h2), if_pos h2]
    · rw [if_neg (fun e => h2 (h.1 e)), if_neg h2]
theorem needsE_step {cs : List Cl} {vars : List Nm} {l : List Nd} {i : Nat} (h : i < l.length) : needsE cs vars (l.drop i) = if clHas cs l[i].1 = false then 17 else if l[i].2 ∈ vars then needsE cs vars (l.drop (i + 1)) else 5 := by
  rw [List.drop_eq_getElem_cons h, needsE]
theorem twin_step {l : List In} {x : In} {i j : Nat} (h : j < l.length) (hj : j < i) (hn : ∀ y ∈ (l.take i).take j, ¬ twin x y) (h1 : ¬ twin x l[j]) : ∀ y ∈ (l.take i).take (j + 1), ¬ twin x y := by
  intro y hy
  rw [List.take_take] at hn hy
  have e1 : min (j + 1) i = j + 1 := by omega
  have e2 : min j i = j := by omega
  rw [e2] at hn
  rw [e1, List.take_succ_eq_append_getElem h] at hy
  rcases List.mem_append.1 hy with hy | hy
  · exact hn y hy
  · rw [List.mem_singleton.1 hy]; exact h1
theorem ent_instance : Enters Tryd.prog 23 := Enters.mk Tryd.func23 rfl
theorem instance_cs (m : Mo) (hm : okMo m) (i : Nat) (hi : i < m.ins.length) : CS Tryd.prog G 23 [.agg (moC m), .int .i64 i] (.d (.int .i64 (inE m.cls (m.ins.take i) m.ins[i]))) none := by
  obtain ⟨E, hE⟩ : ∃ E, inE m.cls (m.ins.take i) m.ins[i] = E := ⟨_, rfl⟩
  rw [hE]
  rw [inE_eq] at hE
  obtain ⟨⟨hc, hin, hd⟩, hcl, hio, _⟩ := hm
  have hxo := hio m.ins[i] (List.getElem_mem hi)
  obtain ⟨x, hx⟩ : ∃ x, m.ins[i] = x := ⟨_, rfl⟩
  rw [hx] at hxo hE
  have hclo := clOf_mem (nm := x.cls) hcl okCl0
  have hcc := class_cs (G := G) m x.cls hc
  have hdf := defs_cs (G := G) m x (clOf m.cls x.cls) hxo hclo
  have hvt := types_Vars_cs (G := G) x.ty (by have := hxo.2.2.1; omega)
  have hvl := varsT_len x.ty []
  simp only [List.length_nil, Nat.zero_add] at hvl
  obtain ⟨vs, hvs⟩ : ∃ vs, varsT x.ty [] = vs := ⟨_, rfl⟩
  have hle := Nat.le_of_lt hi
  rw [hvs] at hvt hvl hE
  simp at hcc hdf
  refine CS.of_VK Tryd.func23 rfl Tryd.ntmps23 rfl ?_
  simp [hi, hx]
  refine callK.mk ent_class hcc ?_
  cases hh : clHas m.cls x.cls with
  | false =>
    rw [if_pos hh] at hE
    simp [← hE]
  | true =>
    rw [if_neg (by simp [hh])] at hE
    simp [hle]
    refine SW.loopF (ι := { j : Nat // j ≤ i ∧ ∀ y ∈ (m.ins.take i).take j, ¬ twin x y }) (fun j => [(39, .d (.int .i64 j.1))]) (fun _ => [(2, .cells ((moC m).map .d)), (5, .cells ((inC x).map .d)), (6, .cells ((clC (clOf m.cls x.cls)).map .d))]) (fun _ => []) (fun j => i - j.1) ⟨0, by simp⟩ (by simp) ?_
    rintro ⟨j, hj, hR⟩
    try simp only at hj hR
    by_cases hlt : j < i
    · have hjl : j < m.ins.length := by omega
      have hw := wrap64s (show j < 9223372036854775807 by omega)
      have hmin : min i m.ins.length = i := by omega
      simp [hlt, hjl, hmin]
      by_cases h1 : m.ins[j].cls = x.cls
      · simp [h1]
        by_cases h2 : m.ins[j].ty.op = x.ty.op
        · simp [h2]
          by_cases h3 : m.ins[j].ty.name = x.ty.name
          · have hex : ∃ y ∈ m.ins.take i, twin x y := ⟨m.ins[j], List.mem_take_iff_getElem.2 ⟨j, by omega, rfl⟩, h1, h2, h3⟩
            rw [if_pos hex] at hE
            simp [h3, ← hE]
          · simp [h3]
            exact Again.mk ⟨j + 1, hlt, twin_step hjl hlt hR (fun h => h3 h.2.2)⟩ (by simp [hw]) (by simp; omega)
        · simp [h2]
          exact Again.mk ⟨j + 1, hlt, twin_step hjl hlt hR (fun h => h2 h.2.1)⟩ (by simp [hw]) (by simp; omega)
      · simp [h1]
        exact Again.mk ⟨j + 1, hlt, twin_step hjl hlt hR (fun h => h1 h.1)⟩ (by simp [hw]) (by simp; omega)
    · have hji : j = i := by omega
      subst hji
      have hno : ¬ ∃ y ∈ m.ins.take j, twin x y := by
        rintro ⟨y, h1, h2⟩
        exact hR y (by rw [List.take_take, Nat.min_self]; exact h1) h2
      rw [if_neg hno] at hE
      have hmin : min j m.ins.length = j := by omega
      simp [hmin]
      refine callK.mk ent_types_Vars hvt ?_
      obtain ⟨N, hN⟩ : ∃ N, needsE m.cls vs x.needs = N := ⟨_, rfl⟩
      rw [hN] at hE
      simp
      refine SW.loopF (ι := { k : Nat // k ≤ x.needs.length ∧ needsE m.cls vs (x.needs.drop k) = N }) (fun k => [(73, .d (.int .i64 k.1))]) (fun _ => [(2, .cells ((moC m).map .d)), (5, .cells ((inC x).map .d)), (6, .cells ((clC (clOf m.cls x.cls)).map .d))]) (fun _ => []) (fun k => x.needs.length - k.1) ⟨0, by simp [hN]⟩ (by simp) ?_
      rintro ⟨k, hk, hQ⟩
      try simp only at hk hQ
      by_cases hkl : k < x.needs.length
      · have hw := wrap64s (show k < 9223372036854775807 by have := hxo.1; omega)
        have hcn := class_cs (G := G) m x.needs[k].1 hc
        have hco := containsS_cs (G := G) vs x.needs[k].2 (by have := hxo.2.2.1; omega)
        rw [needsE_step hkl] at hQ
        simp at hcn
        simp [hkl]
        refine callK.mk ent_class hcn ?_
        cases hh2 : clHas m.cls x.needs[k].1 with
        | false =>
          rw [if_pos hh2] at hQ
          rw [← hQ, if_pos (by simp)] at hE
          simp [← hE]
        | true =>
          rw [if_neg (by simp [hh2])] at hQ
          simp
          refine callK.mk ent_containsS hco ?_
          by_cases hin : x.needs[k].2 ∈ vs
          · rw [if_pos hin] at hQ
            simp [hin]
            exact Again.mk ⟨k + 1, hkl, hQ⟩ (by simp [hw]) (by simp; omega)
          · rw [if_neg hin] at hQ
            rw [← hQ, if_pos (by simp)] at hE
            simp [hin, ← hE]
      · have hkk : k = x.needs.length := by omega
        subst hkk
        rw [List.drop_length, needsE] at hQ
        rw [← hQ, if_neg (by simp)] at hE
        simp
        refine callK.mk ent_defs hdf ?_
        simp [hE]
/-! ### A module -/
def badFm (c : Cl) : Bool := c.mds.any fun x => decide (c.var ∉ varsT x.ty [])
def badSg (cs : List Cl) (d : Df) : Bool := d.needs.any fun n => decide (clHas cs n.1 = false)
theorem badFm_t {c : Cl} (h : ∃ x ∈ c.mds, c.var ∉ varsT x.ty []) : badFm c = true := by
  obtain ⟨x, h1, h2⟩ := h
  exact List.any_eq_true.2 ⟨x, h1, decide_eq_true h2⟩
theorem badFm_f {c : Cl} (h : ∀ y ∈ c.mds, ¬ c.var ∉ varsT y.ty []) : badFm c = false := by
  unfold badFm
  rw [List.any_eq_false]
  intro x hx
  have := h x hx
  simpa using this
theorem badSg_t {cs : List Cl} {d : Df} (h : ∃ n ∈ d.needs, clHas cs n.1 = false) : badSg cs d = true := by
  obtain ⟨x, h1, h2⟩ := h
  exact List.any_eq_true.2 ⟨x, h1, decide_eq_true h2⟩
theorem badSg_f {cs : List Cl} {d : Df} (h : ∀ y ∈ d.needs, ¬ clHas cs y.1 = false) : badSg cs d = false := by
  unfold badSg
  rw [List.any_eq_false]
  intro x hx
  have := h x hx
  simpa using this
theorem formsE_step {l : List Cl} {i : Nat} (h : i < l.length) : formsE (l.drop i) = if badFm l[i] = true then 6 else formsE (l.drop (i + 1)) := by
  rw [List.drop_eq_getElem_cons h, formsE]; rfl
theorem sigE_step {cs : List Cl} {l : List Df} {i : Nat} (h : i < l.length) : sigE cs (l.drop i) = if badSg cs l[i] = true then 17 else sigE cs (l.drop (i + 1)) := by
  rw [List.drop_eq_getElem_cons h, sigE]; rfl
theorem insE_step {cs : List Cl} {l : List In} {i : Nat} (h : i < l.length) : insE cs (l.take i) (l.drop i) = if inE cs (l.take i) l[i] ≠ 0 then inE cs (l.take i) l[i] else insE cs (l.take (i + 1)) (l.drop (i + 1)) := by
  rw [List.drop_eq_getElem_cons h, insE, List.take_succ_eq_append_getElem h]
theorem take_no {α : Type} {M : α → Prop} {l : List α} {j : Nat} (h : j < l.length) (hn : ∀ y ∈ l.take j, ¬ M y) (h1 : ¬ M l[j]) : ∀ y ∈ l.take (j + 1), ¬ M y := by
  intro y hy
  rw [List.take_succ_eq_append_getElem h] at hy
  rcases List.mem_append.1 hy with hy | hy
  · exact hn y hy
  · rw [List.mem_singleton.1 hy]; exact h1
theorem ent_classes_Check : VM.Enters Tryd.prog 7 := VM.Enters.mk Tryd.func7 rfl
theorem classes_Check_cs (m : Mo) (hm : okMo m) : CS Tryd.prog G 7 [.agg (moC m)] (.d (.int .i64 (checkM m))) none := by
  have hm0 := hm
  obtain ⟨⟨hc, hin, hd⟩, hcl, hio, hdo⟩ := hm
  obtain ⟨F, hF⟩ : ∃ F, formsE m.cls = F := ⟨_, rfl⟩
  obtain ⟨I, hI⟩ : ∃ I, insE m.cls [] m.ins = I := ⟨_, rfl⟩
  obtain ⟨S, hS⟩ : ∃ S, sigE m.cls m.defs = S := ⟨_, rfl⟩
  unfold checkM
  rw [hF, hI, hS]
  refine CS.of_VK Tryd.func7 rfl Tryd.ntmps7 rfl ?_
  simp
  refine SW.loopF (ι := { i : Nat // i ≤ m.cls.length ∧ formsE (m.cls.drop i) = F }) (fun i => [(22, .d (.int .i64 i.1))]) (fun _ => [(1, .cells ((moC m).map .d)), (3, .cells ((moC m).map .d))]) (fun _ => []) (fun i => m.cls.length - i.1) ⟨0, by simp [hF]⟩ (by simp) ?_
  rintro ⟨i, hi, hR⟩
  try simp only at hi hR
  by_cases hlt : i < m.cls.length
  · have hw := wrap64s (show i < 9223372036854775807 by omega)
    obtain ⟨c, hcx⟩ : ∃ c, m.cls[i] = c := ⟨_, rfl⟩
    have hco := hcl m.cls[i] (List.getElem_mem hlt)
    rw [formsE_step hlt] at hR
    rw [hcx] at hR hco
    simp [hlt, hcx]
    refine SW.loopF (ι := { k : Nat // k ≤ c.mds.length ∧ ∀ y ∈ c.mds.take k, ¬ c.var ∉ varsT y.ty [] }) (fun k => [(29, .d (.int .i64 k.1))]) (fun _ => [(1, .cells ((moC m).map .d)), (3, .cells ((moC m).map .d)), (5, .cells ((clC c).map .d))]) (fun _ => []) (fun k => c.mds.length - k.1) ⟨0, by simp⟩ (by simp) ?_
    rintro ⟨k, hk, hn⟩
    try simp only at hk hn
    by_cases hkl : k < c.mds.length
    · have hwk := wrap64s (show k < 9223372036854775807 by have := hco.1; omega)
      have hnk := hco.2 c.mds[k] (List.getElem_mem hkl)
      have hvt := types_Vars_cs (G := G) c.mds[k].ty (by omega)
      have hvl := varsT_len c.mds[k].ty []
      simp only [List.length_nil, Nat.zero_add] at hvl
      have hcs := containsS_cs (G := G) (varsT c.mds[k].ty []) c.var (by omega)
      simp [hkl]
      refine ⟨lexOk.mk (by kernel_rfl), ?_⟩
      try simp
      refine callK.mk ent_types_Vars hvt ?_
      simp
      refine callK.mk ent_containsS hcs ?_
      by_cases hv : c.var ∈ varsT c.mds[k].ty []
      · simp [hv]
        exact Again.mk ⟨k + 1, hkl, take_no (M := fun y : Md => c.var ∉ varsT y.ty []) hkl hn (by simp [hv])⟩ (by simp [hwk]) (by simp; omega)
      · rw [if_pos (badFm_t ⟨_, List.getElem_mem hkl, hv⟩)] at hR
        simp [hv, ← hR]
    · have hkk : k = c.mds.length := by omega
      subst hkk
      rw [List.take_length] at hn
      rw [if_neg (by rw [badFm_f hn]; simp)] at hR
      simp
      exact Again.mk ⟨i + 1, hlt, hR⟩ (by simp [hw]) (by simp; omega)
  have hil : i = m.cls.length := by omega
  subst hil
  rw [List.drop_length, formsE] at hR
  subst hR
  simp
  refine SW.loopF (ι := { i : Nat // i ≤ m.ins.length ∧ insE m.cls (m.ins.take i) (m.ins.drop i) = I }) (fun i => [(45, .d (.int .i64 i.1))]) (fun _ => [(1, .cells ((moC m).map .d)), (3, .cells ((moC m).map .d))]) (fun _ => []) (fun i => m.ins.length - i.1) ⟨0, by simp [hI]⟩ (by simp) ?_
  rintro ⟨i, hi2, hR⟩
  try simp only at hi2 hR
  by_cases hlt : i < m.ins.length
  · have hw := wrap64s (show i < 9223372036854775807 by omega)
    have hii := instance_cs (G := G) m hm0 i hlt
    rw [insE_step hlt] at hR
    obtain ⟨e, he⟩ : ∃ e, inE m.cls (m.ins.take i) m.ins[i] = e := ⟨_, rfl⟩
    rw [he] at hR hii
    simp at hii
    simp [hlt]
    refine callK.mk ent_instance hii ?_
    by_cases h0 : e = 0
    · rw [if_neg (by simp [h0])] at hR
      simp [h0]
      exact Again.mk ⟨i + 1, hlt, hR⟩ (by simp [hw]) (by simp; omega)
    · rw [if_pos h0] at hR
      subst hR
      simp [h0]
  have hil : i = m.ins.length := by omega
  subst hil
  rw [List.drop_length, insE] at hR
  subst hR
  simp
  refine SW.loopF (ι := { i : Nat // i ≤ m.defs.length ∧ sigE m.cls (m.defs.drop i) = S }) (fun i => [(58, .d (.int .i64 i.1))]) (fun _ => [(1, .cells ((moC m).map .d)), (3, .cells ((moC m).map .d))]) (fun _ => []) (fun i => m.defs.length - i.1) ⟨0, by simp [hS]⟩ (by simp) ?_
  rintro ⟨i, hi3, hR⟩
  try simp only at hi3 hR
  by_cases hlt : i < m.defs.length
  · have hw := wrap64s (show i < 9223372036854775807 by omega)
    obtain ⟨d, hdx⟩ : ∃ d, m.defs[i] = d := ⟨_, rfl⟩
    have hdd := hdo m.defs[i] (List.getElem_mem hlt)
    rw [sigE_step hlt] at hR
    rw [hdx] at hR hdd
    simp [hlt, hdx]
    refine SW.loopF (ι := { k : Nat // k ≤ d.needs.length ∧ ∀ y ∈ d.needs.take k, ¬ clHas m.cls y.1 = false }) (fun k => [(66, .d (.int .i64 k.1))]) (fun _ => [(1, .cells ((moC m).map .d)), (3, .cells ((moC m).map .d)), (11, .cells ((dfC d).map .d))]) (fun _ => []) (fun k => d.needs.length - k.1) ⟨0, by simp⟩ (by simp) ?_
    rintro ⟨k, hk, hn⟩
    try simp only at hk hn
    by_cases hkl : k < d.needs.length
    · have hwk := wrap64s (show k < 9223372036854775807 by have := hdd.2; omega)
      have hcn := class_cs (G := G) m d.needs[k].1 hc
      simp at hcn
      simp [hkl]
      refine callK.mk ent_class hcn ?_
      cases hv : clHas m.cls d.needs[k].1 with
      | true =>
        simp
        exact Again.mk ⟨k + 1, hkl, take_no (M := fun y : Nd => clHas m.cls y.1 = false) hkl hn (by simp [hv])⟩ (by simp [hwk]) (by simp; omega)
      | false =>
        rw [if_pos (badSg_t ⟨_, List.getElem_mem hkl, hv⟩)] at hR
        simp [← hR]
    · have hkk : k = d.needs.length := by omega
      subst hkk
      rw [List.take_length] at hn
      rw [if_neg (by rw [badSg_f hn]; simp)] at hR
      simp
      exact Again.mk ⟨i + 1, hlt, hR⟩ (by simp [hw]) (by simp; omega)
  have hil : i = m.defs.length := by omega
  subst hil
  rw [List.drop_length, sigE] at hR
  simp [← hR]
end Go.Proofs.YtbacejmdgfalpaaDoor
