/- Template: the closure that puts holes into a type. No condition. -/
import Derived.Test.YtmjpdmkgmlhfaaaDoorMd
set_option linter.unusedVariables false
set_option linter.unusedSimpArgs false
set_option linter.unusedSectionVars false
namespace Go.Proofs.YtmjpdmkgmlhfaaaDoor
open Go Go.VM
set_option maxRecDepth 100000
set_option maxHeartbeats 16000000
variable {G : GT}
theorem ent_new2 : VM.Enters Tryd.prog 40 := VM.Enters.mk Tryd.func40 rfl
theorem ent_new3 : VM.Enters Tryd.prog 44 := VM.Enters.mk Tryd.func44 rfl
/-- The boxes that the closures share. -/
def nwH (pre : Nm) (m : Mt) (hs : List Ho) : List (Nat × AObj) := [(100000, .cells [.d (.str pre)]), (100001, .cells [.d (.sl (hs.map hoC))]), (100002, .cells [.clo 44 [.ptr 100003 0, .ptr 100004 0, .ptr 100005 0]]), (100003, .cells [.clo 40 [.ptr 100002 0]]), (100004, .cells [.clo 37 [.ptr 100000 0, .ptr 100001 0]]), (100005, .cells ((mtC m).map .d))]
abbrev hoW : List (TypeId × List VM.Loc) := [(73, [.c 100001 0])]
abbrev keyW : List (Nat × Nat) := [(100000, 100000), (100001, 100001), (100002, 100002), (100003, 100003), (100004, 100004), (100005, 100005)]
theorem data_snoc {pre : Nm} {sc : List Vr} : ∀ (l : List Nm) (s : Nm) (ps : List Pr) (hs : List Ho), dataT pre sc (l ++ [s]) ps hs = ((dataT pre sc l ps hs).1 ++ [nextP pre (dataT pre sc l ps hs).2 s sc], nextH pre (dataT pre sc l ps hs).2 s sc)
  | [], s, ps, hs => rfl
  | x :: l, s, ps, hs => by
    rw [List.cons_append, dataT, data_snoc l s]
    rfl
theorem data_len1 {pre : Nm} {sc : List Vr} : ∀ (l : List Nm) (ps : List Pr) (hs : List Ho), (dataT pre sc l ps hs).1.length = ps.length + l.length
  | [], ps, hs => rfl
  | x :: l, ps, hs => by
    rw [dataT, data_len1 l]
    simp only [List.length_append, List.length_cons, List.length_nil]
    omega
/-- What Plain gives, as it is: without refinements the slices are nil. -/
theorem types_PlainR_cs (t : Ty) (hN : nodT t ≤ 900000000) : CS Tryd.prog G 45 [.agg (tyD t)] (.d (.agg [.int .i64 t.op, .str t.name, .sl ((plainTs t.args).map tyC), .nils, .int .i64 0, .str [], .int .i64 0, .nils, .nils])) none := by
  obtain ⟨op, nm, l, ns, p, ps⟩ := t
  simp only
  have hn := nodT_args ⟨op, nm, l, ns, p, ps⟩
  simp only at hn
  have hl := len_le_nodTs l
  have hm := plainT_eq ⟨op, nm, l, ns, p, ps⟩
  simp only at hm
  refine CS.of_VK Tryd.func45 rfl Tryd.ntmps45 rfl ?_
  simp
  refine SW.loopF (ι := { i : Nat // i ≤ l.length }) (fun i => [(14, .d (.int .i64 i.1))]) (fun i => [(1, .cells [.d (.int .i64 op), .d (.str nm), .d (.sl (l.map tyC)), .d (.sl (strs ns)), .d (.int .i64 p.op), .d (.str p.name), .d (.int .i64 p.n), .d (.sl (p.kids.map prC)), .d (.sl (ps.map prC))]), (2, .cells [.d (.int .i64 0), .d (.str []), .d .nils, .d .nils, .d (.int .i64 0), .d (.str []), .d (.int .i64 0), .d .nils, .d .nils]), (3, .cells [.d (.int .i64 op), .d (.str nm), .d (.sl (((l.take i.1).map plainT).map tyC)), .d .nils, .d (.int .i64 0), .d (.str []), .d (.int .i64 0), .d .nils, .d .nils])]) (fun _ => [(38, [.c 3 2])]) (fun i => l.length - i.1) ⟨0, by simp⟩ (by simp) ?_
  rintro ⟨i, hi⟩
  by_cases hlt : i < l.length
  · have hg := tys_get hlt
    have hw := wrap64s (show i < 9223372036854775807 by omega)
    have hs := map_step plainT hlt
    have h9 : ∀ (x : List D), x ∈ List.take i (List.map (tyC ∘ plainT) l) → x.length = 9 := fun x hx => by
      obtain ⟨t, _, rfl⟩ := List.mem_map.1 (List.mem_of_mem_take hx)
      simp
    have hs2 : List.take (i + 1) (List.map (tyC ∘ plainT) l) = List.take i (List.map (tyC ∘ plainT) l) ++ [tyD (plainT l[i])] := by
      have h := map_step (tyC ∘ plainT) hlt
      rw [List.map_take, List.map_take] at h
      rw [h]
      exact congrArg (fun x => List.take i (List.map (tyC ∘ plainT) l) ++ [x]) (tyC_eq (plainT l[i]))
    have hb2 := nodTs_step hlt
    have hb3 := nodTs_take_le l (i + 1)
    simp [hlt, hg]
    refine ⟨lexOk.mk (by kernel_rfl), ?_⟩
    refine callK.mk ent_types_Plain (types_Plain_cs l[i] (by omega)) ?_
    simp
    refine stepK_len ⟨h9, by omega⟩ ?_
    simp
    exact Again.mk ⟨i + 1, hlt⟩ (by simp [hw, hs, hs2]) (by simp; omega)
  · have : i = l.length := by omega
    subst this
    simp [plainTs_eq]
/-- The frame of the loop over a data type's predicates. -/
def v3H (nm : Nm) (l : List Ty) (ns : List Nm) (p : Pr) (ps : List Pr) (np : Pr) (P1 : List Pr) (d : Da) (pre : Nm) (m : Mt) (H1 : List Ho) : List (Nat × AObj) := [(5, .cells [.d (.int .i64 4), .d (.str nm), .d (.sl (l.map tyC)), .d (.sl (strs ns)), .d (.int .i64 p.op), .d (.str p.name), .d (.int .i64 p.n), .d (.sl (p.kids.map prC)), .d (.sl (ps.map prC))]),
        (7, .cells [.d (.int .i64 0), .d (.str []), .d .nils, .d .nils, .d (.int .i64 0), .d (.str []), .d (.int .i64 0), .d .nils, .d .nils]),
        (8, .cells [.d (.int .i64 4), .d (.str nm), .d (.sl ((plainTs l).map tyC)), .d (.sl []), .d (.int .i64 np.op), .d (.str np.name), .d (.int .i64 np.n), .d (.sl (np.kids.map prC)), .d (.sl (P1.map prC))]),
        (11, .cells [.d (.str d.name), .d d.vars, .d (.sl (d.preds.map vrC)), .d d.cons])] ++ nwH pre m H1
/-- What the closure 'visit' does with a type. -/
def VisC (G : GT) (pre : Nm) (m : Mt) (t : Ty) : Prop := ∀ (sc : List Vr) (hs : List Ho), sc.length + nodT t ≤ 1000000 → hs.length + cntT sortB (datN m) t ≤ 1000000 →
  CH Tryd.prog G 44 ⟨[.d (.agg (tyD t)), .d (.sl (sc.map vrC)), .ptr 100003 0, .ptr 100004 0, .ptr 100005 0], nwH pre m hs, hoW⟩ ⟨[.d (.agg (tyD (visT sortB pre (datN m) t sc hs).1))], nwH pre m (visT sortB pre (datN m) t sc hs).2, hoW⟩
/-- What the closure 'function' does. -/
def FunC (G : GT) (pre : Nm) (m : Mt) (t : Ty) : Prop := ∀ (sc : List Vr) (hs : List Ho), sc.length + nodT t ≤ 1000000 → hs.length + cntT sortB (datN m) t ≤ 1000000 →
  CH Tryd.prog G 40 ⟨[.d (.agg (tyD t)), .d (.sl (sc.map vrC)), .ptr 100002 0], nwH pre m hs, hoW⟩ ⟨[.d (.agg (tyD (visT sortB pre (datN m) t sc hs).1))], nwH pre m (visT sortB pre (datN m) t sc hs).2, hoW⟩
theorem new3_ch (hG : G 0 = some kwCells) (hP : G 1 = some powCells) (pre : Nm) (m : Mt) (hpre : pre.length ≤ 2000000) (hml : m.datas.length ≤ 1000000) (t : Ty)
    (hf : t.op = 6 → t.args ≠ [] → FunC G pre m t) : VisC G pre m t := by
  intro sc hs hsc hhs
  by_cases hfun : t.op = 6 ∧ t.args ≠ []
  · have hc := hf hfun.1 hfun.2 sc hs hsc hhs
    obtain ⟨op, nm, l, ns, p, ps⟩ := t
    simp only at hfun
    obtain ⟨rfl, hl⟩ := hfun
    refine CH.of_VK Tryd.func44 rfl Tryd.ntmps44 rfl (by simp) ?_
    have h0 : 0 < l.length := List.length_pos_iff.2 hl
    simp [nwH, mtC, h0]
    refine callHK.mk ent_new2 hc keyW (by simp [nwH, mtC]) (by simp) (by simp [nwH, mtC]) (by simp; rfl) (by simp) ?_
    simp [nwH, mtC]
  · have hpl := types_Plain_cs (G := G) t (by omega)
    have hlog := t_logical_cs hG t
    have hdat := t_Data_cs (G := G) m t.name hml
    have hlq := logR_eq t
    obtain ⟨op, nm, l, ns, p, ps⟩ := t
    simp only at hfun hdat
    have hvN : logT sortB ⟨op, nm, l, ns, p, ps⟩ = none → visT sortB pre (datN m) ⟨op, nm, l, ns, p, ps⟩ sc hs = (⟨op, nm, plainTs l, [], zeroP, []⟩, hs) := fun h => by rw [visT, if_neg hfun, h]
    have hvS : ∀ s, logT sortB ⟨op, nm, l, ns, p, ps⟩ = some s → visT sortB pre (datN m) ⟨op, nm, l, ns, p, ps⟩ sc hs = (⟨op, nm, plainTs l, [], nextP pre hs s sc, (dataT pre sc (if op = 4 then datN m nm else []) [] (nextH pre hs s sc)).1⟩, (dataT pre sc (if op = 4 then datN m nm else []) [] (nextH pre hs s sc)).2) := fun s h => by rw [visT, if_neg hfun, h]
    have hlq' : logT sortB ⟨op, nm, l, ns, p, ps⟩ = if (logR ⟨op, nm, l, ns, p, ps⟩).2 = true then some (logR ⟨op, nm, l, ns, p, ps⟩).1 else none := hlq
    obtain ⟨s, hs0⟩ : ∃ s, (logR ⟨op, nm, l, ns, p, ps⟩).1 = s := ⟨_, rfl⟩
    rw [hs0] at hlog hlq'
    rw [plainT] at hpl
    have hplE := plainTs_eq l
    by_cases h6 : op = 6
    · subst h6
      have hl : l = [] := by simpa using hfun
      subst hl
      have h2 : (logR ⟨6, nm, [], ns, p, ps⟩).2 = false := by simp [logR, ofT]
      rw [h2] at hlog hlq'
      have hv := hvN hlq'
      refine CH.of_VK Tryd.func44 rfl Tryd.ntmps44 rfl (by simp) ?_
      simp [nwH, mtC]
      refine callK.mk ent_types_Plain hpl ?_
      simp [plainTs, zeroP]
      refine callK.mk ent_template_logical hlog ?_
      simp [hv, plainTs, zeroP]
    cases h2 : (logR ⟨op, nm, l, ns, p, ps⟩).2
    · rw [h2] at hlog hlq'
      have hv := hvN hlq'
      refine CH.of_VK Tryd.func44 rfl Tryd.ntmps44 rfl (by simp) ?_
      simp [nwH, mtC, h6]
      refine callK.mk ent_types_Plain hpl ?_
      simp [zeroP]
      refine callK.mk ent_template_logical hlog ?_
      simp [hv, zeroP]
    rw [h2] at hlog hlq'
    have hv := hvS s hlq'
    have hnx := new1_ch hP pre s sc hs hpre (by omega) (by omega)
    by_cases hno : op = 4 ∧ (datF m.datas nm).isSome = true
    · obtain ⟨rfl, hsome⟩ := hno
      have hplr := types_PlainR_cs (G := G) ⟨4, nm, l, ns, p, ps⟩ (by omega)
      simp only at hplr
      obtain ⟨d, hdd⟩ := Option.isSome_iff_exists.1 hsome
      rw [hdd] at hdat
      have hdn : datN m nm = d.preds.map (·.2) := by simp [datN, hdd]
      rw [if_pos rfl, hdn] at hv
      refine CH.of_SW Tryd.func44 rfl Tryd.ntmps44 rfl (by simp) ?_
      refine SW.seqq (SW.vk ?_)
      simp [nwH, mtC, h6]
      refine SW.seqq (SW.vk ?_)
      simp
      refine SW.seqq (SW.vk ?_)
      simp
      refine callK.mk ent_types_Plain hplr ?_
      simp [zeroP]
      refine SW.seqq (SW.vk ?_)
      simp
      refine callK.mk ent_template_logical hlog ?_
      simp
      refine SW.seqq (SW.vk ?_)
      simp
      refine SW.seqq (SW.vk ?_)
      simp
      refine callHK.mk ent_new1 hnx [(100000, 100000), (100001, 100001)] (by simp [nxH]) (by simp) (by simp [nxH]) (by simp; rfl) (by simp) ?_
      simp [nxH]
      refine SW.seqq (SW.vk ?_)
      simp
      refine callK.mk ent_syntax_Data hdat ?_
      simp [datC, daC]
      have hpl1 : d.preds.length ≤ 1000000 ∧ hs.length + 1 + d.preds.length ≤ 1000000 := by
        have : cntT sortB (datN m) ⟨4, nm, l, ns, p, ps⟩ = 1 + d.preds.length := by
          rw [cntT]
          simp [hlq', hdn]
        omega
      have hdl : ∀ i, i ≤ d.preds.length → (dataT pre sc ((d.preds.map (·.2)).take i) [] (nextH pre hs s sc)).2.length = hs.length + 1 + i := fun i hi => by
        rw [data_len]
        simp [nextH]
        omega
      refine SW.loopZ (ι := { i : Nat // i ≤ d.preds.length }) (fun i => [(59, .d (.int .i64 i.1))]) (fun i => v3H nm l ns p ps (nextP pre hs s sc) (dataT pre sc ((d.preds.map (·.2)).take i.1) [] (nextH pre hs s sc)).1 d pre m (dataT pre sc ((d.preds.map (·.2)).take i.1) [] (nextH pre hs s sc)).2) (fun _ => [(36, [.c 8 8]), (73, [.c 100001 0])]) (fun i => d.preds.length - i.1) ⟨0, by simp⟩ (by simp [v3H, nwH, mtC, dataT]) ?_
      rintro ⟨i, hi⟩
      obtain ⟨P1, H1, hPH⟩ : ∃ P1 H1, dataT pre sc ((d.preds.map (·.2)).take i) [] (nextH pre hs s sc) = (P1, H1) := ⟨_, _, rfl⟩
      have hHl := hdl i hi
      have hPl : (dataT pre sc ((d.preds.map (·.2)).take i) [] (nextH pre hs s sc)).1.length = i := by rw [data_len1]; simp; omega
      simp only [hPH] at hHl hPl ⊢
      by_cases hlt : i < d.preds.length
      · have hg := vrs_get hlt
        have hw := wrap64s (show i < 9223372036854775807 by omega)
        have hst : dataT pre sc ((d.preds.map (·.2)).take (i + 1)) [] (nextH pre hs s sc) = (P1 ++ [nextP pre H1 d.preds[i].2 sc], nextH pre H1 d.preds[i].2 sc) := by
          rw [List.take_succ_eq_append_getElem (by simpa using hlt), data_snoc, hPH]
          simp
        have hnx2 := new1_ch (G := G) hP pre d.preds[i].2 sc H1 hpre (by omega) (by omega)
        refine SW.seqq (SW.vk ?_)
        simp [hlt, v3H, nwH, mtC]
        refine SW.seqq (SW.vk ?_)
        simp
        refine SW.cutF [] (v3H nm l ns p ps (nextP pre hs s sc) (P1 ++ [nextP pre H1 d.preds[i].2 sc]) d pre m (nextH pre H1 d.preds[i].2 sc)) [(36, [.c 8 8]), (73, [.c 100001 0])] (SW.blockq (SW.seqq (SW.vk ?_))) ?_
        · simp [hlt, hg]
          refine SW_imp 6 [2, 3, 4, 5] (stdOrd 0 1 [7, 8, 9, 10]) (by kernel_rfl) (by kernel_rfl) ?_
          simp
          refine ⟨⟨?_, ?_⟩, ?_⟩
          all_goals
            refine callHK.mk ent_new1 hnx2 [(100000, 100000), (100001, 100001)] (by simp [nxH]) (by simp) (by simp [nxH]) (by simp; rfl) (by simp) ?_
            simp [nxH]
            refine stepK_len (by omega) ?_
            simp [v3H, nwH, mtC]
        · refine SW.vk ?_
          simp [v3H, nwH, mtC]
          exact Again.mk ⟨i + 1, hlt⟩ (by simp [hw, hst, v3H, nwH, mtC]) (by simp; omega)
      · have hil : i = d.preds.length := by omega
        subst hil
        have hE : (dataT pre sc (d.preds.map (·.2)) [] (nextH pre hs s sc)) = (P1, H1) := by
          rw [← hPH, List.take_of_length_le (by simp)]
        rw [hE] at hv
        refine SW.vk ?_
        simp [v3H, nwH, mtC]
        refine SW.vk ?_
        simp [hv]
    · have hd0 : dataT pre sc (if op = 4 then datN m nm else []) [] (nextH pre hs s sc) = ([], nextH pre hs s sc) := by
        split
        · rename_i h4
          cases hdd : datF m.datas nm with
          | none => simp [datN, hdd, dataT]
          | some d => exact (hno ⟨h4, by rw [hdd]; rfl⟩).elim
        · rfl
      rw [hd0] at hv
      refine CH.of_VK Tryd.func44 rfl Tryd.ntmps44 rfl (by simp) ?_
      simp [nwH, mtC, h6]
      refine callK.mk ent_types_Plain hpl ?_
      simp [zeroP]
      refine callK.mk ent_template_logical hlog ?_
      simp
      refine callHK.mk ent_new1 hnx [(100000, 100000), (100001, 100001)] (by simp [nxH]) (by simp) (by simp [nxH]) (by simp; rfl) (by simp) ?_
      simp [nxH]
      refine callK.mk ent_syntax_Data hdat ?_
      cases hdd : datF m.datas nm with
      | none => simp [hdd, hv, datC, zeroP]
      | some d =>
        have h4 : ¬ op = 4 := fun e => hno ⟨e, by rw [hdd]; rfl⟩
        simp [hdd, hv, datC, daC, zeroP, h4]
end Go.Proofs.YtmjpdmkgmlhfaaaDoor
