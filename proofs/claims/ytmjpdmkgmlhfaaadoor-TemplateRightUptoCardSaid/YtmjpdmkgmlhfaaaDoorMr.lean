/- Template, the reference: a type that is no function. No condition. -/
import Derived.Test.YtmjpdmkgmlhfaaaDoorMq
set_option linter.unusedVariables false
set_option linter.unusedSimpArgs false
set_option linter.unusedSectionVars false
namespace Go.Proofs.YtmjpdmkgmlhfaaaDoor
open Go Go.VM
set_option maxRecDepth 100000
set_option maxHeartbeats 16000000
variable {G : GT}
theorem r19_PlainR_cs (t : Ty) (hN : nodT t ≤ 900000000) : CS Tryd.prog G 21 [.agg (tyD t)] (.d (.agg [.int .i64 t.op, .str t.name, .sl ((plainTs t.args).map tyC), .nils, .int .i64 0, .str [], .int .i64 0, .nils, .nils])) none := by
  obtain ⟨op, nm, l, ns, p, ps⟩ := t
  simp only
  have hn := nodT_args ⟨op, nm, l, ns, p, ps⟩
  simp only at hn
  have hl := len_le_nodTs l
  have hm := plainT_eq ⟨op, nm, l, ns, p, ps⟩
  simp only at hm
  refine CS.of_VK Tryd.func21 rfl Tryd.ntmps21 rfl ?_
  simp
  refine SW.loopF (ι := { i : Nat // i ≤ l.length }) (fun i => [(14, .d (.int .i64 i.1))]) (fun i => [(1, .cells [.d (.int .i64 op), .d (.str nm), .d (.sl (l.map tyC)), .d (.sl (strs ns)), .d (.int .i64 p.op), .d (.str p.name), .d (.int .i64 p.n), .d (.sl (p.kids.map prC)), .d (.sl (ps.map prC))]), (2, .cells [.d (.int .i64 0), .d (.str []), .d .nils, .d .nils, .d (.int .i64 0), .d (.str []), .d (.int .i64 0), .d .nils, .d .nils]), (3, .cells [.d (.int .i64 op), .d (.str nm), .d (.sl (((l.take i.1).map plainT).map tyC)), .d .nils, .d (.int .i64 0), .d (.str []), .d (.int .i64 0), .d .nils, .d .nils])]) (fun _ => [(38, [.c 3 2])]) (fun i => l.length - i.1) ⟨0, by simp⟩ (by simp) ?_
  rintro ⟨i, hi⟩
  by_cases hlt : i < l.length
  · have hg := tys_get hlt
    have hw := wrap64s (show i < 9223372036854775807 by omega)
    have hs := map_step plainT hlt
    have h9 : ∀ (x : List D), x ∈ List.take i (List.map (tyC ∘ plainT) l) → x.length = 9 := fun x hx => by
      obtain ⟨t, _, rfl⟩ := List.mem_map.1 (List.mem_of_mem_take hx)
      simp
    have hs2 : List.take (i + 1) (List.map (tyC ∘ plainT) l) = List.take i (List.map (tyC ∘ plainT) l) ++ [tyD (plainT l[i])] := by
      have h := map_step (tyC ∘ plainT) hlt
      rw [List.map_take, List.map_take] at h
      rw [h]
      exact congrArg (fun x => List.take i (List.map (tyC ∘ plainT) l) ++ [x]) (tyC_eq (plainT l[i]))
    have hb2 := nodTs_step hlt
    have hb3 := nodTs_take_le l (i + 1)
    simp [hlt, hg]
    refine ⟨lexOk.mk (by kernel_rfl), ?_⟩
    refine callK.mk ent_r19_Plain (r19_Plain_cs l[i] (by omega)) ?_
    simp
    refine stepK_len ⟨h9, by omega⟩ ?_
    simp
    exact Again.mk ⟨i + 1, hlt⟩ (by simp [hw, hs, hs2]) (by simp; omega)
  · have : i = l.length := by omega
    subst this
    simp [plainTs_eq]
theorem ent_typ : VM.Enters Tryd.prog 47 := VM.Enters.mk Tryd.func47 rfl
theorem ent_function : VM.Enters Tryd.prog 84 := VM.Enters.mk Tryd.func84 rfl
/-- What the reference does with a type. -/
def VisR (G : GT) (pre : Nm) (m : Mt) (t : Ty) : Prop := ∀ (sc : List Vr) (hs : List Ho), sc.length + nodT t ≤ 1000000 → hs.length + cntT sortB (datN m) t ≤ 1000000 →
  CH Tryd.prog G 47 ⟨[.ptr 100000 0, .d (.agg (tyD t)), .d (.sl (sc.map vrC))], mkH pre m hs, mkW⟩ ⟨[.d (.agg (tyD (visT sortB pre (datN m) t sc hs).1))], mkH pre m (visT sortB pre (datN m) t sc hs).2, mkW⟩
def FunR (G : GT) (pre : Nm) (m : Mt) (t : Ty) : Prop := ∀ (sc : List Vr) (hs : List Ho), sc.length + nodT t ≤ 1000000 → hs.length + cntT sortB (datN m) t ≤ 1000000 →
  CH Tryd.prog G 84 ⟨[.ptr 100000 0, .d (.agg (tyD t)), .d (.sl (sc.map vrC))], mkH pre m hs, mkW⟩ ⟨[.d (.agg (tyD (visT sortB pre (datN m) t sc hs).1))], mkH pre m (visT sortB pre (datN m) t sc hs).2, mkW⟩
def datG (m : Mt) (nm : Nm) : Da := (datF m.datas nm).getD ⟨[], .nils, [], .nils⟩
theorem datG_N (m : Mt) (nm : Nm) : datN m nm = (datG m nm).preds.map (·.2) := by
  unfold datN datG
  cases datF m.datas nm <;> rfl
/-- The frame of the loop over a data type's predicates. -/
def tyH (nm : Nm) (l : List Ty) (ns : List Nm) (p : Pr) (ps : List Pr) (np : Pr) (P1 : List Pr) (d : Da) (pre : Nm) (m : Mt) (H1 : List Ho) : List (Nat × AObj) := [(4, .cells [.d (.int .i64 4), .d (.str nm), .d (.sl (l.map tyC)), .d (.sl (strs ns)), .d (.int .i64 p.op), .d (.str p.name), .d (.int .i64 p.n), .d (.sl (p.kids.map prC)), .d (.sl (ps.map prC))]),
        (6, .cells [.d (.int .i64 0), .d (.str []), .d .nils, .d .nils, .d (.int .i64 0), .d (.str []), .d (.int .i64 0), .d .nils, .d .nils]),
        (7, .cells [.d (.int .i64 4), .d (.str nm), .d (.sl ((plainTs l).map tyC)), .d (.sl []), .d (.int .i64 np.op), .d (.str np.name), .d (.int .i64 np.n), .d (.sl (np.kids.map prC)), .d (.sl (P1.map prC))]),
        (10, .cells [.d (.str d.name), .d d.vars, .d (.sl (d.preds.map vrC)), .d d.cons])] ++ mkH pre m H1
theorem typ_ch (pre : Nm) (m : Mt) (hpre : pre.length ≤ 2000000) (hml : m.datas.length ≤ 1000000) (t : Ty) (hf : t.op = 6 → FunR G pre m t) : VisR G pre m t := by
  intro sc hs hsc hhs
  by_cases hfun : t.op = 6
  · have hc := hf hfun sc hs hsc hhs
    obtain ⟨op, nm, l, ns, p, ps⟩ := t
    simp only at hfun
    subst hfun
    refine CH.of_VK Tryd.func47 rfl Tryd.ntmps47 rfl (by simp) ?_
    simp [mkH, mtC]
    refine callHK.mk ent_function hc [(100000, 100000)] (by simp [mkH, mtC]) (by simp) (by simp [mkH, mtC]) (by simp; rfl) (by simp) ?_
    simp [mkH, mtC]
  · have hpl := r19_Plain_cs (G := G) t (by omega)
    have hlog := r37_logical_cs (G := G) t
    have hdat := r20_Data_cs (G := G) m t.name hml
    obtain ⟨op, nm, l, ns, p, ps⟩ := t
    simp only at hfun hdat
    have hnf : ¬ (op = 6 ∧ l ≠ []) := fun h => hfun h.1
    cases hlq : logT sortB ⟨op, nm, l, ns, p, ps⟩ with
    | none =>
      have hv : visT sortB pre (datN m) ⟨op, nm, l, ns, p, ps⟩ sc hs = (⟨op, nm, plainTs l, [], zeroP, []⟩, hs) := by rw [visT, if_neg hnf, hlq]
      rw [hlq] at hlog
      rw [plainT] at hpl
      refine CH.of_VK Tryd.func47 rfl Tryd.ntmps47 rfl (by simp) ?_
      simp [mkH, mtC, hfun]
      refine callK.mk ent_r19_Plain hpl ?_
      simp [zeroP]
      refine callK.mk ent_r37_logical hlog ?_
      simp [logC, hv, zeroP]
    | some s =>
      have hv : visT sortB pre (datN m) ⟨op, nm, l, ns, p, ps⟩ sc hs = (⟨op, nm, plainTs l, [], nextP pre hs s sc, (dataT pre sc (if op = 4 then datN m nm else []) [] (nextH pre hs s sc)).1⟩, (dataT pre sc (if op = 4 then datN m nm else []) [] (nextH pre hs s sc)).2) := by rw [visT, if_neg hnf, hlq]
      rw [hlq] at hlog
      have hho := hole_ch (G := G) pre s m sc hs hpre (by omega) (by omega)
      by_cases h4 : op = 4
      · subst h4
        have hplr := r19_PlainR_cs (G := G) ⟨4, nm, l, ns, p, ps⟩ (by omega)
        simp only at hplr
        rw [if_pos rfl, datG_N] at hv
        obtain ⟨d, hdG⟩ : ∃ d, datG m nm = d := ⟨_, rfl⟩
        rw [hdG] at hv
        have hwk : WkL (datC (datF m.datas nm)) [.str d.name, d.vars, .sl (d.preds.map vrC), d.cons] := by
          rw [← hdG]
          unfold datG
          cases datF m.datas nm with
          | none => simp [datC]
          | some d => simp [datC, daC]
        have hdat := CS.res (r := .tup [.agg [.str d.name, d.vars, .sl (d.preds.map vrC), d.cons], .bool (datF m.datas nm).isSome]) hdat (by simp [WkDV, hwk])
        have hpl1 : d.preds.length ≤ 1000000 ∧ hs.length + 1 + d.preds.length ≤ 1000000 := by
          have : cntT sortB (datN m) ⟨4, nm, l, ns, p, ps⟩ = 1 + d.preds.length := by
            rw [cntT]
            simp [hlq, datG_N, hdG]
          omega
        refine CH.of_SW Tryd.func47 rfl Tryd.ntmps47 rfl (by simp) ?_
        refine SW.seqq (SW.vk ?_)
        simp [mkH, mtC]
        refine SW.seqq (SW.vk ?_)
        simp
        refine SW.seqq (SW.vk ?_)
        simp
        refine callK.mk ent_r19_Plain hplr ?_
        simp [zeroP]
        refine SW.seqq (SW.vk ?_)
        simp
        refine callK.mk ent_r37_logical hlog ?_
        simp
        refine SW.seqq (SW.vk ?_)
        simp [logC]
        refine SW.seqq (SW.vk ?_)
        simp
        refine callHK.mk ent_hole hho [(100000, 100000)] (by simp [mkH, mtC]) (by simp) (by simp [mkH, mtC]) (by simp; rfl) (by simp) ?_
        simp [mkH, mtC]
        refine SW.seqq (SW.seqq (SW.vk ?_))
        simp
        refine SW.condT (by simp) (SW.seqq (SW.vk ?_))
        simp
        refine ⟨lexOk.mk (by kernel_rfl), ?_⟩
        refine callK.mk ent_r20_Data hdat ?_
        simp
        refine SW.seqq (SW.vk ?_)
        simp
        have hdl : ∀ i, i ≤ d.preds.length → (dataT pre sc ((d.preds.map (·.2)).take i) [] (nextH pre hs s sc)).2.length = hs.length + 1 + i := fun i hi => by
          rw [data_len]
          simp [nextH]
          omega
        refine SW.blockq (SW.loopZ (ι := { i : Nat // i ≤ d.preds.length }) (fun i => [(12, .d (.int .i64 i.1))]) (fun i => tyH nm l ns p ps (nextP pre hs s sc) (dataT pre sc ((d.preds.map (·.2)).take i.1) [] (nextH pre hs s sc)).1 d pre m (dataT pre sc ((d.preds.map (·.2)).take i.1) [] (nextH pre hs s sc)).2) (fun _ => [(36, [.c 7 8]), (73, [.c 100000 7])]) (fun i => d.preds.length - i.1) ⟨0, by simp⟩ (by simp [tyH, mkH, mtC, dataT]) ?_)
        rintro ⟨i, hi⟩
        obtain ⟨P1, H1, hPH⟩ : ∃ P1 H1, dataT pre sc ((d.preds.map (·.2)).take i) [] (nextH pre hs s sc) = (P1, H1) := ⟨_, _, rfl⟩
        have hHl := hdl i hi
        have hPl : (dataT pre sc ((d.preds.map (·.2)).take i) [] (nextH pre hs s sc)).1.length = i := by rw [data_len1]; simp; omega
        simp only [hPH] at hHl hPl ⊢
        by_cases hlt : i < d.preds.length
        · have hg := vrs_get hlt
          have hw := wrap64s (show i < 9223372036854775807 by omega)
          have hst : dataT pre sc ((d.preds.map (·.2)).take (i + 1)) [] (nextH pre hs s sc) = (P1 ++ [nextP pre H1 d.preds[i].2 sc], nextH pre H1 d.preds[i].2 sc) := by
            rw [List.take_succ_eq_append_getElem (by simpa using hlt), data_snoc, hPH]
            simp
          have hho2 := hole_ch (G := G) pre d.preds[i].2 m sc H1 hpre (by omega) (by omega)
          refine SW.seqq (SW.vk ?_)
          simp [hlt, tyH, mkH, mtC]
          refine SW.cutF [] (tyH nm l ns p ps (nextP pre hs s sc) (P1 ++ [nextP pre H1 d.preds[i].2 sc]) d pre m (nextH pre H1 d.preds[i].2 sc)) [(36, [.c 7 8]), (73, [.c 100000 7])] (SW.blockq (SW_imp 10 [2, 3, 4, 5, 6, 7, 8, 9] (stdOrd 0 1 [11, 12, 13, 14]) (by kernel_rfl) (by kernel_rfl) ?_)) ?_
          · simp [hlt, hg]
            refine ⟨⟨?_, ?_⟩, ?_⟩
            all_goals
              refine callHK.mk ent_hole hho2 [(100000, 100000)] (by simp [mkH, mtC]) (by simp) (by simp [mkH, mtC]) (by simp; rfl) (by simp) ?_
              simp [mkH, mtC]
              refine stepK_len (by omega) ?_
              simp [tyH, mkH, mtC]
          · refine SW.vk ?_
            simp [tyH, mkH, mtC]
            exact Again.mk ⟨i + 1, hlt⟩ (by simp [hw, hst, tyH, mkH, mtC]) (by simp; omega)
        · have hil : i = d.preds.length := by omega
          subst hil
          have hE : (dataT pre sc (d.preds.map (·.2)) [] (nextH pre hs s sc)) = (P1, H1) := by
            rw [← hPH, List.take_of_length_le (by simp)]
          rw [hE] at hv
          refine SW.vk ?_
          simp [tyH, mkH, mtC]
          refine SW.vk ?_
          simp [hv]
      · have hd0 : (if op = 4 then datN m nm else []) = [] := if_neg h4
        rw [hd0] at hv
        rw [plainT] at hpl
        refine CH.of_VK Tryd.func47 rfl Tryd.ntmps47 rfl (by simp) ?_
        simp [mkH, mtC, hfun]
        refine callK.mk ent_r19_Plain hpl ?_
        simp [zeroP]
        refine callK.mk ent_r37_logical hlog ?_
        simp [logC]
        refine callHK.mk ent_hole hho [(100000, 100000)] (by simp [mkH, mtC]) (by simp) (by simp [mkH, mtC]) (by simp; rfl) (by simp) ?_
        simp [mkH, mtC, h4, hv, dataT]
end Go.Proofs.YtmjpdmkgmlhfaaaDoor
