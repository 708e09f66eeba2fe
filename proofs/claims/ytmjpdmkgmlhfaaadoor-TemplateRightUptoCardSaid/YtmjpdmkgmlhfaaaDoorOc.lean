/- Template: the statements TemplateNews, TemplateScopes, TemplateSigs. No condition. -/
import Derived.Test.YtmjpdmkgmlhfaaaDoorOb
set_option linter.unusedVariables false
set_option linter.unusedSimpArgs false
set_option linter.unusedSectionVars false
namespace Go.Proofs.YtmjpdmkgmlhfaaaDoor
open Go Go.VM
set_option maxRecDepth 100000
set_option maxHeartbeats 16000000
variable {G : GT}
theorem agg_sz {cs : List D} : ∀ {xs : List D}, D.agg cs ∈ xs → szL cs ≤ szL xs
  | x :: r, h => by
    rcases List.mem_cons.1 h with h | h
    · subst h
      simp only [szL, szD]
      omega
    · have := agg_sz h
      simp only [szL]
      omega
/-- What is light has few holes. -/
theorem light_news {m : Mt} {t : Ty} {sc : List Vr} (h : lightB m t sc = true) (pre : Nm) : sc.length + nodT t ≤ 1000000 ∧ cntT sortB (datN m) t ≤ 1000000 ∧ m.datas.length ≤ 1000000 ∧ WB 900000000 (visT sortB pre (datN m) t sc []).1 ∧ (visT sortB pre (datN m) t sc []).2.length ≤ 1000 ∧ ∀ h ∈ (visT sortB pre (datN m) t sc []).2, h.2.length ≤ 24 := by
  obtain ⟨h1, h2, h3, h4⟩ := light_spec h
  have h5 := cnt_le (srt := sortB) h4 t
  have h6 := vis_len (srt := sortB) (pre := pre) (dat := datN m) t sc []
  obtain ⟨h7, _⟩ := vis_ok (srt := sortB) (pre := pre) (dat := datN m) t sc [] (fun i hi => by simp at hi)
  refine ⟨by omega, by omega, by omega, vis_WB (by omega) (fun n => by have := h4 n; omega) t (by omega) sc [], by rw [h6]; simp; omega, fun h hh => ?_⟩
  obtain ⟨i, hi, rfl⟩ := List.getElem_of_mem hh
  exact (h7 i hi).2.1
theorem ent_l37_TemplateNews : VM.Enters Tryd.prog 3 := VM.Enters.mk Tryd.func3 rfl
theorem l37_News_cs (m : Mt) (t : Ty) (pre : Nm) (sc : List Vr) (hm : szL (mtC m) ≤ 1048576) (ht : szL (tyD t) ≤ 1048576) (hsc : sc.length ≤ 1048576) : CS Tryd.prog G0 3 [.agg (mtC m), .agg (tyD t), .agg (plC pre sc)] (.d (.bool true)) none := by
  obtain ⟨d1, d2⟩ := mt_sz m
  have ht2 := tyD_sz t
  have hli := l37_light_cs (G := G0) m t sc (by omega) (by omega) (by omega) (fun d hd => by have := d2 d hd; omega)
  refine CS.of_VK Tryd.func3 rfl Tryd.ntmps3 rfl ?_
  cases hb : lightB m t sc
  · rw [hb] at hli
    simp [mtC, plC]
    refine callK.mk ent_l37_light hli ?_
    simp
    refine callK.mk ent_l37_awake l37_awake_cs ?_
    simp
  · rw [hb] at hli
    by_cases hp : (100 : Int) < pre.length
    · simp [mtC, plC]
      refine callK.mk ent_l37_light hli ?_
      simp [hp]
      refine callK.mk ent_l37_awake l37_awake_cs ?_
      simp
    · obtain ⟨e1, e2, e3, e4, e5, e6⟩ := light_news hb pre
      have hn1 := t_New_cs G0_kw G0_pow (added_ok (G := G0)) pre m (by omega) e3 t sc e1 e2
      have hn2 := r37_New_cs (G := G0) pre m (by omega) e3 t sc e1 e2
      have hst := r20_SameType_self (G := G0) _ e4
      have hsh := sameHoles_self (G := G0) (visT sortB pre (datN m) t sc []).2 (by omega) (fun h hh => by have := e6 h hh; omega)
      generalize (visT sortB pre (datN m) t sc []) = r at hn1 hn2 hst hsh
      obtain ⟨a, h⟩ := r
      simp only at hn1 hn2 hst hsh
      simp [mtC, plC]
      refine callK.mk ent_l37_light hli ?_
      simp [hp]
      refine callK.mk ent_template_New hn1 ?_
      simp
      refine callK.mk ent_r37_New hn2 ?_
      simp
      refine callK.mk ent_r20_SameType hst ?_
      simp
      refine callK.mk ent_r6_SameHoles hsh ?_
      simp
      refine callK.mk ent_l37_awake l37_awake_cs ?_
      simp
theorem templateNews_all (xs : List D) (h : FitsAll Tryd.prog [29, 38, 41] xs) (hsz : szL xs ≤ 1048576) : CS Tryd.prog G0 3 xs (.d (.bool true)) none := by
  match xs, h with
  | [a, b, c], ⟨h1, h2, h3, _⟩ =>
    obtain ⟨m, rfl⟩ := fitV_mt h1
    obtain ⟨t, rfl⟩ := fitV_ty h2
    obtain ⟨pre, sc, rfl⟩ := fitV_pl h3
    have z1 := agg_sz (cs := mtC m) (xs := [.agg (mtC m), .agg (tyD t), .agg (plC pre sc)]) (by simp)
    have z2 := agg_sz (cs := tyD t) (xs := [.agg (mtC m), .agg (tyD t), .agg (plC pre sc)]) (.tail _ (.head _))
    have z3 := agg_sz (cs := plC pre sc) (xs := [.agg (mtC m), .agg (tyD t), .agg (plC pre sc)]) (by simp)
    have hv := vrs_len_szA sc
    have z4 : szLL (sc.map vrC) ≤ szL (plC pre sc) := by simp only [plC, szL, szD]; omega
    exact l37_News_cs m t pre sc (Nat.le_trans z1 hsz) (Nat.le_trans z2 hsz) (Nat.le_trans hv (Nat.le_trans z4 (Nat.le_trans z3 hsz)))
/-! ### Scope -/
theorem keepV_len : ∀ l : List Vr, (keepV l).length ≤ l.length
  | [] => by simp [keepV]
  | x :: r => by
    have := keepV_len r
    rw [keepV]
    split
    · simp only [List.length_cons]; omega
    · simp only [List.length_cons]; omega
theorem scopN_len (l : List Vr) : (scopN l).length ≤ l.length := by
  have := keepV_len l
  unfold scopN
  rw [List.length_drop]
  omega
theorem ent_l37_TemplateScopes : VM.Enters Tryd.prog 4 := VM.Enters.mk Tryd.func4 rfl
theorem l37_Scopes_cs (l : List Vr) : CS Tryd.prog G0 4 [.sl (l.map vrC)] (.d (.bool true)) none := by
  refine CS.of_VK Tryd.func4 rfl Tryd.ntmps4 rfl ?_
  by_cases hp : (60 : Int) < l.length
  · simp [hp]
    refine callK.mk ent_l37_awake l37_awake_cs ?_
    simp
  · have hl := scopN_len l
    simp [hp]
    refine callK.mk ent_template_Scope (t_Scope_cs G0_kw l (by omega)) ?_
    simp
    refine callK.mk ent_r37_Scope (r37_Scope_cs l (by omega)) ?_
    simp
    refine callK.mk ent_r6_SameVars (sameVars_self (scopN l) (by omega)) ?_
    simp
    refine callK.mk ent_l37_awake l37_awake_cs ?_
    simp
theorem templateScopes_all (xs : List D) (h : FitsAll Tryd.prog [39] xs) (hsz : szL xs ≤ 1048576) : CS Tryd.prog G0 4 xs (.d (.bool true)) none := by
  match xs, h with
  | [a], ⟨h1, _⟩ =>
    obtain ⟨l, rfl⟩ := fitV_vrs h1
    exact l37_Scopes_cs l
/-! ### Sig -/
theorem WB.arg {B : Nat} {t : Ty} (h : WB B t) : ∀ k ∈ t.args, WB B k := by
  cases h
  assumption
theorem light_sig {m : Mt} {d : Dx} (h : lightB m d.sg.typ [] = true) (hp : d.params.length ≤ 8) (hsz : szL (tyC d.sg.typ) ≤ 1048576) : d.params.length + nodT d.sg.typ ≤ 500000 ∧ cntT sortB (datN m) d.sg.typ ≤ 1000000 ∧ m.datas.length ≤ 1000000 ∧ WB 900000000 (sigM m d).1.typ ∧ (sigM m d).2.length ≤ 1000 ∧ ∀ h ∈ (sigM m d).2, h.2.length ≤ 24 := by
  obtain ⟨h1, h2, h3, h4⟩ := light_spec h
  have h5 := cnt_le (srt := sortB) h4 d.sg.typ
  have hw0 : WB 900000000 d.sg.typ := WB_sz _ (by omega)
  have hgen : ∀ (u : Ty) (sc : List Vr), nodT u ≤ 24 → WB 900000000 (visT sortB d.name (datN m) u sc []).1 ∧ (visT sortB d.name (datN m) u sc []).2.length ≤ 1000 ∧ ∀ h ∈ (visT sortB d.name (datN m) u sc []).2, h.2.length ≤ 24 := fun u sc hu => by
    have h5 := cnt_le (srt := sortB) h4 u
    have h6 := vis_len (srt := sortB) (pre := d.name) (dat := datN m) u sc []
    obtain ⟨h7, _⟩ := vis_ok (srt := sortB) (pre := d.name) (dat := datN m) u sc [] (fun i hi => by simp at hi)
    refine ⟨vis_WB (by omega) (fun n => by have := h4 n; omega) u (by omega) sc [], by rw [h6]; simp; omega, fun h hh => ?_⟩
    obtain ⟨i, hi, rfl⟩ := List.getElem_of_mem hh
    exact (h7 i hi).2.1
  refine ⟨by omega, by omega, by omega, ?_⟩
  unfold sigM
  split
  · exact ⟨hw0, by simp, by simp⟩
  split
  · exact hgen d.sg.typ [] h2
  have hpn := nod_plainA d.sg.typ
  have hpw : WB 900000000 (plainT d.sg.typ) := plain_WB (by omega) _ (by omega)
  simp only
  split
  · rename_i hq
    have hi0 : d.params.length < (plainT d.sg.typ).args.length := by omega
    have hng := nodTs_get hi0
    have hna := nodT_args (plainT d.sg.typ)
    obtain ⟨w1, w2, w3⟩ := hgen (plainT d.sg.typ).args[d.params.length] (sigS d.params (plainT d.sg.typ).args) (by omega)
    refine ⟨.mk _ _ _ _ _ _ ?_ (by omega) (by simp [zeroP, nodP, nodPs]) (by simp) (by simp) fun k hk => ?_, w2, w3⟩
    · simp
      omega
    · rcases List.mem_append.1 hk with hk | hk
      · exact hpw.arg k (List.mem_of_mem_take hk)
      · rw [List.mem_singleton] at hk
        rw [hk]
        exact w1
  · exact ⟨hpw, by simp, by simp⟩
theorem ent_l37_TemplateSigs : VM.Enters Tryd.prog 5 := VM.Enters.mk Tryd.func5 rfl
theorem l37_Sigs_cs (m : Mt) (d : Dx) (hm : szL (mtC m) ≤ 1048576) (ht : szL (tyD d.sg.typ) ≤ 1048576) (hn : d.name.length ≤ 1048576) : CS Tryd.prog G0 5 [.agg (mtC m), .agg (dxC d)] (.d (.bool true)) none := by
  obtain ⟨d1, d2⟩ := mt_sz m
  have ht2 := tyD_sz d.sg.typ
  have hli := l37_light_cs (G := G0) m d.sg.typ [] (by omega) (by omega) (by simp) (fun d hd => by have := d2 d hd; omega)
  have hli' : CS Tryd.prog G0 10 [.agg (mtC m), .agg (tyD d.sg.typ), .nils] (.d (.bool (lightB m d.sg.typ []))) none := CS.args hli (by simp)
  refine CS.of_VK Tryd.func5 rfl Tryd.ntmps5 rfl ?_
  cases hb : lightB m d.sg.typ []
  · rw [hb] at hli'
    simp [mtC, dxC]
    refine callK.mk ent_l37_light hli' ?_
    simp
    refine callK.mk ent_l37_awake l37_awake_cs ?_
    simp
  · rw [hb] at hli'
    by_cases hp : (8 : Int) < d.params.length
    · simp [mtC, dxC]
      refine callK.mk ent_l37_light hli' ?_
      simp [hp]
      refine callK.mk ent_l37_awake l37_awake_cs ?_
      simp
    · obtain ⟨e1, e2, e3, e4, e5, e6⟩ := light_sig hb (by omega) (by rw [tyC_eq]; exact ht)
      have hn1 := t_Sig_cs G0_kw G0_pow m d (by omega) e3 e1 e2
      have hn2 := r37_Sig_cs (G := G0) m d (by omega) e3 e1 e2
      have hst := r20_SameType_self (G := G0) _ e4
      have hsh := sameHoles_self (G := G0) (sigM m d).2 (by omega) (fun h hh => by have := e6 h hh; omega)
      generalize sigM m d = r at hn1 hn2 hst hsh
      obtain ⟨a, h⟩ := r
      obtain ⟨a1, a2, a3, a4, a5, a6⟩ := a
      simp only at hn1 hn2 hst hsh
      simp [mtC, dxC]
      refine callK.mk ent_l37_light hli' ?_
      simp [hp]
      refine callK.mk ent_template_Sig hn1 ?_
      simp [sxC]
      refine callK.mk ent_r37_Sig hn2 ?_
      simp [sxC]
      refine callK.mk ent_r20_SameType hst ?_
      simp
      refine callK.mk ent_r6_SameHoles hsh ?_
      simp
      refine callK.mk ent_l37_awake l37_awake_cs ?_
      simp
theorem templateSigs_all (xs : List D) (h : FitsAll Tryd.prog [29, 66] xs) (hsz : szL xs ≤ 1048576) : CS Tryd.prog G0 5 xs (.d (.bool true)) none := by
  match xs, h with
  | [a, b], ⟨h1, h2, _⟩ =>
    obtain ⟨m, rfl⟩ := fitV_mt h1
    obtain ⟨d, rfl⟩ := fitV_dx h2
    have h3 : szL (tyD d.sg.typ) ≤ szL (dxC d) := by
      have e : tyD d.sg.typ = [.int .i64 d.sg.typ.op, .str d.sg.typ.name, .sl (d.sg.typ.args.map tyC), .sl (strs d.sg.typ.names), .int .i64 d.sg.typ.pred.op, .str d.sg.typ.pred.name, .int .i64 d.sg.typ.pred.n, .sl (d.sg.typ.pred.kids.map prC), .sl (d.sg.typ.preds.map prC)] := by simp
      rw [e]
      simp only [dxC, szL]
      omega
    have h4 : d.name.length ≤ szL (dxC d) := by
      simp only [dxC, szL, szD]
      omega
    have z1 := agg_sz (cs := mtC m) (xs := [.agg (mtC m), .agg (dxC d)]) (by simp)
    have z2 := agg_sz (cs := dxC d) (xs := [.agg (mtC m), .agg (dxC d)]) (by simp)
    have z3 := Nat.le_trans z2 hsz
    exact l37_Sigs_cs m d (Nat.le_trans z1 hsz) (Nat.le_trans h3 z3) (by omega)
end Go.Proofs.YtmjpdmkgmlhfaaaDoor
