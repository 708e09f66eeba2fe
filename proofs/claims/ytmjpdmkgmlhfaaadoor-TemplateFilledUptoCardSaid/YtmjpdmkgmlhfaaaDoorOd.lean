/- Template: the statements TemplatePlain, TemplateHoles. No condition. -/
import Derived.Test.YtmjpdmkgmlhfaaaDoorOc
set_option linter.unusedVariables false
set_option linter.unusedSimpArgs false
set_option linter.unusedSectionVars false
namespace Go.Proofs.YtmjpdmkgmlhfaaaDoor
open Go Go.VM
set_option maxRecDepth 100000
set_option maxHeartbeats 16000000
variable {G : GT}
/-! ### The plain type stays -/
theorem sameT_of : ∀ a b : Ty, plainT a = plainT b → sameT a b = true := by
  refine Ty.ind fun a ih => ?_
  obtain ⟨op, nm, l, ns, p, ps⟩ := a
  simp only at ih
  intro b h
  obtain ⟨op', nm', l', ns', p', ps'⟩ := b
  rw [plainT, plainT] at h
  injection h with h1 h2 h3
  subst h1 h2
  rw [plainTs_map, plainTs_map] at h3
  have hl : l.length = l'.length := by
    have := congrArg List.length h3
    simpa using this
  have hs : ∀ (l l' : List Ty), (∀ k ∈ l, ∀ b, plainT k = plainT b → sameT k b = true) → l.map plainT = l'.map plainT → sameTs l l' = true := by
    intro l
    induction l with
    | nil => intro l' _ _; cases l' <;> simp [sameTs]
    | cons x r ihr =>
      intro l' hk hm
      cases l' with
      | nil => simp at hm
      | cons y s =>
        rw [List.map_cons, List.map_cons] at hm
        injection hm with m1 m2
        rw [sameTs, hk x (by simp) y m1, ihr s (fun k hk' => hk k (.tail _ hk')) m2]
        rfl
  rw [sameT, hs l l' ih h3]
  simp [hl]
theorem ent_l37_TemplatePlain : VM.Enters Tryd.prog 6 := VM.Enters.mk Tryd.func6 rfl
theorem l37_Plain_cs (m : Mt) (t : Ty) (pre : Nm) (sc : List Vr) (hm : szL (mtC m) ≤ 1048576) (ht : szL (tyD t) ≤ 1048576) (hsc : sc.length ≤ 1048576) : CS Tryd.prog G0 6 [.agg (mtC m), .agg (tyD t), .agg (plC pre sc)] (.d (.bool true)) none := by
  obtain ⟨d1, d2⟩ := mt_sz m
  have ht2 := tyD_sz t
  have hli := l37_light_cs (G := G0) m t sc (by omega) (by omega) (by omega) (fun d hd => by have := d2 d hd; omega)
  refine CS.of_VK Tryd.func6 rfl Tryd.ntmps6 rfl ?_
  cases hb : lightB m t sc
  · rw [hb] at hli
    simp [mtC, plC]
    refine callK.mk ent_l37_light hli ?_
    simp
    refine callK.mk ent_l37_awake l37_awake_cs ?_
    simp
  · rw [hb] at hli
    by_cases hp : (100 : Int) < pre.length
    · simp [mtC, plC]
      refine callK.mk ent_l37_light hli ?_
      simp [hp]
      refine callK.mk ent_l37_awake l37_awake_cs ?_
      simp
    · obtain ⟨e1, e2, e3, e4, e5, e6⟩ := light_news hb pre
      have hnp := nod_plainA t
      have hcp := cnt_plain (srt := sortB) (dat := datN m) t
      have hn1 := t_New_cs G0_kw G0_pow (added_ok (G := G0)) pre m (by omega) e3 t sc e1 e2
      have hpl := r19_Plain_cs (G := G0) t (by omega)
      have hn2 := t_New_cs G0_kw G0_pow (added_ok (G := G0)) pre m (by omega) e3 (plainT t) sc (by omega) (by omega)
      have hv1 := vis_plain (srt := sortB) (pre := pre) (dat := datN m) t sc []
      have hv2 := vis_plain (srt := sortB) (pre := pre) (dat := datN m) (plainT t) sc []
      rw [plain_plain] at hv2
      have hl1 := vis_len (srt := sortB) (pre := pre) (dat := datN m) t sc []
      have hl2 := vis_len (srt := sortB) (pre := pre) (dat := datN m) (plainT t) sc []
      rw [hcp, ← hl1] at hl2
      have hnv1 := nod_plainA (visT sortB pre (datN m) t sc []).1
      rw [hv1, hnp] at hnv1
      have hnv2 := nod_plainA (visT sortB pre (datN m) (plainT t) sc []).1
      rw [hv2, hnp] at hnv2
      have hs1 := r19_Same_cs (G := G0) (visT sortB pre (datN m) t sc []).1 t (by omega)
      have hs2 := r19_Same_cs (G := G0) (visT sortB pre (datN m) (plainT t) sc []).1 t (by omega)
      rw [sameT_of _ _ hv1] at hs1
      rw [sameT_of _ _ hv2] at hs2
      generalize visT sortB pre (datN m) t sc [] = r at hn1 hs1 hl2
      generalize visT sortB pre (datN m) (plainT t) sc [] = q at hn2 hs2 hl2
      obtain ⟨a, h⟩ := r
      obtain ⟨b, g⟩ := q
      simp only at hn1 hn2 hs1 hs2 hl2
      simp [mtC, plC]
      refine callK.mk ent_l37_light hli ?_
      simp [hp]
      refine callK.mk ent_template_New hn1 ?_
      simp
      refine ⟨lexOk.mk (by kernel_rfl), ?_⟩
      refine callK.mk ent_r19_Plain hpl ?_
      simp
      refine callK.mk ent_template_New hn2 ?_
      simp
      refine callK.mk ent_r19_Same hs1 ?_
      simp
      refine callK.mk ent_r19_Same hs2 ?_
      simp [hl2]
      refine callK.mk ent_l37_awake l37_awake_cs ?_
      simp
theorem templatePlain_all (xs : List D) (h : FitsAll Tryd.prog [29, 38, 41] xs) (hsz : szL xs ≤ 1048576) : CS Tryd.prog G0 6 xs (.d (.bool true)) none := by
  match xs, h with
  | [a, b, c], ⟨h1, h2, h3, _⟩ =>
    obtain ⟨m, rfl⟩ := fitV_mt h1
    obtain ⟨t, rfl⟩ := fitV_ty h2
    obtain ⟨pre, sc, rfl⟩ := fitV_pl h3
    have z1 := agg_sz (cs := mtC m) (xs := [.agg (mtC m), .agg (tyD t), .agg (plC pre sc)]) (by simp)
    have z2 := agg_sz (cs := tyD t) (xs := [.agg (mtC m), .agg (tyD t), .agg (plC pre sc)]) (.tail _ (.head _))
    have z3 := agg_sz (cs := plC pre sc) (xs := [.agg (mtC m), .agg (tyD t), .agg (plC pre sc)]) (by simp)
    have hv := vrs_len_szA sc
    have z4 : szLL (sc.map vrC) ≤ szL (plC pre sc) := by simp only [plC, szL, szD]; omega
    exact l37_Plain_cs m t pre sc (Nat.le_trans z1 hsz) (Nat.le_trans z2 hsz) (Nat.le_trans hv (Nat.le_trans z4 (Nat.le_trans z3 hsz)))
end Go.Proofs.YtmjpdmkgmlhfaaaDoor
