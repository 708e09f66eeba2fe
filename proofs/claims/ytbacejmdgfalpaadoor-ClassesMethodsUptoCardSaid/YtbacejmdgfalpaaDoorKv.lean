/- The statement ClassesMethods. No condition. -/
import Derived.Test.YtbacejmdgfalpaaDoorKu
set_option linter.unusedVariables false
set_option linter.unusedSimpArgs false
set_option linter.unusedSectionVars false
namespace Go.Proofs.YtbacejmdgfalpaaDoor
open Go Go.VM
set_option maxRecDepth 100000
set_option maxHeartbeats 8000000
theorem same_refl (t : Ty) : sameT t t = true := (sameT_iff t t).2 rfl
theorem methF_all {l : List Cl} {nm : Nm} {M : Ty → Prop} (h : ∀ c ∈ l, ∀ x ∈ c.mds, M x.ty) (h0 : M zeroTy) : ∀ {p : Nm × Ty}, methF l nm = some p → M p.2 := by
  induction l with
  | nil => intro p hp; simp [methF] at hp
  | cons c r ih =>
    intro p hp
    rw [methF] at hp
    split at hp
    · cases hp
      exact getD_mem (c := c) (nm := nm) (M := fun y => M y.ty) (h c (.head _)) h0
    · exact ih (fun c hc => h c (.tail _ hc)) hp
theorem nd_get {l : List Nd} {i : Nat} (h : i < l.length) : (l.map ndC)[i]? = some [.str l[i].1, .str l[i].2] := by simp [h, ndC]
theorem l25_ClassesMethods_cs (m : Mo) (nm : Nm) (l : List Nd) (hs : szL (moC m) ≤ 1048576) (hl : l.length ≤ 1048576) : CS Tryd.prog G0 4 [.agg (moC m), .str nm, .sl (l.map ndC)] (.d (.bool true)) none := by
  obtain ⟨B, hB⟩ := few_ex m
  have hf := l25_few_cs (G := G0) m B hB (mo_len hs)
  have hm1 := classes_Method_cs (G := G0) m nm (mo_len hs).1.1 (mo_allC hs)
  have hm2 := r25_Method_cs (G := G0) m nm (mo_len hs).1.1 (mo_allC hs)
  refine CS.of_VK Tryd.func4 rfl Tryd.ntmps4 rfl ?_
  simp
  refine callK.mk ent_l25_few hf ?_
  cases B with
  | false =>
    simp
    refine callK.mk ent_l25_alive l25_alive_cs ?_
    simp
  | true =>
    simp
    by_cases h10 : 10 < l.length
    · simp [h10]
      refine callK.mk ent_l25_alive l25_alive_cs ?_
      simp
    simp [h10]
    refine callK.mk (hkl := methR_keyless _) ent_classes_Method hm1 ?_
    have hall : ∀ p, methF m.cls nm = some p → nodT p.2 ≤ 900000000 := fun p hp => methF_all (nm := nm) (M := fun t => nodT t ≤ 900000000) (fun c hc x hx => ((mo_len hs).2.1 c hc).2 x hx) (by simp [zeroTy, nodT, nodTs]) hp
    cases ho : methF m.cls nm with
    | none =>
      obtain ⟨tt, htt⟩ : ∃ t, zeroTy = t := ⟨_, rfl⟩
      have hsm := r19_Same_cs (G := G0) tt tt (by rw [← htt]; simp [zeroTy, nodT, nodTs])
      rw [ho] at hm2
      simp only [methR, htt] at hm2 ⊢
      simp
      refine callK.mk ent_r25_Method hm2 ?_
      simp
      refine callK.mk ent_r19_Same hsm ?_
      simp [same_refl]
      refine SW.loopF (ι := { i : Nat // i ≤ l.length }) (fun i => [(55, .d (.int .i64 i.1))]) (fun _ => [(3, .cells ((moC m).map .d)), (8, tyB tt), (11, tyB tt)]) (fun _ => []) (fun i => l.length - i.1) ⟨0, by simp⟩ (by simp [zeroTy]) ?_
      rintro ⟨i, hi⟩
      by_cases hlt : i < l.length
      · have hw := wrap64s (show i < 9223372036854775807 by omega)
        have hg := nd_get hlt
        obtain ⟨n, hn⟩ : ∃ n, l[i] = n := ⟨_, rfl⟩
        rw [hn] at hg
        have hdr : 1 ≤ l.length := by omega
        have htk : List.take l.length (l.map ndC) = l.map ndC := List.take_of_length_le (by simp)
        have q1 := fun v a b t0 t1 t2 t3 t4 t5 t6 t7 t8 mt => classes_Needs_cs (G := G0) m (l.drop 1) n _ rfl (by simp; omega) v a b t0 t1 t2 t3 t4 t5 t6 t7 t8 mt
        have q2 := fun v a b t0 t1 t2 t3 t4 t5 t6 t7 t8 mt => r25_Needs_cs (G := G0) m (l.drop 1) n _ rfl (by simp; omega) v a b t0 t1 t2 t3 t4 t5 t6 t7 t8 mt
        simp [sgD, ndC, List.map_drop] at q1 q2
        simp [hlt, hn, ndC, hdr, htk]
        refine ⟨lexOk.mk (by kernel_rfl), ?_⟩
        refine callK.mk ent_classes_Needs (q1 _ _ _ _ _ _ _ _ _ _ _ _ _) ?_
        simp
        refine callK.mk ent_r25_Needs (q2 _ _ _ _ _ _ _ _ _ _ _ _ _) ?_
        simp
        exact Again.mk ⟨i + 1, hlt⟩ (by simp [hw]) (by simp; omega)
      · have : i = l.length := by omega
        subst this
        simp
        refine callK.mk ent_l25_alive l25_alive_cs ?_
        simp
    | some p =>
      obtain ⟨cn, tt⟩ := p
      have hsm := r19_Same_cs (G := G0) tt tt (hall _ ho)
      rw [ho] at hm2
      simp only [methR] at hm2 ⊢
      simp
      refine callK.mk ent_r25_Method hm2 ?_
      simp
      refine callK.mk ent_r19_Same hsm ?_
      simp [same_refl]
      refine SW.loopF (ι := { i : Nat // i ≤ l.length }) (fun i => [(55, .d (.int .i64 i.1))]) (fun _ => [(3, .cells ((moC m).map .d)), (8, tyB tt), (11, tyB tt)]) (fun _ => []) (fun i => l.length - i.1) ⟨0, by simp⟩ (by simp [zeroTy]) ?_
      rintro ⟨i, hi⟩
      by_cases hlt : i < l.length
      · have hw := wrap64s (show i < 9223372036854775807 by omega)
        have hg := nd_get hlt
        obtain ⟨n, hn⟩ : ∃ n, l[i] = n := ⟨_, rfl⟩
        rw [hn] at hg
        have hdr : 1 ≤ l.length := by omega
        have htk : List.take l.length (l.map ndC) = l.map ndC := List.take_of_length_le (by simp)
        have q1 := fun v a b t0 t1 t2 t3 t4 t5 t6 t7 t8 mt => classes_Needs_cs (G := G0) m (l.drop 1) n _ rfl (by simp; omega) v a b t0 t1 t2 t3 t4 t5 t6 t7 t8 mt
        have q2 := fun v a b t0 t1 t2 t3 t4 t5 t6 t7 t8 mt => r25_Needs_cs (G := G0) m (l.drop 1) n _ rfl (by simp; omega) v a b t0 t1 t2 t3 t4 t5 t6 t7 t8 mt
        simp [sgD, ndC, List.map_drop] at q1 q2
        simp [hlt, hn, ndC, hdr, htk]
        refine ⟨lexOk.mk (by kernel_rfl), ?_⟩
        refine callK.mk ent_classes_Needs (q1 _ _ _ _ _ _ _ _ _ _ _ _ _) ?_
        simp
        refine callK.mk ent_r25_Needs (q2 _ _ _ _ _ _ _ _ _ _ _ _ _) ?_
        simp
        exact Again.mk ⟨i + 1, hlt⟩ (by simp [hw]) (by simp; omega)
      · have : i = l.length := by omega
        subst this
        simp
        refine callK.mk ent_l25_alive l25_alive_cs ?_
        simp
theorem classesMethods_all (xs : List D) (h : FitsAll Tryd.prog [29, 9, 34] xs) (hsz : szL xs ≤ 1048576) : CS Tryd.prog G0 4 xs (.d (.bool true)) none := by
  match xs, h with
  | [a, b, c], ⟨h1, h2, h3, _⟩ =>
    obtain ⟨m, rfl⟩ := fitV_mo h1
    obtain ⟨nm, rfl, _⟩ := fitsV_str tu9 h2
    obtain ⟨es, rfl, _, hes⟩ := fitsV_sl ty_elem34 h3
    obtain ⟨l, rfl⟩ := fits_nds hes
    simp only [szL, szD] at hsz
    have := len_szLL ndC ndC_sz l
    exact l25_ClassesMethods_cs m nm l (by omega) (by omega)
end Go.Proofs.YtbacejmdgfalpaaDoor
