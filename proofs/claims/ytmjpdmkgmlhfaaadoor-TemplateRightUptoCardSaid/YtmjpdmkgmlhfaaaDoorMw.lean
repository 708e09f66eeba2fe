/- Template, the reference: Sig. No condition. -/
import Derived.Test.YtmjpdmkgmlhfaaaDoorMv
set_option linter.unusedVariables false
set_option linter.unusedSimpArgs false
set_option linter.unusedSectionVars false
namespace Go.Proofs.YtmjpdmkgmlhfaaaDoor
open Go Go.VM
set_option maxRecDepth 100000
set_option maxHeartbeats 16000000
variable {G : GT}
theorem ent_r37_Sig : VM.Enters Tryd.prog 20 := VM.Enters.mk Tryd.func20 rfl
theorem r37_Sig_cs (m : Mt) (d : Dx) (hpre : d.name.length ≤ 2000000) (hml : m.datas.length ≤ 1000000) (h1 : d.params.length + nodT d.sg.typ ≤ 500000) (h2 : cntT sortB (datN m) d.sg.typ ≤ 1000000) :
    CS Tryd.prog G 20 [.agg (mtC m), .agg (dxC d)] (.tup [.agg (sxC (sigM m d).1), .sl ((sigM m d).2.map hoC)]) none := by
  have hnew0 := r37_New_cs (G := G) d.name m hpre hml d.sg.typ [] (by simp; omega) h2
  have hpl := r19_Plain_cs (G := G) d.sg.typ (by omega)
  have hnp := nod_plainA d.sg.typ
  have hcp := cnt_plain (srt := sortB) (dat := datN m) d.sg.typ
  obtain ⟨nm, ps, b0, b1, b2, b3, b4, b5, b6, mode, typed, ⟨sv, sn, sa, sb, ty, sm⟩⟩ := d
  simp only at hpre h1 h2 hnew0 hpl hnp hcp
  refine CS.of_VK Tryd.func20 rfl Tryd.ntmps20 rfl ?_
  cases typed
  · by_cases hps : ps = []
    · subst hps
      have hM : sigM m ⟨nm, [], b0, b1, b2, b3, b4, b5, b6, mode, false, ⟨sv, sn, sa, sb, ty, sm⟩⟩ = (sx0 (visT sortB nm (datN m) ty [] []).1, (visT sortB nm (datN m) ty [] []).2) := rfl
      rw [hM]
      simp [mtC, dxC]
      refine callK.mk ent_r19_Plain hpl ?_
      simp
      refine callK.mk ent_r37_New (CS.args hnew0 (by simp [mtC])) ?_
      simp [sxC, sx0]
    · have hpl0 : ps.length ≠ 0 := fun h => hps (List.eq_nil_of_length_eq_zero h)
      obtain ⟨t, ht⟩ : ∃ t, plainT ty = t := ⟨_, rfl⟩
      rw [ht] at hpl hnp hcp
      by_cases hop : t.op = 6 ∧ t.args.length = ps.length + 1
      · obtain ⟨h6, hal⟩ := hop
        have hi0 : ps.length < t.args.length := by omega
        obtain ⟨u, hu⟩ : ∃ u, t.args[ps.length] = u := ⟨_, rfl⟩
        have hM : sigM m ⟨nm, ps, b0, b1, b2, b3, b4, b5, b6, mode, false, ⟨sv, sn, sa, sb, ty, sm⟩⟩ = (sx0 ⟨6, t.name, t.args.take ps.length ++ [(visT sortB nm (datN m) u (sigS ps t.args) []).1], ps, zeroP, []⟩, (visT sortB nm (datN m) u (sigS ps t.args) []).2) := by
          simp only [sigM, ht, hps, if_false, Bool.false_eq_true]
          rw [dif_pos ⟨h6, hal⟩, hu]
        rw [hM]
        have hss := sigS_len ps t.args
        have hun : nodT u ≤ nodT t := by
          have := nodTs_get hi0
          rw [hu] at this
          have := nodT_args t
          omega
        have huc : cntT sortB (datN m) u ≤ cntT sortB (datN m) t := by
          have h1 := cntTs_get (srt := sortB) (dat := datN m) hi0
          rw [hu] at h1
          have h2 : cntT sortB (datN m) t = cntTs sortB (datN m) t.args := by
            obtain ⟨op, nm, l, ns, p, ps⟩ := t
            simp only at h6 hi0 ⊢
            rw [cntT, if_pos ⟨h6, fun h => by subst h; simp at hi0⟩]
          omega
        have hnew := r37_New_cs (G := G) nm m hpre hml u (sigS ps t.args) (by omega) (by omega)
        have hcs := cloneStr_cs (G := G) ps (by omega)
        have hct := cloneTy_cs (G := G) (t.args.take ps.length) (by simp; omega)
        have hw1 := wrap64s (show ps.length < 9223372036854775807 by omega)
        have hpE : t.pred = zeroP ∧ t.preds = [] ∧ t.names = [] := by
          rw [← ht]
          cases ty
          exact ⟨rfl, rfl, rfl⟩
        obtain ⟨e1, e2, e3⟩ := hpE
        simp [mtC, dxC]
        refine callK.mk ent_r19_Plain hpl ?_
        simp [hpl0, h6, hw1, hal, e1, e2, e3, zeroP]
        refine SW.loopF (ι := { i : Nat // i ≤ ps.length }) (fun i => [(9, .d (.sl ((sigS (ps.take i.1) (t.args.take i.1)).map vrC))), (10, .d (.int .i64 i.1))]) (fun _ => sigH 6 m ⟨nm, ps, b0, b1, b2, b3, b4, b5, b6, mode, false, ⟨sv, sn, sa, sb, ty, sm⟩⟩ t) (fun _ => [(76, [.t 9])]) (fun i => ps.length - i.1) ⟨0, by simp⟩ (by simp [sigH, mtC, dxC, sigS]) ?_
        rintro ⟨i, hi⟩
        have hsl := sigS_len (ps.take i) (t.args.take i)
        rw [List.length_take] at hsl
        by_cases hlt : i < ps.length
        · have hlt2 : i < t.args.length := by omega
          have hg := strs_get hlt
          have hg2 := tys_get hlt2
          have hw := wrap64s (show i < 9223372036854775807 by omega)
          have hst := sigS_step hlt hlt2
          have hlog := r37_logical_cs (G := G) t.args[i]
          simp [hlt, hlt2, hg, hg2, sigH, mtC, dxC]
          refine callK.mk ent_r37_logical hlog ?_
          cases hb : logT sortB t.args[i] with
          | none =>
            rw [hb] at hst
            simp only [List.append_nil] at hst
            simp [logC]
            exact Again.mk ⟨i + 1, hlt⟩ (by simp [hw, hst, sigH, mtC, dxC]) (by simp; omega)
          | some q =>
            rw [hb] at hst
            simp [logC, hlt, hg]
            refine stepK_len (by omega) ?_
            simp
            exact Again.mk ⟨i + 1, hlt⟩ (by simp [hw, hst, sigH, mtC, dxC]) (by simp; omega)
        · have hie : i = ps.length := by omega
          subst hie
          have hS : sigS ps (t.args.take ps.length) = sigS ps t.args := sigS_take ps t.args
          have hg2 := tys_get hi0
          rw [hu] at hg2
          simp [hS, hi0, hg2, sigH, mtC, dxC]
          refine ⟨lexOk.mk (by kernel_rfl), ?_⟩
          refine callK.mk ent_r37_New (CS.args hnew (by simp [mtC, hu])) ?_
          simp
          refine stepK_len (by omega) ?_
          have hle : ps.length ≤ t.args.length := by omega
          simp [hle]
          refine ⟨lexOk.mk (by kernel_rfl), ?_⟩
          have h9 : ∀ x ∈ List.take ps.length (List.map tyC t.args), x.length = 9 := fun x hx => by
            obtain ⟨y, _, rfl⟩ := List.mem_map.1 (List.mem_of_mem_take hx)
            simp
          have hmin : min ps.length t.args.length = ps.length := by omega
          have hB : ps.length * 153 ≤ 140737488355328 := by omega
          rw [if_pos h9, if_pos hB]
          simp
          refine stepK_len ⟨h9, by omega⟩ ?_
          simp [sxC, sx0]
      · have hM : sigM m ⟨nm, ps, b0, b1, b2, b3, b4, b5, b6, mode, false, ⟨sv, sn, sa, sb, ty, sm⟩⟩ = (sx0 t, []) := by
          simp [sigM, hps, ht, hop]
        rw [hM]
        simp [mtC, dxC]
        refine callK.mk ent_r19_Plain hpl ?_
        simp [hpl0]
        have hw1 := wrap64s (show ps.length < 9223372036854775807 by omega)
        by_cases h6 : t.op = 6
        · have hne : ¬ (t.args.length : Int) = ((ps.length + 1 : Nat) : Int) := fun h => hop ⟨h6, by omega⟩
          simp [h6, hw1]
          simp only [Int.natCast_add, Int.cast_ofNat_Int] at hne
          simp [hne, sxC, sx0, h6]
        · simp [h6, sxC, sx0]
  · have hM : sigM m ⟨nm, ps, b0, b1, b2, b3, b4, b5, b6, mode, true, ⟨sv, sn, sa, sb, ty, sm⟩⟩ = (⟨sv, sn, sa, sb, ty, sm⟩, []) := rfl
    rw [hM]
    simp [mtC, dxC, sxC]
end Go.Proofs.YtmjpdmkgmlhfaaaDoor
