/- Matching: the walk of Match. No condition. -/
import Derived.Test.YtcmpodbjhoeblaaDoorUi
set_option linter.unusedVariables false
set_option linter.unusedSimpArgs false
set_option linter.unusedSectionVars false
namespace Go.Proofs.YtcmpodbjhoeblaaDoor
open Go Go.VM
set_option maxRecDepth 100000
set_option maxHeartbeats 8000000
variable {G : GT}
def foundT (f : Fd) (x : Nm) : Ty := (lookF f x).getD ⟨0, [], [], [], zeroP, []⟩
theorem foundT_eq {f : Fd} {x : Nm} {u : Ty} (h : lookF f x = some u) : foundT f x = u := by
  unfold foundT
  rw [h]
  rfl
theorem ent_types_Match : VM.Enters Tryd.prog 9 := VM.Enters.mk Tryd.func9 rfl
theorem types_Match_cs (s t : Ty) (hs : nodT s ≤ 1000000) (ht : nodT t ≤ 900000000) : CS Tryd.prog G 9 [.agg (tyD s), .agg (tyD t)] (if (matchM (tmT s) t []).1 then .tup [.sl ((varsT (bareT s) []).map (tyC ∘ foundT (matchM (tmT s) t []).2)), .bool true] else .tup [.sl [], .bool false]) none := by
  refine CS.of_VK Tryd.func9 rfl Tryd.ntmps9 rfl ?_
  simp
  refine callK.mk ent_types_bare (types_bare_cs s (by omega)) ?_
  simp
  have q1 := nod_bare s
  have v1 := varsT_len (bareT s) []
  simp only [List.length_nil, Nat.zero_add] at v1
  have hF : FB [] := fun x u h => by simp [lookF] at h
  have hm := match1_ch (G := G) 1000000 (by omega) (siz (tmT s)) (tmT s) t [] (Nat.le_refl _) (WT_tm s hs) ht hF
  refine callHK.mk ent_match1 hm [(100000, 6), (100001, 7), (100002, 11)] (by simp [mH]) (by simp [← bare_tm]) (by simp [mH, fdOf]) (by simp; rfl) (by simp) ?_
  cases hr : (matchM (tmT s) t []).1
  · simp [mH, hr]
  · simp [mH, hr]
    refine callK.mk ent_types_Vars (types_Vars_cs (bareT s) (by omega)) ?_
    simp
    obtain ⟨vs, hvs⟩ : ∃ vs, varsT (bareT s) [] = vs := ⟨_, rfl⟩
    obtain ⟨f, hf⟩ : ∃ f, (matchM (tmT s) t []).2 = f := ⟨_, rfl⟩
    have hhas : ∀ x ∈ vs, ∃ u, lookF f x = some u := fun x hx => by
      rw [← hvs, bare_tm, vars_occ (WT_any s)] at hx
      have := match_has (tmT s) t [] hr (hx.resolve_left (by simp))
      rw [hf] at this
      exact Option.isSome_iff_exists.1 this
    rw [hvs] at v1
    simp only [hvs, hf]
    refine SW.loopF (ι := { i : Nat // i ≤ vs.length }) (fun i => [(8, .d (.sl ((vs.take i.1).map (tyC ∘ foundT f)))), (23, .d (.int .i64 i.1))]) (fun i => [(2, tyB (bareT s)), (3, tyB t), (6, .cells [.mp 11]), (7, .cells [.clo 32 [.ptr 6 0, .ptr 7 0]]), (11, .map (fdOf f))]) (fun _ => [(30, [.t 8])]) (fun i => vs.length - i.1) ⟨0, by simp⟩ (by simp) ?_
    rintro ⟨i, hi⟩
    by_cases hlt : i < vs.length
    · have hg := strs_get hlt
      have hw := wrap64s (show i < 9223372036854775807 by omega)
      obtain ⟨u, hu⟩ := hhas vs[i] (List.getElem_mem hlt)
      have h9 : ∀ (x : List D), x ∈ List.take i (List.map (tyC ∘ foundT f) vs) → x.length = 9 := len_mem (by simp)
      have hs2 := map_stepC (tyC ∘ foundT f) hlt
      simp [foundT_eq hu] at hs2
      simp [hlt, hg, fd_find, hu]
      refine stepK_len ⟨h9, by omega⟩ ?_
      simp
      exact Again.mk ⟨i + 1, hlt⟩ (by simp [hw, hs2]) (by simp; omega)
    · have : i = vs.length := by omega
      subst this
      simp
end Go.Proofs.YtcmpodbjhoeblaaDoor
