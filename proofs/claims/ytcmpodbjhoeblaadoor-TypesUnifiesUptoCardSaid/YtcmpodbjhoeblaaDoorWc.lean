/- The reference: a variable is bound, also in what was bound before. No condition. -/
import Derived.Test.YtcmpodbjhoeblaaDoorWb
set_option linter.unusedVariables false
set_option linter.unusedSimpArgs false
set_option linter.unusedSectionVars false
namespace Go.Proofs.YtcmpodbjhoeblaaDoor
open Go Go.VM
set_option maxRecDepth 100000
set_option maxHeartbeats 8000000
variable {G : GT}
/-- A solution's cells. -/
@[simp] def slD (s : Bd) : List D := [.sl (strs (s.map (·.1))), .sl (s.map fun p => tyC (tyT p.2))]
theorem rho_one (x : Nm) (u : Tm) : rho [x] [u] = one x u := by
  funext y
  unfold rho one
  by_cases h : y = x
  · subst h
    simp [findI]
  · have h' : ¬ x = y := fun e => h e.symm
    simp [findI, h, h']
theorem sub_one_ty {m : Nat} (x : Nm) (u : Tm) {p : Tm} (hp : WT m p) : subT [x] [tyT u] (tyT p) = tyT (sub (one x u) p) := by
  have := sub_tyT [x] [u] p hp
  rw [rho_one] at this
  exact this
theorem ent_r19_bind : VM.Enters Tryd.prog 47 := VM.Enters.mk Tryd.func47 rfl
theorem r19_bind_cs {m : Nat} (s : Bd) (x : Nm) (u : Tm) (hs : s.length ≤ 1000000) (hw : ∀ p ∈ s, WT m p.2 ∧ LnT 900000000 (tyT p.2)) (hu : LnT 900000000 (tyT u)) : CS Tryd.prog G 47 [.agg (slD s), .str x, .agg (tmD u)] (.d (.agg (slD (bindS s x u)))) none := by
  have hbn : (bindS s x u).map (·.1) = s.map (·.1) ++ [x] := by simp [bindS, Function.comp_def]
  have hbt : (bindS s x u).map (fun p => tyC (tyT p.2)) = s.map (fun p => tyC (tyT (sub (one x u) p.2))) ++ [tyC (tyT u)] := by simp [bindS, Function.comp_def]
  have hg2 : ∀ i (h : i < s.length), (s.map fun p => tyC (tyT p.2))[i]? = some (tyC (tyT s[i].2)) := fun i h => by simp [h]
  have hst : ∀ i (h : i < s.length), (s.map fun p => tyC (tyT (sub (one x u) p.2))).take (i + 1) = (s.map fun p => tyC (tyT (sub (one x u) p.2))).take i ++ [tyC (tyT (sub (one x u) s[i].2))] := fun i h => by
    rw [List.take_succ_eq_append_getElem (by simpa using h)]
    simp
  have h9 : ∀ c ∈ s.map fun p => tyC (tyT (sub (one x u) p.2)), c.length = 9 := fun c hc => by
    obtain ⟨y, _, rfl⟩ := List.mem_map.1 hc
    simp
  simp only [slD, hbn, hbt]
  obtain ⟨N, hN⟩ : ∃ N, s.map (·.1) = N := ⟨_, rfl⟩
  obtain ⟨T, hT⟩ : ∃ T, (s.map fun p => tyC (tyT p.2)) = T := ⟨_, rfl⟩
  obtain ⟨F, hF⟩ : ∃ F, (s.map fun p => tyC (tyT (sub (one x u) p.2))) = F := ⟨_, rfl⟩
  have lN : N.length = s.length := by rw [← hN]; simp
  have lT : T.length = s.length := by rw [← hT]; simp
  have lF : F.length = s.length := by rw [← hF]; simp
  rw [hT] at hg2
  rw [hF] at hst h9
  simp only [hN, hT, hF]
  refine CS.of_VK Tryd.func47 rfl Tryd.ntmps47 rfl ?_
  simp [lN]
  refine SW.loopF (ι := { i : Nat // i ≤ s.length }) (fun i => [(13, .d (.int .i64 i.1))]) (fun i => [(3, .cells [.d (.sl (strs N)), .d (.sl T)]), (5, tyB (tyT u)), (6, .cells [.d .nils, .d .nils]), (7, .cells [.d (.sl (strs (N.take i.1))), .d (.sl (F.take i.1))])]) (fun _ => [(9, [.c 7 0]), (30, [.c 7 1])]) (fun i => s.length - i.1) ⟨0, by simp⟩ (by simp [strs]) ?_
  rintro ⟨i, hi⟩
  by_cases hlt : i < s.length
  · have hlN : i < N.length := by omega
    have hg := strs_get hlN
    have hg2 := hg2 i hlt
    have hst := hst i hlt
    have hw2 := wrap64s (show i < 9223372036854775807 by omega)
    obtain ⟨w1, w2⟩ := hw s[i] (List.getElem_mem hlt)
    have he := sub_one_ty x u w1
    have hsn : strs (N.take (i + 1)) = strs (N.take i) ++ [[.str N[i]]] := by
      rw [List.take_succ_eq_append_getElem hlN]
      simp only [strs, List.map_append, List.map_cons, List.map_nil]
    have h9' : ∀ c ∈ F.take i, c.length = 9 := fun c hc => h9 c (List.mem_of_mem_take hc)
    simp [hlt, hlN, hg, hg2]
    refine ⟨.mk, ?_⟩
    refine stepK_len (by omega) ?_
    have hlT : i < T.length := by omega
    have hgT : T[i] = tyC (tyT s[i].2) := by
      rw [List.getElem?_eq_getElem hlT] at hg2
      exact Option.some.inj hg2
    simp [hgT, hlT]
    refine ⟨.mk, ?_⟩
    have hc := r19_Subst_ln (G := G) [x] [tyT u] (by simp) (by simp) (fun v hv => by simp at hv; subst hv; exact hu) (tyT s[i].2) w2
    rw [he] at hc
    simp [strs] at hc
    refine callK.mk ent_r19_Subst hc ?_
    simp
    refine stepK_len ⟨h9', by omega⟩ ?_
    simp
    exact Again.mk ⟨i + 1, hlt⟩ (by simp [hw2, hsn, hst]) (by simp; omega)
  · have e : i = s.length := by omega
    subst e
    have h9' : ∀ c ∈ F.take s.length, c.length = 9 := fun c hc => h9 c (List.mem_of_mem_take hc)
    have e1 : N.take s.length = N := List.take_of_length_le (by omega)
    have e2 : F.take s.length = F := List.take_of_length_le (by omega)
    simp only [e1, e2] at h9' ⊢
    simp
    repeat (refine stepK_len (by first | omega | exact ⟨h9', by omega⟩) ?_; simp)
end Go.Proofs.YtcmpodbjhoeblaaDoor
