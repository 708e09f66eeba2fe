/- The statement TypesUnifies. No condition. -/
import Derived.Test.YtcmpodbjhoeblaaDoorWg
set_option linter.unusedVariables false
set_option linter.unusedSimpArgs false
set_option linter.unusedSectionVars false
namespace Go.Proofs.YtcmpodbjhoeblaaDoor
open Go Go.VM
set_option maxRecDepth 100000
set_option maxHeartbeats 8000000
variable {G : GT}
mutual
theorem WT_mono {m k : Nat} (h : m ≤ k) : ∀ p : Tm, WT m p → WT k p
  | .var _, _ => trivial
  | .node op nm l, ⟨h1, h2, h3⟩ => ⟨h1, Nat.le_trans h2 h, WTs_mono h l h3⟩
theorem WTs_mono {m k : Nat} (h : m ≤ k) : ∀ l : List Tm, WTs m l → WTs k l
  | [], _ => trivial
  | t :: r, ⟨h1, h2⟩ => ⟨WT_mono h t h1, WTs_mono h r h2⟩
end
theorem theta_wt {b : Bd} {θ : Sb} {m : Nat} (I : BInv b θ) (hb : WB m b) : ∀ x u, θ x = some u → WT m u := by
  obtain ⟨r, hr⟩ := I.rank
  have key : ∀ n x u, r x ≤ n → θ x = some u → WT m u := by
    intro n
    induction n with
    | zero =>
      intro x u hn hx
      cases hl : look b x with
      | none => rw [(I.dom x).1 hl] at hx; cases hx
      | some w =>
        have e := I.eqn x w hl
        rw [hx] at e
        cases e
        have hid : sub θ w = w := sub_id fun y hy => by
          cases hy2 : look b y with
          | none => exact (I.dom y).1 hy2
          | some z => have := hr x w y hl hy (by rw [hy2]; simp); omega
        rw [hid]
        exact hb x w hl
    | succ n ih =>
      intro x u hn hx
      cases hl : look b x with
      | none => rw [(I.dom x).1 hl] at hx; cases hx
      | some w =>
        have e := I.eqn x w hl
        rw [hx] at e
        cases e
        have hc : sub θ w = sub (fun y => if occ y w then θ y else none) w := sub_congr fun y hy => by simp [hy]
        rw [hc]
        refine WT_sub (fun y v hv => ?_) w (hb x w hl)
        split at hv
        · rename_i hy
          cases hy2 : look b y with
          | none => rw [(I.dom y).1 hy2] at hv; cases hv
          | some z =>
            have := hr x w y hl hy (by rw [hy2]; simp)
            exact ih y v (by omega) hv
        · cases hv
  exact fun x u hx => key (r x) x u (Nat.le_refl _) hx
mutual
theorem LnT_plain {m : Nat} (hm : 1 ≤ m) : ∀ t : Ty, LnT m t → LnT m (plainT t)
  | ⟨op, nm, l, ns, p, ps⟩, h => by
    simp only [LnT] at h
    have h2 := LnTs_plain hm l h.2.2.2.2
    simp only [plainT, LnT, List.length_nil, Nat.zero_le, true_and]
    refine ⟨?_, ?_, ?_, h2⟩
    · rw [plainTs_eq, List.length_map]; exact h.1
    · simp [zeroP, nodP, nodPs]; omega
    · simp [nodPs]
theorem LnTs_plain {m : Nat} (hm : 1 ≤ m) : ∀ l : List Ty, LnTs m l → LnTs m (plainTs l)
  | [], _ => trivial
  | t :: r, ⟨h1, h2⟩ => ⟨LnT_plain hm t h1, LnTs_plain hm r h2⟩
end
def FL (m : Nat) (f : Fd) : Prop := ∀ x u, lookF f x = some u → LnT m u
mutual
theorem match_fl {m : Nat} (hm : 1 ≤ m) : ∀ (p : Tm) (t : Ty) (f : Fd), LnT m t → FL m f → FL m (matchM p t f).2
  | .var x, t, f, ht, hf => by
    simp only [matchM]
    split
    · intro y u hy
      rcases lookF_add hy with h | rfl
      · exact hf y u h
      · exact LnT_plain hm t ht
    · exact hf
  | .node op nm l, ⟨op', nm', l', ns', p', ps'⟩, f, ht, hf => by
    simp only [matchM]
    simp only [LnT] at ht
    split
    · exact matchs_fl hm l l' f ht.2.2.2.2 hf
    · exact hf
theorem matchs_fl {m : Nat} (hm : 1 ≤ m) : ∀ (l : List Tm) (k : List Ty) (f : Fd), LnTs m k → FL m f → FL m (matchMs l k f).2
  | [], k, f, _, hf => by simpa [matchMs] using hf
  | p :: r, [], f, _, hf => by simpa [matchMs] using hf
  | p :: r, t :: s, f, hk, hf => by
    have h1 := match_fl hm p t f hk.1 hf
    simp only [matchMs]
    split
    · exact matchs_fl hm r s _ hk.2 h1
    · exact h1
end
theorem found_ln {m : Nat} (hm : 1 ≤ m) {f : Fd} (h : FL m f) (x : Nm) : LnT m (foundT f x) := by
  unfold foundT
  cases hq : lookF f x with
  | none => simp [LnT, LnTs, zeroP, nodP, nodPs]; omega
  | some u => exact h x u hq
theorem ent_l19_TypesUnifies : VM.Enters Tryd.prog 3 := VM.Enters.mk Tryd.func3 rfl
theorem l19_TypesUnifies_cs (s t : Ty) (hs : szL (tyC s) + szL (tyC t) ≤ 1048576) : CS Tryd.prog G0 3 [.agg (tyD s), .agg (tyD t)] (.d (.bool true)) none := by
  have h1 := allT_sz s
  have h2 := allT_sz t
  have h3 := nodT_all s
  have h4 := nodT_all t
  have hf := l19_few_cs (G := G0) (allTs [s, t]) [s, t] (Nat.le_refl _) (by simp only [allTs]; omega)
  simp at hf
  refine CS.of_VK Tryd.func3 rfl Tryd.ntmps3 rfl ?_
  simp
  refine ⟨.mk, ?_⟩
  refine callK.mk ent_l19_few hf ?_
  cases hfw : fewTs [s, t]
  · simp
    refine callK.mk ent_l19_alive (l19_alive_cs ) ?_
    simp
  simp [fewTs] at hfw
  have n1 := few_nod hfw.1
  have n2 := few_nod hfw.2
  simp
  refine callK.mk ent_r19_Vars (r19_Vars_cs s (by omega)) ?_
  simp
  refine callK.mk ent_r19_Vars (r19_Vars_cs t (by omega)) ?_
  have v1 := varsT_len s []
  have v2 := varsT_len t []
  simp only [List.length_nil, Nat.zero_add] at v1 v2
  have hw6 : IntKind.i64.wrap (((varsT s []).length : Int) + ((varsT t []).length : Int)) = ((varsT s []).length : Int) + ((varsT t []).length : Int) := wrap64 (by omega)
  by_cases h66 : 6 < (varsT s []).length + (varsT t []).length
  · have h66' : (6 : Int) < ((varsT s []).length : Int) + ((varsT t []).length : Int) := by omega
    simp [hw6, h66, h66']
    refine callK.mk ent_l19_alive (l19_alive_cs ) ?_
    simp
  have h66' : ¬ (6 : Int) < ((varsT s []).length : Int) + ((varsT t []).length : Int) := by omega
  simp [hw6, h66, h66']
  obtain ⟨b, θ, ok, R, hWB, hU⟩ := unify_ex G0 s t (by omega) (by omega)
  have hv := allV_len s t
  have hU2 := r19_Unify_cs (G := G0) s t (by omega) (by omega) (by omega) R
  have hθ := theta_wt R.inv hWB
  have hM := types_Match_cs (G := G0) s t (by omega) (by omega)
  have hM2 := r19_Match_cs (G := G0) s t (by omega) (by omega)
  have hFL : FL 900000000 (matchM (tmT s) t []).2 := match_fl (by omega) _ _ _ (LnT_all t (by omega)) fun x u h => by simp [lookF] at h
  obtain ⟨n, hn⟩ : ∃ n, bndN b (allV s t) = n := ⟨_, rfl⟩
  obtain ⟨A, hA⟩ : ∃ A, (n.map fun x => tyT (sub θ (.var x))) = A := ⟨_, rfl⟩
  have hAe : (n.map fun x => tyC (tyT (sub θ (.var x)))) = A.map tyC := by rw [← hA, List.map_map]; rfl
  have hnl : n.length ≤ 900000000 := by
    have := bndN_len b (allV s t)
    rw [hn] at this
    omega
  have hAl : A.length ≤ 900000000 := by rw [← hA]; simpa using hnl
  have hks : ∀ w ∈ A, LnT 900000000 w := fun w hw => by
    rw [← hA] at hw
    obtain ⟨x, _, rfl⟩ := List.mem_map.1 hw
    exact LnT_tm (by omega) _ (WT_mono (by omega) _ (WT_sub hθ (.var x) trivial))
  rw [hn, hAe] at hU hU2
  obtain ⟨f, hfd⟩ : ∃ f, matchM (tmT s) t [] = f := ⟨_, rfl⟩
  rw [hfd] at hM hM2 hFL
  obtain ⟨B, hB⟩ : ∃ B, (varsT (bareT s) []).map (foundT f.2) = B := ⟨_, rfl⟩
  have hBe : (varsT (bareT s) []).map (tyC ∘ foundT f.2) = B.map tyC := by rw [← hB, List.map_map]
  have hBl : B.length ≤ 900000000 := by
    have a1 := varsT_len (bareT s) []
    have a2 := nod_bare s
    simp only [List.length_nil] at a1
    rw [← hB]
    simp
    omega
  have hkb : ∀ w ∈ B, LnT 900000000 w := fun w hw => by
    rw [← hB] at hw
    obtain ⟨x, _, rfl⟩ := List.mem_map.1 hw
    exact found_ln (by omega) hFL x
  rw [hBe] at hM hM2
  have sA := r19_SameAll_self (G := G0) A hAl hks
  have sB := r19_SameAll_self (G := G0) B hBl hkb
  have s0 := r19_SameAll_self (G := G0) [] (by simp) (by simp)
  simp only [List.map_nil] at s0
  have nS := r4_Same_cs (G := G0) n n hnl
  have n0 := r4_Same_cs (G := G0) [] [] (by simp)
  simp [strs] at n0
  obtain ⟨M, hMM⟩ : ∃ M, A.map tyC = M := ⟨_, rfl⟩
  obtain ⟨K, hKK⟩ : ∃ K, B.map tyC = K := ⟨_, rfl⟩
  rw [hMM] at hU hU2 sA
  rw [hKK] at hM hM2 sB
  cases ok <;> cases hb : f.1
  all_goals
    simp only [hb, Bool.false_eq_true, if_false, if_true] at hU hU2 hM hM2
    refine callK.mk ent_types_Unify hU ?_
    simp
    refine callK.mk ent_r19_Unify hU2 ?_
    simp
    refine callK.mk ent_types_Match hM ?_
    simp
    refine callK.mk ent_r19_Match hM2 ?_
    simp
    first
      | refine callK.mk ent_r4_Same nS ?_
      | refine callK.mk ent_r4_Same n0 ?_
    simp
    first
      | refine callK.mk ent_r19_SameAll sA ?_
      | refine callK.mk ent_r19_SameAll s0 ?_
    simp
    first
      | refine callK.mk ent_r19_SameAll sB ?_
      | refine callK.mk ent_r19_SameAll s0 ?_
    simp
    refine callK.mk ent_l19_alive (l19_alive_cs ) ?_
    simp
theorem typesUnifies_all (xs : List D) (h : FitsAll Tryd.prog [30, 30] xs) (hsz : szL xs ≤ 1048576) : CS Tryd.prog G0 3 xs (.d (.bool true)) none := by
  match xs, h with
  | [a, b], ⟨h1, h2, _⟩ =>
    obtain ⟨s, rfl⟩ := fitV_ty h1
    obtain ⟨t, rfl⟩ := fitV_ty h2
    simp only [szL, szD] at hsz
    have := l19_TypesUnifies_cs s t (by omega)
    rw [tyC_eq, tyC_eq]
    exact this
end Go.Proofs.YtcmpodbjhoeblaaDoor
