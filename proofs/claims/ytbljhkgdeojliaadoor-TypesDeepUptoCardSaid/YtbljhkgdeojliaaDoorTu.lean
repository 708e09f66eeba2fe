/- The statement TypesDeep. No condition. -/
import Derived.Test.YtbljhkgdeojliaaDoorZD
set_option linter.unusedVariables false
set_option linter.unusedSimpArgs false
set_option linter.unusedSectionVars false
namespace Go.Proofs.YtbljhkgdeojliaaDoor
open Go Go.VM
set_option maxRecDepth 100000
set_option maxHeartbeats 8000000
variable {G : GT}
theorem ent_l19_data : VM.Enters Tryd.prog 41 := VM.Enters.mk Tryd.func41 rfl
theorem l19_data_cs (nm : Nm) (l : List Ty) : CS Tryd.prog G 41 [.str nm, .sl (l.map tyC)] (.d (.agg (tyD ⟨4, nm, l, [], zeroP, []⟩))) none := by
  refine CS.of_VK Tryd.func41 rfl Tryd.ntmps41 rfl ?_
  simp [zeroP]
/-- A list of lists of .. of a type. -/
def nestT : Nat → Ty → Ty
  | 0, t => t
  | n + 1, t => ⟨4, [76, 105, 115, 116], [nestT n t], [], zeroP, []⟩
theorem nest_all (t : Ty) : ∀ n, allT (nestT n t) = allT t + 2 * n
  | 0 => by simp [nestT]
  | n + 1 => by
    have := nest_all t n
    simp only [nestT, allT, allTs, zeroP, nodP, nodPs, List.length_nil]
    omega
theorem wrapU8 {n : Int} (h : 0 ≤ n ∧ n ≤ 255) : IntKind.u8.wrap n = n := by
  unfold IntKind.wrap
  simp [IntKind.bits, IntKind.signed]
  omega
theorem check_deep (t : Ty) : decide (checkT t = 8) = decide (40 < depT t) := by
  unfold checkT
  by_cases h : 40 < depT t
  · simp [h]
  · have := formT_ne t
    simp [h, this]
theorem l19_TypesDeep_cs (t : Ty) (n : Nat) (hn : n ≤ 255) (hs : szL (tyC t) ≤ 1048576) : CS Tryd.prog G0 7 [.agg (tyD t), .int .u8 n] (.d (.bool true)) none := by
  have h1 := allT_sz t
  have h3 := nodT_all t
  have hf := l19_few_cs (G := G0) (allTs [t]) [t] (Nat.le_refl _) (by simp only [allTs]; omega)
  simp at hf
  refine CS.of_VK Tryd.func7 rfl Tryd.ntmps7 rfl ?_
  simp
  refine callK.mk ent_l19_few hf ?_
  cases hfw : fewTs [t]
  · simp
    refine callK.mk ent_l19_alive (l19_alive_cs ) ?_
    simp
  by_cases h100 : 100 < n
  · simp [h100]
    refine callK.mk ent_l19_alive (l19_alive_cs ) ?_
    simp
  simp [h100]
  refine SW.loopF (ι := { i : Nat // i ≤ n }) (fun i => [(15, .d (.int .u8 i.1))]) (fun i => [(2, tyO (nestT i.1 t).op (nestT i.1 t).name (.sl ((nestT i.1 t).args.map tyC)) (.sl (strs (nestT i.1 t).names)) (nestT i.1 t).pred (.sl ((nestT i.1 t).preds.map prC)))]) (fun _ => []) (fun i => n - i.1) ⟨0, by simp⟩ (by simp [nestT]) ?_
  rintro ⟨i, hi⟩
  by_cases hlt : i < n
  · have hw : IntKind.u8.wrap ((i : Int) + 1) = ((i + 1 : Nat) : Int) := by rw [wrapU8 (by omega)]; rfl
    have hd := l19_data_cs (G := G0) [76, 105, 115, 116] [nestT i t]
    simp at hd
    simp [hlt]
    refine callK.mk ent_l19_data hd ?_
    simp
    exact Again.mk ⟨i + 1, hlt⟩ (by simp [hw, nestT, zeroP]) (by simp; omega)
  · have : i = n := by omega
    subst this
    have ha := nest_all t i
    have hna := nodT_all (nestT i t)
    have hck := check_deep (nestT i t)
    simp
    refine ⟨lexOk.mk (by kernel_rfl), ?_⟩
    refine callK.mk ent_types_Check (types_Check_cs G0_kw (nestT i t) (by omega)) ?_
    simp
    refine callK.mk ent_r19_Check (r19_Check_cs (nestT i t) (by omega)) ?_
    simp
    refine callK.mk ent_types_Check (types_Check_cs G0_kw (nestT i t) (by omega)) ?_
    simp
    refine callK.mk ent_r19_Depth (r19_Depth_cs (nestT i t) (by omega)) ?_
    simp [hck]
    refine callK.mk ent_l19_alive (l19_alive_cs ) ?_
    simp
theorem typesDeep_all (xs : List D) (h : FitsAll Tryd.prog [43, 5] xs) (hsz : szL xs ≤ 1048576) : CS Tryd.prog G0 7 xs (.d (.bool true)) none := by
  match xs, h with
  | [a, b], ⟨h1, h2, _⟩ =>
    obtain ⟨t, rfl⟩ := fitV_ty h1
    obtain ⟨n, rfl, hw⟩ := fitsV_int tu5 h2
    have hn : 0 ≤ n ∧ n ≤ 255 := by
      have hn := hw
      simp [Lit.wf] at hn
      simpa [IntKind.min, IntKind.max, IntKind.bits, IntKind.signed] using hn
    obtain ⟨k, rfl⟩ : ∃ k : Nat, n = k := ⟨n.toNat, by omega⟩
    simp only [szL, szD] at hsz
    have := l19_TypesDeep_cs t k (by omega) (by omega)
    rw [tyC_eq]
    exact this
end Go.Proofs.YtbljhkgdeojliaaDoor
