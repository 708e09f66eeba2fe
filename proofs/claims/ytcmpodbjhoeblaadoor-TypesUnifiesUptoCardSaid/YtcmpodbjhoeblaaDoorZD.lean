/- Joined texts. The examples of types, run; sizes. The statement TypesChecks. No condition. -/
import Derived.Test.YtcmpodbjhoeblaaDoorZA
import Derived.Test.YtcmpodbjhoeblaaDoorZ7
import Derived.Test.YtcmpodbjhoeblaaDoorZ6
import Derived.Test.YtcmpodbjhoeblaaDoorZ9
import Derived.Test.YtcmpodbjhoeblaaDoorZB
import Derived.Test.YtcmpodbjhoeblaaDoorZC
import Derived.Test.YtcmpodbjhoeblaaDoorZ8
section
set_option linter.unusedVariables false
set_option linter.unusedSimpArgs false
set_option linter.unusedSectionVars false
namespace Go.Proofs.YtcmpodbjhoeblaaDoor
open Go Go.VM
set_option maxRecDepth 100000
set_option maxHeartbeats 8000000
/-- The package-level variables whose cells are used. -/
def G0 : GT := fun g => if g = 1 then some powCells else if g = 0 then some kwCells else none
theorem G0_pow : G0 1 = some powCells := rfl
theorem G0_kw : G0 0 = some kwCells := rfl
def lib0 : CallF := fun f ds => if f = 41 then (match ds with
    | [.int .i64 n] => if -9223372036854775808 ≤ n ∧ n ≤ 9223372036854775807 then some (.d (.str (itoaF n)), none) else none
    | _ => none) else none
theorem lib0_ok : CallOk Tryd.prog G0 lib0 := by
  intro f ds r own h
  unfold lib0 at h
  split at h
  · rename_i hf
    subst hf
    split at h
    · split at h
      · rename_i hn
        cases h
        rw [itoaF_eq hn.1 hn.2]
        exact ⟨ent_Itoa, Itoa_cs G0_pow _ hn⟩
      · cases h
    · cases h
  · cases h
theorem ent_l19_alive : VM.Enters Tryd.prog 6 := VM.Enters.mk Tryd.func6 rfl
theorem l19_alive_cs : CS Tryd.prog G0 6 [] (.d (.bool true)) none := (evalF_ok lib0_ok 60 6 [] (.d (.bool true)) none (by kernel_rfl)).2
theorem range2 : List.range 2 = [0, 1] := rfl
theorem range3 : List.range 3 = [0, 1, 2] := rfl
attribute [simp] range2 range3
/-! ### Sizes -/
theorem strs_sz : ∀ l : List Nm, l.length ≤ szLL (strs l)
  | [] => by simp
  | s :: r => by
    have := strs_sz r
    simp only [strs, List.map_cons, szLL, szL, szD, List.length_cons] at this ⊢
    omega
mutual
theorem allT_sz : ∀ t : Ty, allT t ≤ szL (tyC t)
  | ⟨op, nm, l, ns, p, ps⟩ => by
    have h1 := allTs_sz l
    have h2 := strs_sz ns
    have h3 := nodPs_sz p.kids
    have h4 := nodPs_sz ps
    have h5 := nodP_kids p
    rw [tyC_eq]
    simp only [allT, szL, szD]
    omega
theorem allTs_sz : ∀ l : List Ty, allTs l ≤ szLL (l.map tyC)
  | [] => by simp [allTs, szLL]
  | t :: r => by
    have h1 := allT_sz t
    have h2 := allTs_sz r
    simp only [allTs, List.map_cons, szLL]
    omega
end
mutual
theorem allT_plain : ∀ t : Ty, allT (plainT t) ≤ 2 * nodT t
  | ⟨op, nm, l, ns, p, ps⟩ => by
    have h1 := allTs_plain l
    simp only [plainT, allT, nodT, zeroP, nodP, nodPs, List.length_nil]
    omega
theorem allTs_plain : ∀ l : List Ty, allTs (plainTs l) ≤ 2 * nodTs l
  | [] => by simp [plainTs, allTs, nodTs]
  | t :: r => by
    have h1 := allT_plain t
    have h2 := allTs_plain r
    simp only [plainTs, allTs, nodTs]
    omega
end
theorem few_nod {t : Ty} (h : fewT t = true) : nodT t ≤ 60 := by
  rw [fewT_eq] at h
  simp at h
  exact h.1
theorem eqT_self (t : Ty) : eqT t t = true := (eqT_iff t t).2 rfl
theorem fitV_ty {d : D} (h : FitsV Tryd.prog 30 d) : ∃ t : Ty, d = .agg (tyC t) := by
  obtain ⟨cs, rfl, hb⟩ := fitsV_agg ty_field30_0 h
  obtain ⟨t, rfl⟩ := fits_ty cs hb
  exact ⟨t, rfl⟩
end Go.Proofs.YtcmpodbjhoeblaaDoor
end

section
set_option linter.unusedVariables false
set_option linter.unusedSimpArgs false
set_option linter.unusedSectionVars false
namespace Go.Proofs.YtcmpodbjhoeblaaDoor
open Go Go.VM
set_option maxRecDepth 100000
set_option maxHeartbeats 8000000
variable {G : GT}
theorem types_form_cs (hG : G 0 = some kwCells) : ∀ t : Ty, allT t ≤ 900000000 → CS Tryd.prog G 39 [.agg (tyD t)] (.d (.int .i64 (formT t))) none := by
  refine Ty.ind fun t ih => ?_
  obtain ⟨op, nm, l, ns, p, ps⟩ := t
  intro hN
  by_cases h6 : op = 6
  · subst h6
    exact form_six nm l ns p ps ih hN
  by_cases h5 : op = 5
  · subst h5
    exact form_five nm l ns p ps ih hG hN
  by_cases h4 : op = 4
  · subst h4
    exact form_four nm l ns p ps ih hG hN
  exact form_other op nm l ns p ps h4 h5 h6 ih hN
theorem ent_types_Check : VM.Enters Tryd.prog 20 := VM.Enters.mk Tryd.func20 rfl
theorem types_Check_cs (hG : G 0 = some kwCells) (t : Ty) (h : allT t ≤ 900000000) : CS Tryd.prog G 20 [.agg (tyD t)] (.d (.int .i64 (checkT t))) none := by
  have := nodT_all t
  refine CS.of_VK Tryd.func20 rfl Tryd.ntmps20 rfl ?_
  simp
  refine callK.mk ent_types_depth (types_depth_cs t (by omega)) ?_
  by_cases hd : 40 < depT t
  · simp [hd, checkT]
  · simp [hd]
    refine callK.mk ent_types_form (types_form_cs hG t h) ?_
    simp [hd, checkT]
end Go.Proofs.YtcmpodbjhoeblaaDoor
end
