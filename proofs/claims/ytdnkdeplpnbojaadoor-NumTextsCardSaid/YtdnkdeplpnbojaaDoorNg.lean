/- The examples of num, run. No condition. -/
import Derived.Test.YtdnkdeplpnbojaaDoorNd
set_option linter.unusedVariables false
set_option linter.unusedSimpArgs false
set_option linter.unusedSectionVars false
namespace Go.Proofs.YtdnkdeplpnbojaaDoor
open Go Go.VM
set_option maxRecDepth 100000
/-- The package-level variables whose cells are used. -/
def G0 : GT := fun g => if g = 1 then some powCells else none
theorem G0_pow : G0 1 = some powCells := rfl
def lib0 : CallF := fun f ds => if f = 52 then (match ds with
    | [.int .i64 n] => if -9223372036854775808 ≤ n ∧ n ≤ 9223372036854775807 then some (.d (.str (itoaF n)), none) else none
    | _ => none) else none
theorem lib0_ok : CallOk Tryd.prog G0 lib0 := by
  intro f ds r own h
  unfold lib0 at h
  split at h
  · rename_i hf
    subst hf
    split at h
    · split at h
      · rename_i hn
        cases h
        rw [itoaF_eq hn.1 hn.2]
        exact ⟨ent_Itoa, Itoa_cs G0_pow _ hn⟩
      · cases h
    · cases h
  · cases h
theorem ent_l1_alive : VM.Enters Tryd.prog 20 := VM.Enters.mk Tryd.func20 rfl
theorem l1_alive_cs : CS Tryd.prog G0 20 [] (.d (.bool true)) none := (evalF_ok lib0_ok 40 20 [] (.d (.bool true)) none (by kernel_rfl)).2
end Go.Proofs.YtdnkdeplpnbojaaDoor
