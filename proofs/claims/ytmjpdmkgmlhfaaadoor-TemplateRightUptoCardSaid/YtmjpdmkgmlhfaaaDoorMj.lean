/- Template, the reference: digits, the logical sort, the data type of a name. No condition. -/
import Derived.Test.YtmjpdmkgmlhfaaaDoorMd
set_option linter.unusedVariables false
set_option linter.unusedSimpArgs false
set_option linter.unusedSectionVars false
namespace Go.Proofs.YtmjpdmkgmlhfaaaDoor
open Go Go.VM
set_option maxRecDepth 100000
set_option maxHeartbeats 8000000
variable {G : GT}
theorem ent_r6_Of : VM.Enters Tryd.prog 88 := VM.Enters.mk Tryd.func88 rfl
theorem r6_OfT_cs (t : Ty) : CS Tryd.prog G 88 [.agg (tyD t)] (.tup [.str (ofT t).1, .bool (ofT t).2]) none := by
  obtain ⟨op, nm, l, ns, p, ps⟩ := t
  refine CS.of_VK Tryd.func88 rfl Tryd.ntmps88 rfl ?_
  by_cases h1 : op = 1
  · simp [h1, ofT]
  by_cases h2 : op = 2
  · simp [h2, ofT]
  by_cases h3 : op = 3
  · simp [h3, ofT]
  by_cases h4 : op = 4
  · by_cases h5 : l = []
    · simp [h4, h5, ofT]
    · simp [h4, h5, ofT]
  · simp [h1, h2, h3, h4, ofT]
def logC : Option Nm → Nm × Bool
  | some s => (s, true)
  | none => ([], false)
theorem ent_r37_logical : VM.Enters Tryd.prog 58 := VM.Enters.mk Tryd.func58 rfl
theorem r37_logical_cs (t : Ty) : CS Tryd.prog G 58 [.agg (tyD t)] (.tup [.str (logC (logT sortB t)).1, .bool (logC (logT sortB t)).2]) none := by
  have hq : logT sortB t = if (logR t).2 = true then some (logR t).1 else none := logR_eq t
  rw [hq]
  refine CS.of_VK Tryd.func58 rfl Tryd.ntmps58 rfl ?_
  simp
  refine callK.mk ent_r6_Of (r6_OfT_cs t) ?_
  simp
  cases h : (ofT t).2
  · simp [logR, logC, h]
  · by_cases e : (ofT t).1 = [67, 101, 108, 108]
    · simp [logR, logC, h, e, knB]
    · simp [e]
      refine callK.mk ent_r6_Check (r6_Check_cs _) ?_
      cases hs : sortB (ofT t).1
      · simp [logR, logC, h, e, knB, hs, sortE]
      · simp [logR, logC, h, e, knB, hs, sortE]
theorem ent_r20_Data : VM.Enters Tryd.prog 86 := VM.Enters.mk Tryd.func86 rfl
theorem r20_Data_cs (m : Mt) (nm : Nm) (hl : m.datas.length ≤ 1000000) : CS Tryd.prog G 86 [.agg (mtC m), .str nm] (.tup [.agg (datC (datF m.datas nm)), .bool (datF m.datas nm).isSome]) none := by
  obtain ⟨l, e1, e2, e3, e4, e5⟩ := m
  simp only at hl
  refine CS.of_VK Tryd.func86 rfl Tryd.ntmps86 rfl ?_
  simp [mtC]
  refine SW.loopF (ι := { i : Nat // i ≤ l.length ∧ datF (l.drop i) nm = datF l nm }) (fun i => [(6, .d (.int .i64 i.1))]) (fun i => [(2, .cells [.d (.sl (l.map daC)), .d e1, .d e2, .d e3, .d e4, .d e5]), (4, .cells [.d (.str []), .d .nils, .d .nils, .d .nils])]) (fun _ => []) (fun i => l.length - i.1) ⟨0, by simp⟩ (by simp) ?_
  rintro ⟨i, hi, hd⟩
  by_cases hlt : i < l.length
  · have hg := das_get hlt
    have hw := wrap64s (show i < 9223372036854775807 by omega)
    have hf := find_at (p := fun d : Da => decide (d.name = nm)) hlt
    by_cases e : l[i].name = nm
    · have : datF l nm = some l[i] := by rw [← hd, datF, hf]; simp [e]
      simp [hlt, e, this, datC, daC]
    · have hn : datF (l.drop (i + 1)) nm = datF l nm := by rw [← hd, datF, datF, hf]; simp [e]
      simp [hlt, e, daC]
      exact Again.mk ⟨i + 1, hlt, hn⟩ (by simp [hw]) (by simp; omega)
  · have hil : i = l.length := by omega
    subst hil
    have : datF l nm = none := by rw [← hd]; simp [datF]
    simp [this, datC]
end Go.Proofs.YtmjpdmkgmlhfaaaDoor
