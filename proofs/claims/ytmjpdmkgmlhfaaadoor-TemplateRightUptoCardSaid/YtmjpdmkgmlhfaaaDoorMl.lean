/- Template, the reference: Scope. No condition. -/
import Derived.Test.YtmjpdmkgmlhfaaaDoorMk
set_option linter.unusedVariables false
set_option linter.unusedSimpArgs false
set_option linter.unusedSectionVars false
namespace Go.Proofs.YtmjpdmkgmlhfaaaDoor
open Go Go.VM
set_option maxRecDepth 100000
set_option maxHeartbeats 8000000
variable {G : GT}
def laterB (nm : Nm) (l : List Vr) : Bool := l.any fun y => decide (y.1 = nm)
/-- The latest variables with logical sorts. -/
def keepV : List Vr → List Vr
  | [] => []
  | x :: r => if (!laterB x.1 r && knB x.2) = true then x :: keepV r else keepV r
def scopN (l : List Vr) : List Vr := (keepV l).drop ((keepV l).length - 23)
theorem laterB_drop {nm : Nm} {l : List Vr} {k : Nat} (h : k < l.length) : laterB nm (l.drop k) = (decide (l[k].1 = nm) || laterB nm (l.drop (k + 1))) := by
  rw [List.drop_eq_getElem_cons h]
  rfl
theorem keepV_drop {l : List Vr} {k : Nat} (h : k < l.length) : keepV (l.drop k) = if (!laterB l[k].1 (l.drop (k + 1)) && knB l[k].2) = true then l[k] :: keepV (l.drop (k + 1)) else keepV (l.drop (k + 1)) := by
  rw [List.drop_eq_getElem_cons h]
  rfl
theorem ent_r37_Scope : VM.Enters Tryd.prog 18 := VM.Enters.mk Tryd.func18 rfl
theorem r37_Scope_cs (l : List Vr) (hl : l.length ≤ 1000000) : CS Tryd.prog G 18 [.sl (l.map vrC)] (.d (.sl ((scopN l).map vrC))) none := by
  refine CS.of_VK Tryd.func18 rfl Tryd.ntmps18 rfl ?_
  simp
  refine SW.loopF (ι := { x : Nat × List Vr // x.1 ≤ l.length ∧ x.2.length ≤ x.1 ∧ keepV l = x.2 ++ keepV (l.drop x.1) }) (fun x => [(3, .d (.sl (x.1.2.map vrC))), (4, .d (.int .i64 x.1.1))]) (fun _ => []) (fun _ => [(76, [.t 3])]) (fun x => l.length - x.1.1) ⟨(0, []), by simp⟩ (by simp) ?_
  rintro ⟨⟨i, out⟩, hi, hol, hk⟩
  simp only at hi hol hk
  by_cases hlt : i < l.length
  · have hg := vrs_get hlt
    have hw := wrap64s (show i < 9223372036854775807 by omega)
    have hkd := keepV_drop hlt
    simp [hlt, hw]
    refine SW.loopF (ι := { y : Nat × Bool // y.1 ≤ l.length ∧ laterB l[i].1 (l.drop (i + 1)) = (y.2 || laterB l[i].1 (l.drop y.1)) }) (fun y => [(5, .d (.bool y.1.2)), (6, .d (.int .i64 y.1.1))]) (fun _ => []) (fun _ => [(76, [.t 3])]) (fun y => l.length - y.1.1) ⟨(i + 1, false), by simp; omega⟩ (by simp) ?_
    rintro ⟨⟨k, b⟩, hkl, hb⟩
    simp only at hkl hb
    by_cases hlk : k < l.length
    · have hgk := vrs_get hlk
      have hwk := wrap64s (show k < 9223372036854775807 by omega)
      rw [laterB_drop hlk, ← Bool.or_assoc] at hb
      simp [hlk]
      refine ⟨lexOk.mk (by kernel_rfl), ?_⟩
      cases b
      · simp [hlk, hlt, hgk, hg]
        exact Again.mk ⟨(k + 1, decide (l[k].1 = l[i].1)), by omega, by simpa using hb⟩ (by simp [hwk]) (by simp; omega)
      · simp
        exact Again.mk ⟨(k + 1, true), by omega, by simpa using hb⟩ (by simp [hwk]) (by simp; omega)
    · have hke : k = l.length := by omega
      subst hke
      have hbe : laterB l[i].1 (l.drop (i + 1)) = b := by rw [hb]; simp [laterB]
      rw [hbe] at hkd
      simp
      cases b
      · by_cases hc : l[i].2 = [67, 101, 108, 108]
        · have hkn : knB l[i].2 = false := by simp [knB, hc]
          rw [hkn] at hkd
          simp only [Bool.not_false, Bool.and_false, Bool.false_eq_true, if_false] at hkd
          simp [hlt, hg, hc]
          exact Again.mk ⟨(i + 1, out), by omega, by simp; omega, by simp only; rw [hk, hkd]⟩ (by simp [hw]) (by simp; omega)
        · simp [hlt, hg, hc]
          refine callK.mk ent_r6_Check (r6_Check_cs _) ?_
          cases hs : sortB l[i].2
          · have hkn : knB l[i].2 = false := by simp [knB, hs]
            rw [hkn] at hkd
            simp only [Bool.not_false, Bool.and_false, Bool.false_eq_true, if_false] at hkd
            simp [sortE, hs]
            exact Again.mk ⟨(i + 1, out), by omega, by simp; omega, by simp only; rw [hk, hkd]⟩ (by simp [hw]) (by simp; omega)
          · have hkn : knB l[i].2 = true := by simp [knB, hs, hc]
            rw [hkn] at hkd
            simp only [Bool.not_false, Bool.and_true, if_true] at hkd
            simp [sortE, hs, hlt, hg]
            refine stepK_len (by omega) ?_
            simp
            exact Again.mk ⟨(i + 1, out ++ [l[i]]), by omega, by simp; omega, by simp only; rw [hk, hkd]; simp⟩ (by simp [hw]) (by simp; omega)
      · simp only [Bool.not_true, Bool.false_and, Bool.false_eq_true, if_false] at hkd
        simp
        exact Again.mk ⟨(i + 1, out), by omega, by simp; omega, by simp only; rw [hk, hkd]⟩ (by simp [hw]) (by simp; omega)
  · have hie : i = l.length := by omega
    subst hie
    have hke : keepV l = out := by rw [hk]; simp [keepV]
    have hsc : scopN l = out.drop (out.length - 23) := by rw [scopN, hke]
    rw [hsc]
    simp
    by_cases h23 : 23 < out.length
    · have hw1 : IntKind.i64.wrap ((out.length : Int) - 24) = (out.length : Int) - 24 := wrap64 (by omega)
      have hw2 : IntKind.i64.wrap ((out.length : Int) - 24 + 1) = ((out.length - 23 : Nat) : Int) := by rw [wrap64 (by omega)]; omega
      simp [h23, hw1, hw2]
      rw [List.take_of_length_le (by simp)]
      exact (WkLL_refl _).mpr trivial
    · have h0 : out.length - 23 = 0 := by omega
      simp [h23, h0]
end Go.Proofs.YtmjpdmkgmlhfaaaDoor
