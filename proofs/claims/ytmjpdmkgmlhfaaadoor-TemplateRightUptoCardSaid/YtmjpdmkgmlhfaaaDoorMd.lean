/- Template: the data type of a name; the closure that makes the next hole. No condition. -/
import Derived.Test.YtmjpdmkgmlhfaaaDoorMc
import Derived.Test.YtmjpdmkgmlhfaaaDoorZ7
set_option linter.unusedVariables false
set_option linter.unusedSimpArgs false
set_option linter.unusedSectionVars false
namespace Go.Proofs.YtmjpdmkgmlhfaaaDoor
open Go Go.VM
set_option maxRecDepth 100000
set_option maxHeartbeats 8000000
variable {G : GT}
/-- A data type: what is not looked at stays as it is. -/
structure Da where
  name : Nm
  vars : D
  preds : List Vr
  cons : D
def daC (d : Da) : List D := [.str d.name, d.vars, .sl (d.preds.map vrC), d.cons]
/-- A module: its data types; the rest stays as it is. -/
structure Mt where
  datas : List Da
  e1 : D
  e2 : D
  e3 : D
  e4 : D
  e5 : D
def mtC (m : Mt) : List D := [.sl (m.datas.map daC), m.e1, m.e2, m.e3, m.e4, m.e5]
theorem das_get {l : List Da} {i : Nat} (h : i < l.length) : (l.map daC)[i]? = some [.str l[i].name, l[i].vars, .sl (l[i].preds.map vrC), l[i].cons] := by simp [h, daC]
def datF (l : List Da) (nm : Nm) : Option Da := l.find? fun d => decide (d.name = nm)
def datC : Option Da → List D
  | some d => daC d
  | none => [.str [], .nils, .nils, .nils]
/-- The sorts of the predicates of a data type. -/
def datN (m : Mt) (nm : Nm) : List Nm := match datF m.datas nm with
  | some d => d.preds.map (·.2)
  | none => []
theorem ent_syntax_Data : VM.Enters Tryd.prog 46 := VM.Enters.mk Tryd.func46 rfl
theorem t_Data_cs (m : Mt) (nm : Nm) (hl : m.datas.length ≤ 1000000) : CS Tryd.prog G 46 [.agg (mtC m), .str nm] (.tup [.agg (datC (datF m.datas nm)), .bool (datF m.datas nm).isSome]) none := by
  obtain ⟨l, e1, e2, e3, e4, e5⟩ := m
  simp only at hl
  refine CS.of_VK Tryd.func46 rfl Tryd.ntmps46 rfl ?_
  simp [mtC]
  refine SW.loopF (ι := { i : Nat // i ≤ l.length ∧ datF (l.drop i) nm = datF l nm }) (fun i => [(11, .d (.int .i64 i.1))]) (fun i => [(2, .cells [.d (.sl (l.map daC)), .d e1, .d e2, .d e3, .d e4, .d e5]), (4, .cells [.d (.str []), .d .nils, .d .nils, .d .nils])]) (fun _ => []) (fun i => l.length - i.1) ⟨0, by simp⟩ (by simp) ?_
  rintro ⟨i, hi, hd⟩
  by_cases hlt : i < l.length
  · have hg := das_get hlt
    have hw := wrap64s (show i < 9223372036854775807 by omega)
    have hf := find_at (p := fun d : Da => decide (d.name = nm)) hlt
    by_cases e : l[i].name = nm
    · have : datF l nm = some l[i] := by rw [← hd, datF, hf]; simp [e]
      simp [hlt, e, this, datC, daC]
    · have hn : datF (l.drop (i + 1)) nm = datF l nm := by rw [← hd, datF, datF, hf]; simp [e]
      simp [hlt, e, daC]
      exact Again.mk ⟨i + 1, hlt, hn⟩ (by simp [hw]) (by simp; omega)
  · have hil : i = l.length := by omega
    subst hil
    have : datF l nm = none := by rw [← hd]; simp [datF]
    simp [this, datC]
/-! ### The next hole -/
def nxH (pre : Nm) (hs : List Ho) : List (Nat × AObj) := [(100000, .cells [.d (.str pre)]), (100001, .cells [.d (.sl (hs.map hoC))])]
theorem ent_new1 : VM.Enters Tryd.prog 37 := VM.Enters.mk Tryd.func37 rfl
theorem new1_ch (hP : G 1 = some powCells) (pre s : Nm) (sc : List Vr) (hs : List Ho) (hpre : pre.length ≤ 2000000) (hsc : sc.length ≤ 1000000) (hhs : hs.length ≤ 1000000) :
    CH Tryd.prog G 37 ⟨[.d (.str s), .d (.sl (sc.map vrC)), .ptr 100000 0, .ptr 100001 0], nxH pre hs, [(73, [.c 100001 0])]⟩ ⟨[.d (.agg (prD (nextP pre hs s sc)))], nxH pre (nextH pre hs s sc), [(73, [.c 100001 0])]⟩ := by
  refine CH.of_VK Tryd.func37 rfl Tryd.ntmps37 rfl (by simp) ?_
  simp [nxH]
  refine ⟨lexOk.mk (by kernel_rfl), ?_⟩
  have hdl : (Lib.decDigits hs.length).length ≤ 20 := dd_len 19 _ (by omega)
  refine stepK_len (by omega) ?_
  simp
  refine callK.mk ent_m_Text (m_Text_cs hP hs.length (by constructor <;> omega)) ?_
  rw [itoa_pos]
  simp
  refine stepK_len (by omega) ?_
  simp
  refine stepK_len (by omega) ?_
  simp
  by_cases hc : (24 : Int) < sc.length + 1
  · have ht : holV s sc = (vN, s) :: sc.take 23 := by simp [holV]
    have happ := t_applied_cs (G := G) (holN pre hs, holV s sc) (by rw [ht]; simp; omega)
    rw [ht, hoC_eq] at happ
    simp only [holN, List.map_cons, vrC_eq, vN, List.map_take] at happ
    have hc' : (24 : Int) ≤ sc.length + 1 := by omega
    simp [hc, hc']
    refine stepK_len (by omega) ?_
    simp
    refine callK.mk ent_template_applied happ ?_
    simp [nextP, nextH, ht, hoC_eq, holN, vN]
  · have ht : holV s sc = (vN, s) :: sc := by
      unfold holV
      exact List.take_of_length_le (by simp only [List.length_cons]; omega)
    have happ := t_applied_cs (G := G) (holN pre hs, holV s sc) (by rw [ht]; simp; omega)
    rw [ht, hoC_eq] at happ
    simp only [holN, List.map_cons, vrC_eq, vN] at happ
    simp [hc]
    refine stepK_len (by omega) ?_
    simp
    refine callK.mk ent_template_applied happ ?_
    simp [nextP, nextH, ht, hoC_eq, holN, vN]
end Go.Proofs.YtmjpdmkgmlhfaaaDoor
