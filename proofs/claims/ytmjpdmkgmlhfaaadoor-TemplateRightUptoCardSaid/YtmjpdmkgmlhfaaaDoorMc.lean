/- Template: the logical sort of a type, the application of a hole, the data type of a name. No condition. -/
import Derived.Test.YtmjpdmkgmlhfaaaDoorMa
import Derived.Test.YtmjpdmkgmlhfaaaDoorZ5
import Derived.Test.YtmjpdmkgmlhfaaaDoorVmZ
set_option linter.unusedVariables false
set_option linter.unusedSimpArgs false
set_option linter.unusedSectionVars false
namespace Go.Proofs.YtmjpdmkgmlhfaaaDoor
open Go Go.VM
set_option maxRecDepth 100000
set_option maxHeartbeats 8000000
variable {G : GT}
theorem tyD_mk (op : Int) (nm : Nm) (l : List Ty) (ns : List Nm) (p : Pr) (ps : List Pr) : tyD ⟨op, nm, l, ns, p, ps⟩ = [.int .i64 op, .str nm, .sl (l.map tyC), .sl (strs ns), .int .i64 p.op, .str p.name, .int .i64 p.n, .sl (p.kids.map prC), .sl (ps.map prC)] := by simp
/-- The sort of a type. -/
def ofT (t : Ty) : Nm × Bool := if t.op = 1 then ([73, 110, 116], true) else if t.op = 2 then ([66, 111, 111, 108], true) else if t.op = 3 then ([67, 101, 108, 108], true) else if t.op = 4 ∧ t.args = [] then (t.name, true) else ([], false)
theorem ent_s_Of : VM.Enters Tryd.prog 80 := VM.Enters.mk Tryd.func80 rfl
theorem s_OfT_cs (t : Ty) : CS Tryd.prog G 80 [.agg (tyD t)] (.tup [.str (ofT t).1, .bool (ofT t).2]) none := by
  obtain ⟨op, nm, l, ns, p, ps⟩ := t
  refine CS.of_VK Tryd.func80 rfl Tryd.ntmps80 rfl ?_
  by_cases h1 : op = 1
  · simp [h1, ofT]
  by_cases h2 : op = 2
  · simp [h2, ofT]
  by_cases h3 : op = 3
  · simp [h3, ofT]
  by_cases h4 : op = 4
  · by_cases h5 : l = []
    · simp [h4, h5, ofT]
    · simp [h4, h5, ofT]
  · simp [h1, h2, h3, h4, ofT]
def knB (s : Nm) : Bool := sortB s && !decide (s = [67, 101, 108, 108])
theorem ent_template_known : VM.Enters Tryd.prog 54 := VM.Enters.mk Tryd.func54 rfl
theorem t_known_cs (hG : G 0 = some kwCells) (s : Nm) : CS Tryd.prog G 54 [.str s] (.d (.bool (knB s))) none := by
  refine CS.of_VK Tryd.func54 rfl Tryd.ntmps54 rfl ?_
  simp
  refine callK.mk ent_s_Check (s_Check_cs hG s) ?_
  cases h : sortB s
  · simp [sortE, knB, h]
  · by_cases e : s = [67, 101, 108, 108]
    · subst e
      simp [sortE, knB, h]
    · simp [sortE, knB, h, e]
def logR (t : Ty) : Nm × Bool := ((ofT t).1, (ofT t).2 && knB (ofT t).1)
theorem logR_eq (t : Ty) : logT (fun n => sortB n) t = if (logR t).2 = true then some (logR t).1 else none := by
  obtain ⟨op, nm, l, ns, p, ps⟩ := t
  unfold logR ofT logT knB
  simp only
  by_cases h1 : op = 1
  · simp [h1, sortB]
  by_cases h2 : op = 2
  · simp [h2, sortB]
  by_cases h3 : op = 3
  · simp [h3]
  by_cases h4 : op = 4
  · by_cases h5 : l = []
    · simp [h4, h5]
    · simp [h4, h5]
  · simp [h1, h2, h3, h4]
theorem ent_template_logical : VM.Enters Tryd.prog 42 := VM.Enters.mk Tryd.func42 rfl
theorem t_logical_cs (hG : G 0 = some kwCells) (t : Ty) : CS Tryd.prog G 42 [.agg (tyD t)] (.tup [.str (logR t).1, .bool (logR t).2]) none := by
  refine CS.of_VK Tryd.func42 rfl Tryd.ntmps42 rfl ?_
  simp
  refine callK.mk ent_s_Of (s_OfT_cs t) ?_
  simp
  cases h : (ofT t).2
  · simp [logR, h]
  · simp
    refine callK.mk ent_template_known (t_known_cs hG _) ?_
    simp [logR, h]
/-! ### Applications -/
/-- A variable as it is written: without kids, a nil slice. -/
def rawA (x : Vr) : List D := [.int .i64 3, .str x.1, .int .i64 0, .nils]
theorem rawA_step {l : List Vr} {i : Nat} (h : i < l.length) : (l.take (i + 1)).map rawA = (l.take i).map rawA ++ [[.int .i64 3, .str l[i].1, .int .i64 0, .nils]] := by
  rw [List.take_succ_eq_append_getElem h, List.map_append]
  rfl
theorem rawA_wk : ∀ l : List Vr, WkLL (l.map rawA) ((l.map fun x => (⟨3, x.1, 0, []⟩ : Pr)).map prC)
  | [] => by simp
  | x :: r => by
    have := rawA_wk r
    simp only [List.map_cons]
    rw [WkLL_cons]
    exact ⟨by simp [rawA], this⟩
theorem ent_template_applied : VM.Enters Tryd.prog 39 := VM.Enters.mk Tryd.func39 rfl
theorem t_applied_cs (h : Ho) (hl : h.2.length ≤ 1000000) : CS Tryd.prog G 39 [.agg (hoC h)] (.d (.agg (prD (holP h.1 h.2)))) none := by
  obtain ⟨nm, l⟩ := h
  simp only at hl
  refine CS.of_VK Tryd.func39 rfl Tryd.ntmps39 rfl ?_
  simp [hoC_eq]
  refine SW.loopF (ι := { i : Nat // i ≤ l.length }) (fun i => [(12, .d (.int .i64 i.1))]) (fun i => [(1, .cells [.d (.str nm), .d (.sl (l.map vrC))]), (2, .cells [.d (.int .i64 0), .d (.str []), .d (.int .i64 0), .d .nils]), (3, .cells [.d (.int .i64 5), .d (.str nm), .d (.int .i64 0), .d (.sl ((l.take i.1).map rawA))])]) (fun _ => [(36, [.c 3 3])]) (fun i => l.length - i.1) ⟨0, by simp⟩ (by simp) ?_
  rintro ⟨i, hi⟩
  by_cases hlt : i < l.length
  · have hg := vrs_get hlt
    have hw := wrap64s (show i < 9223372036854775807 by omega)
    have hs := rawA_step hlt
    have h4 : ∀ x ∈ (l.take i).map rawA, x.length = 4 := fun x hx => by
      obtain ⟨y, _, rfl⟩ := List.mem_map.1 hx
      rfl
    rw [List.map_take] at hs h4
    rw [List.map_take] at hs
    simp [hlt, hg]
    refine stepK_len ⟨h4, by omega⟩ ?_
    simp
    exact Again.mk ⟨i + 1, hlt⟩ (by simp [hw, hs]) (by simp; omega)
  · have : i = l.length := by omega
    subst this
    have := rawA_wk l
    simp at this
    simp [holP, this]
end Go.Proofs.YtmjpdmkgmlhfaaaDoor
