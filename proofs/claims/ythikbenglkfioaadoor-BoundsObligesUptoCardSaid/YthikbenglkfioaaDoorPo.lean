/- The sorts of predicates: the walks of Of and Bool in the program. No condition. -/
import Derived.Test.YthikbenglkfioaaDoorPn
set_option linter.unusedVariables false
set_option linter.unusedSimpArgs false
set_option linter.unusedSectionVars false
namespace Go.Proofs.YthikbenglkfioaaDoor
open Go Go.VM
set_option maxRecDepth 100000
set_option maxHeartbeats 8000000
variable {G : GT}
theorem firstE_all {e : Pr → Int} : ∀ {l : List Pr}, firstE e l = 0 → ∀ q ∈ l, e q = 0
  | p :: r, h, q, hq => by
    unfold firstE at h
    split at h
    · rename_i h0
      rcases List.mem_cons.1 hq with rfl | hq
      · exact h0
      · exact firstE_all h q hq
    · rename_i h0
      exact absurd h h0
theorem firstE_app {e : Pr → Int} : ∀ (a b : List Pr), firstE e (a ++ b) = if firstE e a = 0 then firstE e b else firstE e a
  | [], b => by simp [firstE]
  | p :: a, b => by
    rw [List.cons_append, firstE, firstE, firstE_app a b]
    by_cases h : e p = 0
    · simp only [h, if_true]
    · simp only [h, if_false]
/-- All nodes are right. -/
def GoodP (p : Pr) : Prop := ∀ q ∈ preP p, nodeE q = 0
theorem GoodP.self {p : Pr} (h : GoodP p) : nodeE p = 0 := h p (by rw [preP_eq]; exact .head _)
theorem GoodP.kid {p k : Pr} (h : GoodP p) (hk : k ∈ p.kids) : GoodP k := fun q hq => h q (by
  rw [preP_eq]
  refine .tail _ ?_
  have : ∀ {l : List Pr}, k ∈ l → q ∈ prePs l := by
    intro l
    induction l with
    | nil => intro h; cases h
    | cons t r ih =>
      intro h
      simp only [prePs, List.mem_append]
      rcases List.mem_cons.1 h with rfl | h
      · exact .inl hq
      · exact .inr (ih h)
  exact this hk)
theorem good_two {p : Pr} (h : GoodP p) (ho : p.op = 10 ∨ p.op = 11) : p.kids.length = 2 := by
  have h0 := h.self
  unfold nodeE at h0
  rw [if_neg (by omega)] at h0
  split at h0
  · omega
  · rename_i ha
    have e1 : leastK p.op = 2 := by unfold leastK; rw [if_neg (by omega), if_neg (by omega), if_neg (by omega)]
    have e2 : mostK p.op = 2 := by unfold mostK; rw [if_neg (by omega), if_neg (by omega), if_neg (by omega)]
    simp only [argE, e1, e2, Bool.or_eq_true, decide_eq_true_eq, not_or] at ha
    omega
def ofH (v : EnvL) : List (Nat × AObj) := [(100000, .cells [.clo 124 [.ptr 100000 0, .ptr 100001 0]]), (100001, envO v)]
theorem ent_of1 : VM.Enters Tryd.prog 124 := VM.Enters.mk Tryd.func124 rfl
theorem of1_ch (v : EnvL) (hv : FitE v) : ∀ p : Pr, GoodP p → nodP p ≤ 900000000 →
    CH Tryd.prog G 124 ⟨[.d (.agg (prD p)), .ptr 100000 0, .ptr 100001 0], ofH v, []⟩ ⟨[.tup [.str (ofM v p).1, .int .i64 (ofM v p).2]], ofH v, []⟩ := by
  refine Pr.ind fun p ih => ?_
  intro hg hN
  have htwo := fun h => good_two hg h
  have hkid : ∀ k ∈ p.kids, GoodP k := fun k hk => hg.kid hk
  obtain ⟨op, nm, n, l⟩ := p
  simp only at ih htwo hkid
  have hn := nodP_kids ⟨op, nm, n, l⟩
  have hm := ofM_eq v ⟨op, nm, n, l⟩
  simp only at hn hm
  have hl := len_le_nodPs l
  refine CH.of_VK Tryd.func124 rfl Tryd.ntmps124 rfl (by simp) ?_
  simp [ofH]
  refine SW.loopF (ι := { x : Nat × List Nm // x.1 ≤ l.length ∧ ofMs v (l.take x.1) = .ok x.2 }) (fun x => [(6, .d (.sl (strs x.1.2))), (14, .d (.int .i64 x.1.1))]) (fun _ => (3, prO op nm n (.sl (l.map prC))) :: ofH v) (fun _ => [(45, [.t 6])]) (fun x => l.length - x.1.1) ⟨(0, []), by simp [ofMs]⟩ (by simp [ofH]) ?_
  rintro ⟨⟨i, ks⟩, hi, hR⟩
  try simp only at hi hR
  have hkl := ofMs_len v _ _ hR
  have hkl2 : ks.length = i := by rw [hkl]; simp; omega
  by_cases hlt : i < l.length
  · have hg := prs_get hlt
    have hw := wrap64s (show i < 9223372036854775807 by omega)
    have hb2 := nodPs_step hlt
    have hb3 := nodPs_take_le l (i + 1)
    have hsz : (ks.length + 1) * 17 ≤ 140737488355328 := by omega
    simp [hlt, hg, ofH]
    refine callHK.ro ent_of1 (ih l[i] (List.getElem_mem hlt) (hkid _ (List.getElem_mem hlt)) (by omega)) [(100000, 100000), (100001, 100001)] (by simp [ofH]) (by simp) (by simp [ofH]) (by simp) (by simp [ofH]) ?_
    by_cases he : (ofM v l[i]).2 = 0
    · have hs := ofMs_ok hlt hR he
      simp [he, hsz]
      exact Again.mk ⟨(i + 1, ks ++ [(ofM v l[i]).1]), hlt, hs⟩ (by simp [hw, ofH]) (by simp; omega)
    · have hb := ofMs_bad hlt hR he
      rw [hb] at hm
      simp only at hm
      simp [he, hm]
  · have : i = l.length := by omega
    subst this
    rw [List.take_length] at hR
    rw [hR] at hm
    simp only at hm
    have hno := sorting_node_cs (G := G) v hv op nm n l ks (by omega) (fun h => by rw [hkl2]; exact htwo h)
    simp only [envC] at hno
    simp [ofH]
    refine callK.mk ent_sorting_node hno ?_
    simp [hm]
/-- The sort of a predicate, checked first. -/
def ofE (v : EnvL) (p : Pr) : Nm × Int := if chkE p = 0 then ofM v p else ([], chkE p)
theorem good_of {p : Pr} (h : chkE p = 0) : GoodP p := by
  unfold chkE chkP at h
  split at h
  · omega
  · split at h
    · omega
    · exact firstE_all h
theorem ent_sorting_Of : VM.Enters Tryd.prog 106 := VM.Enters.mk Tryd.func106 rfl
theorem sorting_Of_cs (hG : G 0 = some kwCells) (v : EnvL) (hv : FitE v) (p : Pr) (hN : nodP p ≤ 1000000) : CS Tryd.prog G 106 [.agg (envC v), .agg (prD p)] (.tup [.str (ofE v p).1, .int .i64 (ofE v p).2]) none := by
  have hc := pred_Check_cs (G := G) hG p hN
  simp only [envC]
  refine CS.of_VK Tryd.func106 rfl Tryd.ntmps106 rfl ?_
  simp
  refine callK.mk ent_pred_Check hc ?_
  by_cases h0 : chkE p = 0
  · have h1 := of1_ch (G := G) v hv p (good_of h0) (by omega)
    simp [h0]
    refine callHK.ro ent_of1 h1 [(100000, 7), (100001, 2)] (by simp [ofH]) (by simp) (by simp [ofH]) (by simp) (by simp [ofH]) ?_
    simp [ofE, h0]
  · simp [h0, ofE]
def boolE (v : EnvL) (p : Pr) : Int := if p = zerP then 0 else if (ofE v p).2 = 0 then (if (ofE v p).1 = sBool then 0 else 11) else (ofE v p).2
theorem ent_sorting_Bool : VM.Enters Tryd.prog 76 := VM.Enters.mk Tryd.func76 rfl
theorem sorting_Bool_cs (hG : G 0 = some kwCells) (v : EnvL) (hv : FitE v) (p : Pr) (hN : nodP p ≤ 1000000) : CS Tryd.prog G 76 [.agg (envC v), .agg (prD p)] (.d (.int .i64 (boolE v p))) none := by
  have hO := sorting_Of_cs (G := G) hG v hv p hN
  have e1 := pred_Same_cs (G := G) p zerP (by omega)
  rw [samP_dec] at e1
  simp only [envC] at hO ⊢
  refine CS.of_VK Tryd.func76 rfl Tryd.ntmps76 rfl ?_
  simp
  refine callK.mk ent_pred_Same (CS.args e1 (by simp [zerP])) ?_
  by_cases hz : p = zerP
  · simp [hz, boolE]
  · simp [hz]
    refine callK.mk ent_sorting_Of hO ?_
    by_cases h0 : (ofE v p).2 = 0
    · by_cases hb : (ofE v p).1 = [66, 111, 111, 108]
      · simp [h0, hb, boolE, hz]
      · simp [h0, hb, boolE, hz]
    · simp [h0, boolE, hz]
end Go.Proofs.YthikbenglkfioaaDoor
