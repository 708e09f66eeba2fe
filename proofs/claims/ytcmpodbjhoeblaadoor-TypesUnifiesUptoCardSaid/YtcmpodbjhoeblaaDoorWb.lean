/- The reference: bare types, the variables of types, what occurs; lists of the same types; a variable is bound. No condition. -/
import Derived.Test.YtcmpodbjhoeblaaDoorWa
import Derived.Test.YtcmpodbjhoeblaaDoorTw
set_option linter.unusedVariables false
set_option linter.unusedSimpArgs false
set_option linter.unusedSectionVars false
namespace Go.Proofs.YtcmpodbjhoeblaaDoor
open Go Go.VM
set_option maxRecDepth 100000
set_option maxHeartbeats 8000000
variable {G : GT}
theorem ent_r19_bare : VM.Enters Tryd.prog 29 := VM.Enters.mk Tryd.func29 rfl
theorem r19_bare_cs : ∀ t : Ty, nodT t ≤ 900000000 → CS Tryd.prog G 29 [.agg (tyD t)] (.d (.agg (tyD (bareT t)))) none := by
  refine Ty.ind fun t ih => ?_
  obtain ⟨op, nm, l, ns, p, ps⟩ := t
  intro hN
  simp only at ih
  have hn := nodT_args ⟨op, nm, l, ns, p, ps⟩
  simp only at hn
  have hl := len_le_nodTs l
  have hm := bareT_eq ⟨op, nm, l, ns, p, ps⟩
  simp only at hm
  refine CS.of_VK Tryd.func29 rfl Tryd.ntmps29 rfl ?_
  by_cases h5 : op = 5
  · subst h5
    simp [hm, zeroP]
  · simp [h5]
    refine SW.loopF (ι := { i : Nat // i ≤ l.length }) (fun i => [(20, .d (.int .i64 i.1))]) (fun i => [(1, tyO op nm (.sl (l.map tyC)) (.sl (strs ns)) p (.sl (ps.map prC))), (2, tyZ), (3, .cells [.d (.int .i64 op), .d (.str nm), .d (.sl ((l.take i.1).map (tyC ∘ bareT))), .d .nils, .d (.int .i64 0), .d (.str []), .d (.int .i64 0), .d .nils, .d .nils])]) (fun _ => [(30, [.c 3 2])]) (fun i => l.length - i.1) ⟨0, by simp⟩ (by simp) ?_
    rintro ⟨i, hi⟩
    by_cases hlt : i < l.length
    · have hg := tys_get hlt
      have hw := wrap64s (show i < 9223372036854775807 by omega)
      have hb2 := nodTs_step hlt
      have hb3 := nodTs_take_le l (i + 1)
      have h9 : ∀ (x : List D), x ∈ List.take i (List.map (tyC ∘ bareT) l) → x.length = 9 := len_mem (by simp)
      have hs2 := map_stepC (tyC ∘ bareT) hlt
      simp at hs2
      simp [hlt, hg]
      refine ⟨.mk, ?_⟩
      refine callK.mk ent_r19_bare (ih l[i] (List.getElem_mem hlt) (by omega)) ?_
      simp
      refine stepK_len ⟨h9, by omega⟩ ?_
      simp
      exact Again.mk ⟨i + 1, hlt⟩ (by simp [hw, hs2]) (by simp; omega)
    · have : i = l.length := by omega
      subst this
      simp [hm, zeroP, h5]
theorem r19_vars_ln : ∀ (t : Ty) (acc : List Nm), LnT 900000000 t → (varsT t acc).length ≤ 1000000 →
    CH Tryd.prog G 15 ⟨[.d (.agg (tyD t)), .d (.sl (strs acc))], [], [(9, [.t 1])]⟩ ⟨[.d (.sl (strs (varsT t acc)))], [], [(9, [.t 0])]⟩ := by
  refine Ty.ind fun t ih => ?_
  obtain ⟨op, nm, l, ns, p, ps⟩ := t
  rintro acc ⟨hl, hns, hp, hps, hL⟩ hacc
  simp only at ih
  have hv := varsT_eq ⟨op, nm, l, ns, p, ps⟩ acc
  simp only at hv
  have ha2 := addV_mono op nm acc
  have ha3 := varss_mono l (addV op nm acc)
  rw [hv] at hacc
  refine CH.of_VK Tryd.func15 rfl Tryd.ntmps15 rfl (by simp) ?_
  by_cases h5 : op = 5
  · subst h5
    simp
    refine callK.mk ent_r4_Find (r4_Find_cs acc nm (by omega)) ?_
    by_cases hm : nm ∈ acc
    · have hf : ¬ findI nm acc 0 < 0 := fun h => (find_neg nm acc).1 h hm
      have : addV 5 nm acc = acc := by simp [addV, hm]
      rw [this] at hv ha3 hacc
      simp [hf]
      refine SW.loopF (ι := { i : Nat // i ≤ l.length }) (fun i => [(1, .d (.sl (strs (varsTs (l.take i.1) acc)))), (25, .d (.int .i64 i.1))]) (fun _ => [(2, .cells [.d (.int .i64 5), .d (.str nm), .d (.sl (l.map tyC)), .d (.sl (strs ns)), .d (.int .i64 p.op), .d (.str p.name), .d (.int .i64 p.n), .d (.sl (p.kids.map prC)), .d (.sl (ps.map prC))])]) (fun _ => [(9, [.t 1])]) (fun i => l.length - i.1) ⟨0, by simp⟩ (by simp [varsTs]) ?_
      rintro ⟨i, hi⟩
      by_cases hlt : i < l.length
      · have hg := tys_get hlt
        have hw := wrap64s (show i < 9223372036854775807 by omega)
        have hs := varsTs_step hlt acc
        have hb := varss_take l (i + 1) acc
        rw [hs] at hb
        simp [hlt, hg]
        refine callK.own ent_r19_vars (ih l[i] (List.getElem_mem hlt) (varsTs (l.take i) acc) (LnTs_get hL hlt) (by omega)) (by simp) (by simp) (by simp) (by simp; rfl) (by simp) ?_
        simp
        exact Again.mk ⟨i + 1, hlt⟩ (by simp [hw, hs]) (by simp; omega)
      · have : i = l.length := by omega
        subst this
        simp [hv]
    · have hf : findI nm acc 0 < 0 := (find_neg nm acc).2 hm
      have : addV 5 nm acc = acc ++ [nm] := by simp [addV, hm]
      rw [this] at hv ha2 ha3 hacc
      simp only [List.length_append, List.length_cons, List.length_nil] at ha3
      have hsz : (acc.length + 1) * 17 ≤ 140737488355328 := by omega
      simp [hf, hsz]
      refine SW.loopF (ι := { i : Nat // i ≤ l.length }) (fun i => [(1, .d (.sl (strs (varsTs (l.take i.1) (acc ++ [nm]))))), (25, .d (.int .i64 i.1))]) (fun _ => [(2, .cells [.d (.int .i64 5), .d (.str nm), .d (.sl (l.map tyC)), .d (.sl (strs ns)), .d (.int .i64 p.op), .d (.str p.name), .d (.int .i64 p.n), .d (.sl (p.kids.map prC)), .d (.sl (ps.map prC))])]) (fun _ => [(9, [.t 1])]) (fun i => l.length - i.1) ⟨0, by simp⟩ (by simp [varsTs]) ?_
      rintro ⟨i, hi⟩
      by_cases hlt : i < l.length
      · have hg := tys_get hlt
        have hw := wrap64s (show i < 9223372036854775807 by omega)
        have hs := varsTs_step hlt (acc ++ [nm])
        have hb := varss_take l (i + 1) (acc ++ [nm])
        rw [hs] at hb
        simp [hlt, hg]
        refine callK.own ent_r19_vars (ih l[i] (List.getElem_mem hlt) (varsTs (l.take i) (acc ++ [nm])) (LnTs_get hL hlt) (by omega)) (by simp) (by simp) (by simp) (by simp; rfl) (by simp) ?_
        simp
        exact Again.mk ⟨i + 1, hlt⟩ (by simp [hw, hs]) (by simp; omega)
      · have : i = l.length := by omega
        subst this
        simp [hv]
  · have : addV op nm acc = acc := by simp [addV, h5]
    rw [this] at hv ha3 hacc
    simp [h5]
    refine SW.loopF (ι := { i : Nat // i ≤ l.length }) (fun i => [(1, .d (.sl (strs (varsTs (l.take i.1) acc)))), (25, .d (.int .i64 i.1))]) (fun _ => [(2, .cells [.d (.int .i64 op), .d (.str nm), .d (.sl (l.map tyC)), .d (.sl (strs ns)), .d (.int .i64 p.op), .d (.str p.name), .d (.int .i64 p.n), .d (.sl (p.kids.map prC)), .d (.sl (ps.map prC))])]) (fun _ => [(9, [.t 1])]) (fun i => l.length - i.1) ⟨0, by simp⟩ (by simp [varsTs]) ?_
    rintro ⟨i, hi⟩
    by_cases hlt : i < l.length
    · have hg := tys_get hlt
      have hw := wrap64s (show i < 9223372036854775807 by omega)
      have hs := varsTs_step hlt acc
      have hb := varss_take l (i + 1) acc
      rw [hs] at hb
      simp [hlt, hg]
      refine callK.own ent_r19_vars (ih l[i] (List.getElem_mem hlt) (varsTs (l.take i) acc) (LnTs_get hL hlt) (by omega)) (by simp) (by simp) (by simp) (by simp; rfl) (by simp) ?_
      simp
      exact Again.mk ⟨i + 1, hlt⟩ (by simp [hw, hs]) (by simp; omega)
    · have : i = l.length := by omega
      subst this
      simp [hv]
theorem r19_Vars_ln (t : Ty) (hL : LnT 900000000 t) (hN : (varsT t []).length ≤ 1000000) : CS Tryd.prog G 5 [.agg (tyD t)] (.d (.sl (strs (varsT t [])))) (some 9) := by
  have h : CH Tryd.prog G 15 ⟨[.d (.agg (tyD t)), .d .nils], [], []⟩ ⟨[.d (.sl (strs (varsT t [])))], [], [(9, [.t 0])]⟩ := fun base R μ args w hr => r19_vars_ln t [] hL hN base R μ args w (hr.weak ⟨by simp, by simp, by simp, by simp [keysIn]⟩)
  refine CS.of_VK Tryd.func5 rfl Tryd.ntmps5 rfl ?_
  simp
  refine callK.own ent_r19_vars h (by simp) (by simp) (by simp) (by simp; rfl) (by simp) ?_
  simp
theorem ent_r19_occurs : VM.Enters Tryd.prog 46 := VM.Enters.mk Tryd.func46 rfl
theorem r19_occurs_cs {m : Nat} (hm : 1 ≤ m) (hm2 : m ≤ 900000000) (x : Nm) (u : Tm) (hu : WT m u) (hL : LnT 900000000 (tyT u)) (hN : (varsT (tyT u) []).length ≤ 1000000) : CS Tryd.prog G 46 [.str x, .agg (tmD u)] (.d (.bool (occ x u))) none := by
  have hv := vars_occ (x := x) hu []
  refine CS.of_VK Tryd.func46 rfl Tryd.ntmps46 rfl ?_
  simp
  refine callK.mk ent_r19_Vars (r19_Vars_ln (tyT u) hL hN) ?_
  simp
  refine callK.mk ent_r4_Find (r4_Find_cs (varsT (tyT u) []) x hN) ?_
  simp
  cases ho : occ x u with
  | true =>
    have hin : x ∈ varsT (tyT u) [] := hv.2 (.inr ho)
    have : ¬ findI x (varsT (tyT u) []) 0 < 0 := fun h => (find_neg x _).1 h hin
    simp
    omega
  | false =>
    have hin : x ∉ varsT (tyT u) [] := fun h => by
      rcases hv.1 h with h | h
      · cases h
      · rw [ho] at h; cases h
    have := (find_neg x (varsT (tyT u) [])).2 hin
    simp
    omega
theorem sameT_self (t : Ty) : sameT t t = true := (sameT_iff t t).2 rfl
theorem ent_r19_SameAll : VM.Enters Tryd.prog 12 := VM.Enters.mk Tryd.func12 rfl
theorem r19_SameAll_self (l : List Ty) (hl : l.length ≤ 900000000) (h : ∀ t ∈ l, LnT 900000000 t) : CS Tryd.prog G 12 [.sl (l.map tyC), .sl (l.map tyC)] (.d (.bool true)) none := by
  refine CS.of_VK Tryd.func12 rfl Tryd.ntmps12 rfl ?_
  simp
  refine SW.loopF (ι := { i : Nat // i ≤ l.length }) (fun i => [(13, .d (.int .i64 i.1))]) (fun _ => []) (fun _ => []) (fun i => l.length - i.1) ⟨0, by simp⟩ (by simp) ?_
  rintro ⟨i, hi⟩
  by_cases hlt : i < l.length
  · have hg := tys_get hlt
    have hw := wrap64s (show i < 9223372036854775807 by omega)
    simp [hlt, hg]
    refine ⟨.mk, ?_⟩
    refine callK.mk ent_r19_Same (r19_Same_ln l[i] l[i] (h _ (List.getElem_mem hlt))) ?_
    simp [sameT_self]
    exact Again.mk ⟨i + 1, hlt⟩ (by simp [hw]) (by simp; omega)
  · have : i = l.length := by omega
    subst this
    simp
end Go.Proofs.YtcmpodbjhoeblaaDoor
