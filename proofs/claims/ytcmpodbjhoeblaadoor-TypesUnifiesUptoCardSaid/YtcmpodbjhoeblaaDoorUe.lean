/- Unification: the walk of Unify. No condition. -/
import Derived.Test.YtcmpodbjhoeblaaDoorUd
set_option linter.unusedVariables false
set_option linter.unusedSimpArgs false
set_option linter.unusedSectionVars false
namespace Go.Proofs.YtcmpodbjhoeblaaDoor
open Go Go.VM
set_option maxRecDepth 100000
set_option maxHeartbeats 8000000
variable {G : GT}
theorem od_find2 (nm : Nm) : ∀ (l : List Nm) (i : Nat), findKeyD (.str nm) (odOf l i) = some (if nm ∈ l then some (.int .i64 (findI nm l i)) else none)
  | [], i => by simp [odOf, findKeyD]
  | s :: r, i => by
    simp only [odOf, findKeyD, eqCell, findI]
    by_cases hs : nm = s
    · subst hs; simp
    · have h' : ¬ s = nm := fun e => hs e.symm
      have := od_find2 nm r (i + 1)
      simp [hs, h', this]
theorem od_set {nm : Nm} : ∀ {l : List Nm} {i : Nat}, nm ∉ l → setKeyD (.str nm) (.int .i64 ((i + l.length : Nat) : Int)) (odOf l i) = some (odOf (l ++ [nm]) i)
  | [], i, _ => by simp [odOf, setKeyD]
  | s :: r, i, h => by
    have h1 : ¬ nm = s := fun e => h (by simp [e])
    have := od_set (nm := nm) (l := r) (i := i + 1) fun hx => h (by simp [hx])
    have e : i + (s :: r).length = i + 1 + r.length := by simp; omega
    rw [e]
    simp only [List.cons_append, odOf, setKeyD, eqCell]
    simp only [h1, decide_false, bs_beq]
    rw [this]
theorem od_set0 {nm : Nm} {l : List Nm} (h : nm ∉ l) : setKeyD (.str nm) (.int .i64 (l.length : Int)) (odOf l 0) = some (odOf (l ++ [nm]) 0) := by simpa using od_set (i := 0) h
theorem odOf_nil (i : Nat) : odOf [] i = [] := rfl
theorem addAll_step {l : List Nm} {i : Nat} (h : i < l.length) (acc : List Nm) : addAll acc (l.take (i + 1)) = addN (addAll acc (l.take i)) l[i] := by
  rw [List.take_succ_eq_append_getElem h, addAll_app]
  rfl
theorem addN_len (acc : List Nm) (s : Nm) : (addN acc s).length ≤ acc.length + 1 := by
  unfold addN
  split <;> simp
theorem addAll_len : ∀ (l acc : List Nm), (addAll acc l).length ≤ acc.length + l.length
  | [], acc => by simp [addAll]
  | s :: r, acc => by
    have h1 := addAll_len r (addN acc s)
    have h2 := addN_len acc s
    have h3 : addAll acc (s :: r) = addAll (addN acc s) r := rfl
    rw [h3]
    simp only [List.length_cons]
    omega
/-- The names that are bound, in their order. -/
def bndN (b : Bd) (all : List Nm) : List Nm := all.filter fun x => (look b x).isSome
theorem bndN_step {b : Bd} {all : List Nm} {i : Nat} (h : i < all.length) : bndN b (all.take (i + 1)) = bndN b (all.take i) ++ (if (look b all[i]).isSome then [all[i]] else []) := by
  unfold bndN
  rw [List.take_succ_eq_append_getElem h, List.filter_append]
  cases hq : look b all[i] <;> simp [hq]
theorem bndN_len (b : Bd) (all : List Nm) : (bndN b all).length ≤ all.length := List.length_filter_le ..
mutual
theorem nod_bare : ∀ t : Ty, nodT (bareT t) ≤ nodT t
  | ⟨op, nm, l, ns, p, ps⟩ => by
    have := nods_bare l
    simp only [bareT]
    split
    · simp only [nodT, nodTs]; omega
    · simp only [nodT]; omega
theorem nods_bare : ∀ l : List Ty, nodTs (bareTs l) ≤ nodTs l
  | [] => by simp [bareTs]
  | t :: r => by
    have h1 := nod_bare t
    have h2 := nods_bare r
    simp only [bareTs, nodTs]
    omega
end
@[simp] def tyB (u : Ty) : AObj := tyO u.op u.name (.sl (u.args.map tyC)) (.sl (strs u.names)) u.pred (.sl (u.preds.map prC))
theorem CH.args2 {f : FuncId} {p d d' : DV} {H0 : List (Nat × AObj)} {s1 : St} (h : CH Tryd.prog G f ⟨[p, d'], H0, []⟩ s1) (hd : WkDV d d') : CH Tryd.prog G f ⟨[p, d], H0, []⟩ s1 := fun base R μ args w hr =>
  h base R μ args w ⟨hr.defers, hr.size, fun i u x hu hi => by
    match i, hi with
    | 0, hi => exact hr.tmps 0 u x hu hi
    | 1, hi =>
      simp at hi
      subst hi
      exact (hr.tmps 1 u d hu (by simp)).wk hd
    | i + 2, hi => simp at hi, hr.objs, hr.inj, hr.locs, by
    obtain ⟨vs, hl, g1, hap⟩ := hr.own
    exact ⟨vs, hl, fun i c u hc hu => by simp at hc, hap⟩, hr.glob, hr.rset, hr.base, hr.pass⟩
theorem ent_types_Unify : VM.Enters Tryd.prog 7 := VM.Enters.mk Tryd.func7 rfl
theorem types_Unify_cs (s t : Ty) (hs : nodT s ≤ 1000000) (ht : nodT t ≤ 1000000) {b : Bd} {θ : Sb} {ok : Bool} (hC : Chain G (varsT (bareT t) (varsT (bareT s) [])) [] [(tmT s, tmT t)] b ok) (I : BInv b θ) (hb : WB 1000000 b) :
    CS Tryd.prog G 7 [.agg (tyD s), .agg (tyD t)] (if ok then .tup [.sl (strs (bndN b (varsT (bareT t) (varsT (bareT s) [])))), .sl ((bndN b (varsT (bareT t) (varsT (bareT s) []))).map fun x => tyC (tyT (sub θ (.var x)))), .bool true] else .tup [.sl [], .sl [], .bool false]) none := by
  refine CS.of_VK Tryd.func7 rfl Tryd.ntmps7 rfl ?_
  simp
  refine ⟨.mk, ?_⟩
  refine callK.mk ent_types_bare (types_bare_cs s (by omega)) ?_
  simp
  refine callK.mk ent_types_bare (types_bare_cs t (by omega)) ?_
  simp
  have q1 := nod_bare s
  have q2 := nod_bare t
  have v1 := varsT_len (bareT s) []
  have v2 := varsT_len (bareT t) []
  simp only [List.length_nil, Nat.zero_add] at v1 v2
  refine ⟨.mk, ?_⟩
  refine callK.mk ent_types_Vars (types_Vars_cs (bareT s) (by omega)) ?_
  simp
  refine callK.mk ent_types_Vars (types_Vars_cs (bareT t) (by omega)) ?_
  simp
  repeat (refine stepK_len (by first | omega | (simp; omega)) ?_; simp)
  obtain ⟨va, hva⟩ : ∃ va, varsT (bareT s) [] ++ varsT (bareT t) [] = va := ⟨_, rfl⟩
  have hvl : va.length ≤ 2000000 := by rw [← hva]; simp; omega
  have hall : addAll [] va = varsT (bareT t) (varsT (bareT s) []) := by rw [← hva]; exact vars_join _ _
  have e1 : strs (varsT (bareT s) []) ++ strs (varsT (bareT t) []) = strs va := by rw [← strs_app2, hva]
  have e2 : ((varsT (bareT s) []).length : Int) + ((varsT (bareT t) []).length : Int) = (va.length : Int) := by rw [← hva]; simp
  simp only [e1, e2]
  refine SW.loopF (ι := { i : Nat // i ≤ va.length }) (fun i => [(8, .d (.sl (strs (addAll [] (va.take i.1))))), (33, .d (.int .i64 i.1))]) (fun i => [(2, tyB (bareT s)), (3, tyB (bareT t)), (23, .map (odOf (addAll [] (va.take i.1)) 0)), (24, .map []), (26, .cells [.mp 23, .mp 24])]) (fun _ => [(9, [.t 8])]) (fun i => va.length - i.1) ⟨0, by simp⟩ (by simp [addAll, odOf_nil]) ?_
  rintro ⟨i, hi⟩
  by_cases hlt : i < va.length
  · have hg := strs_get hlt
    have hw := wrap64s (show i < 9223372036854775807 by omega)
    have hst := addAll_step hlt []
    have hln := addAll_len (va.take i) []
    simp only [List.length_nil, Nat.zero_add, List.length_take] at hln
    simp [hlt, hg, od_find2]
    by_cases hm : va[i] ∈ addAll [] (va.take i)
    · have hn : addN (addAll [] (va.take i)) va[i] = addAll [] (va.take i) := by simp [addN, hm]
      rw [hn] at hst
      simp [hm]
      exact Again.mk ⟨i + 1, hlt⟩ (by simp [hw, hst]) (by simp; omega)
    · have hn : addN (addAll [] (va.take i)) va[i] = addAll [] (va.take i) ++ [va[i]] := by simp [addN, hm]
      rw [hn] at hst
      have hset := od_set0 hm
      simp [hm, hset]
      repeat (refine stepK_len (by first | omega | (simp; omega)) ?_; simp)
      exact Again.mk ⟨i + 1, hlt⟩ (by simp [hw, hst]) (by simp; omega)
  · have : i = va.length := by omega
    subst this
    rw [List.take_length, hall]
    rw [← hall] at hC
    obtain ⟨all, hal⟩ : ∃ all, addAll [] va = all := ⟨_, rfl⟩
    have hlen : all.length ≤ 2000000 := by
      have := addAll_len va []
      rw [hal] at this
      simp at this
      omega
    rw [hal] at hC
    simp only [← hall, hal]
    simp
    cases ok with
    | false =>
      cases hC with
      | cons _ h2 => cases h2
      | stop h1 =>
        refine callHK.mk ent_unify h1 [(100000, 26), (100001, 23), (100002, 24)] (by simp [uH]) (by simp [← bare_tm]) (by simp [uH, bdOf]) (by simp; rfl) (by simp) ?_
        simp [uH]
    | true =>
      cases hC with
      | cons h1 h2 =>
        cases h2
        refine callHK.mk ent_unify h1 [(100000, 26), (100001, 23), (100002, 24)] (by simp [uH]) (by simp [← bare_tm]) (by simp [uH, bdOf]) (by simp; rfl) (by simp) ?_
        simp [uH]
        refine SW.loopF (ι := { i : Nat // i ≤ all.length }) (fun i => [(13, .d (.sl (strs (bndN b (all.take i.1))))), (14, .d (.sl ((bndN b (all.take i.1)).map fun x => tyC (tyT (sub θ (.var x)))))), (67, .d (.int .i64 i.1))]) (fun i => [(23, .map (odOf all 0)), (24, .map (bdOf b)), (26, .cells [.mp 23, .mp 24])]) (fun _ => [(9, [.t 13]), (30, [.t 14])]) (fun i => all.length - i.1) ⟨0, by simp⟩ (by simp [bndN]) ?_
        rintro ⟨i, hi⟩
        by_cases hlt : i < all.length
        · have hg := strs_get hlt
          have hw := wrap64s (show i < 9223372036854775807 by omega)
          have hst := bndN_step (b := b) hlt
          have hbl := bndN_len b (all.take i)
          simp only [List.length_take] at hbl
          cases hq : look b all[i] with
          | none =>
            rw [hq] at hst
            simp at hst
            simp [hlt, hg, bd_find, hq]
            exact Again.mk ⟨i + 1, hlt⟩ (by simp [hw, hst]) (by simp; omega)
          | some u =>
            rw [hq] at hst
            simp at hst
            simp [hlt, hg, bd_find, hq]
            repeat (refine stepK_len (by first | omega | (simp; omega)) ?_; simp)
            refine callHK.mk ent_full (CH.args2 (d := .d (.agg [.int .i64 5, .str all[i], .nils, .nils, .int .i64 0, .str [], .int .i64 0, .nils, .nils])) (full_ch 1000000 (by omega) all b θ I hb _ (.var all[i]) (Nat.le_refl _) trivial) (by simp [tyT_var, zeroP])) [(100000, 26), (100001, 23), (100002, 24)] (by simp [uH]) (by simp [tyT_var, zeroP]) (by simp [uH]) (by simp; rfl) (by simp) ?_
            simp [uH]
            refine stepK_len (by omega) ?_
            simp
            exact Again.mk ⟨i + 1, hlt⟩ (by simp [hw, hst, strs_app]) (by simp; omega)
        · have : i = all.length := by omega
          subst this
          rw [List.take_length]
          simp
end Go.Proofs.YtcmpodbjhoeblaaDoor
