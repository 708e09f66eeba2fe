/- Types whose lists are not too long: Same, Vars; what Unify gives. No condition. -/
import Derived.Test.YtcmpodbjhoeblaaDoorUg
set_option linter.unusedVariables false
set_option linter.unusedSimpArgs false
set_option linter.unusedSectionVars false
namespace Go.Proofs.YtcmpodbjhoeblaaDoor
open Go Go.VM
set_option maxRecDepth 100000
set_option maxHeartbeats 8000000
variable {G : GT}
theorem types_Same_ln : ∀ t u : Ty, LnT 900000000 t → CS Tryd.prog G 34 [.agg (tyD t), .agg (tyD u)] (.d (.bool (sameT t u))) none := by
  refine Ty.ind fun t ih => ?_
  obtain ⟨op, nm, l, ns, p, ps⟩ := t
  rintro u ⟨hl, hns, hp, hps, hL⟩
  obtain ⟨op', nm', l', ns', p', ps'⟩ := u
  simp only at ih
  have hq := sameT_eq ⟨op, nm, l, ns, p, ps⟩ ⟨op', nm', l', ns', p', ps'⟩
  simp only at hq
  refine CS.of_VK Tryd.func34 rfl Tryd.ntmps34 rfl ?_
  by_cases h1 : op = op'
  · by_cases h2 : nm = nm'
    · by_cases h3 : l.length = l'.length
      · simp only [h1, h2, h3, decide_true, Bool.true_and] at hq
        simp [h1, h2, h3]
        refine SW.loopF (ι := { i : Nat // i ≤ l.length ∧ sameTs (l.drop i) (l'.drop i) = sameTs l l' }) (fun i => [(30, .d (.int .i64 i.1))]) (fun i => [(2, .cells [.d (.int .i64 op'), .d (.str nm'), .d (.sl (l.map tyC)), .d (.sl (strs ns)), .d (.int .i64 p.op), .d (.str p.name), .d (.int .i64 p.n), .d (.sl (p.kids.map prC)), .d (.sl (ps.map prC))]), (3, .cells [.d (.int .i64 op'), .d (.str nm'), .d (.sl (l'.map tyC)), .d (.sl (strs ns')), .d (.int .i64 p'.op), .d (.str p'.name), .d (.int .i64 p'.n), .d (.sl (p'.kids.map prC)), .d (.sl (ps'.map prC))])]) (fun _ => []) (fun i => l.length - i.1) ⟨0, by simp⟩ (by simp) ?_
        rintro ⟨i, hi, hR⟩
        try simp only at hi hR
        by_cases hlt : i < l.length
        · have hlt' : i < l'.length := by omega
          have hg := tys_get hlt
          have hg' := tys_get hlt'
          have hw := wrap64s (show i < 9223372036854775807 by omega)
          have hb2 := LnTs_get hL hlt
          rw [sameTs_drop hlt hlt'] at hR
          simp [hlt', hlt, hg, hg']
          refine ⟨.mk, ?_⟩
          refine callK.mk ent_types_Same (ih l[i] (List.getElem_mem hlt) l'[i] hb2) ?_
          cases hs : sameT l[i] l'[i]
          · rw [hs, Bool.false_and] at hR
            simp [hs, hq, ← hR]
          · rw [hs, Bool.true_and] at hR
            simp [hs]
            exact Again.mk ⟨i + 1, hlt, hR⟩ (by simp [hw]) (by simp; omega)
        · have : i = l.length := by omega
          subst this
          rw [sameTs_end] at hR
          simp [hq, ← hR, ← h3]
      · simp only [h1, h2, h3, decide_true, decide_false, Bool.true_and, Bool.false_and] at hq
        have h3' : ¬ ((l.length : Int) = (l'.length : Int)) := by omega
        simp [h1, h2, h3, h3', hq]
    · simp only [h1, h2, decide_true, decide_false, Bool.true_and, Bool.false_and] at hq
      simp [h1, h2, hq]
  · simp only [h1, decide_false, Bool.false_and] at hq
    simp [h1, hq]
theorem r19_Same_ln : ∀ t u : Ty, LnT 900000000 t → CS Tryd.prog G 37 [.agg (tyD t), .agg (tyD u)] (.d (.bool (sameT t u))) none := by
  refine Ty.ind fun t ih => ?_
  obtain ⟨op, nm, l, ns, p, ps⟩ := t
  rintro u ⟨hl, hns, hp, hps, hL⟩
  obtain ⟨op', nm', l', ns', p', ps'⟩ := u
  simp only at ih
  have hq := sameT_eq ⟨op, nm, l, ns, p, ps⟩ ⟨op', nm', l', ns', p', ps'⟩
  simp only at hq
  refine CS.of_VK Tryd.func37 rfl Tryd.ntmps37 rfl ?_
  by_cases h1 : op = op'
  · by_cases h2 : nm = nm'
    · by_cases h3 : l.length = l'.length
      · simp only [h1, h2, h3, decide_true, Bool.true_and] at hq
        simp [h1, h2, h3]
        refine SW.loopF (ι := { i : Nat // i ≤ l.length ∧ sameTs (l.drop i) (l'.drop i) = sameTs l l' }) (fun i => [(30, .d (.int .i64 i.1))]) (fun i => [(2, .cells [.d (.int .i64 op'), .d (.str nm'), .d (.sl (l.map tyC)), .d (.sl (strs ns)), .d (.int .i64 p.op), .d (.str p.name), .d (.int .i64 p.n), .d (.sl (p.kids.map prC)), .d (.sl (ps.map prC))]), (3, .cells [.d (.int .i64 op'), .d (.str nm'), .d (.sl (l'.map tyC)), .d (.sl (strs ns')), .d (.int .i64 p'.op), .d (.str p'.name), .d (.int .i64 p'.n), .d (.sl (p'.kids.map prC)), .d (.sl (ps'.map prC))])]) (fun _ => []) (fun i => l.length - i.1) ⟨0, by simp⟩ (by simp) ?_
        rintro ⟨i, hi, hR⟩
        try simp only at hi hR
        by_cases hlt : i < l.length
        · have hlt' : i < l'.length := by omega
          have hg := tys_get hlt
          have hg' := tys_get hlt'
          have hw := wrap64s (show i < 9223372036854775807 by omega)
          have hb2 := LnTs_get hL hlt
          rw [sameTs_drop hlt hlt'] at hR
          simp [hlt', hlt, hg, hg']
          refine ⟨.mk, ?_⟩
          refine callK.mk ent_r19_Same (ih l[i] (List.getElem_mem hlt) l'[i] hb2) ?_
          cases hs : sameT l[i] l'[i]
          · rw [hs, Bool.false_and] at hR
            simp [hs, hq, ← hR]
          · rw [hs, Bool.true_and] at hR
            simp [hs]
            exact Again.mk ⟨i + 1, hlt, hR⟩ (by simp [hw]) (by simp; omega)
        · have : i = l.length := by omega
          subst this
          rw [sameTs_end] at hR
          simp [hq, ← hR, ← h3]
      · simp only [h1, h2, h3, decide_true, decide_false, Bool.true_and, Bool.false_and] at hq
        have h3' : ¬ ((l.length : Int) = (l'.length : Int)) := by omega
        simp [h1, h2, h3, h3', hq]
    · simp only [h1, h2, decide_true, decide_false, Bool.true_and, Bool.false_and] at hq
      simp [h1, h2, hq]
  · simp only [h1, decide_false, Bool.false_and] at hq
    simp [h1, hq]
theorem addV_mono (op : Int) (nm : Nm) (acc : List Nm) : acc.length ≤ (addV op nm acc).length := by
  unfold addV
  split <;> simp
mutual
theorem vars_mono : ∀ (t : Ty) (acc : List Nm), acc.length ≤ (varsT t acc).length
  | ⟨op, nm, l, ns, p, ps⟩, acc => by
    have h1 := addV_mono op nm acc
    have h2 := varss_mono l (addV op nm acc)
    simp only [varsT]
    omega
theorem varss_mono : ∀ (l : List Ty) (acc : List Nm), acc.length ≤ (varsTs l acc).length
  | [], acc => by simp [varsTs]
  | t :: r, acc => by
    have h1 := vars_mono t acc
    have h2 := varss_mono r (varsT t acc)
    simp only [varsTs]
    omega
end
theorem varss_take (l : List Ty) (i : Nat) (acc : List Nm) : (varsTs (l.take i) acc).length ≤ (varsTs l acc).length := by
  have h : varsTs l acc = varsTs (l.drop i) (varsTs (l.take i) acc) := by rw [← varsTs_app, List.take_append_drop]
  rw [h]
  exact varss_mono _ _
theorem vars1_ln : ∀ (t : Ty) (acc : List Nm), LnT 900000000 t → (varsT t acc).length ≤ 1000000000 →
    CH Tryd.prog G 42 ⟨[.d (.agg (tyD t)), .ptr 100000 0, .ptr 100001 0, .ptr 100002 0], vH acc, [(9, [.c 100001 0])]⟩ ⟨[.tup []], vH (varsT t acc), [(9, [.c 100001 0])]⟩ := by
  refine Ty.ind fun t ih => ?_
  obtain ⟨op, nm, l, ns, p, ps⟩ := t
  rintro acc ⟨hl, hns, hp, hps, hL⟩ hacc
  simp only at ih
  refine CH.of_VK Tryd.func42 rfl Tryd.ntmps42 rfl (by simp) ?_
  have hv := varsT_eq ⟨op, nm, l, ns, p, ps⟩ acc
  simp only at hv
  have ha2 := addV_mono op nm acc
  have ha3 := varss_mono l (addV op nm acc)
  rw [hv] at hacc
  obtain ⟨acc2, hac⟩ : ∃ acc2, addV op nm acc = acc2 := ⟨_, rfl⟩
  rw [hac] at hv ha2 ha3 hacc
  by_cases h5 : op = 5
  · subst h5
    by_cases hm : nm ∈ acc
    · have : acc2 = acc := by rw [← hac]; simp [addV, hm]
      subst this
      simp [seen_find, hm, vH]
      refine SW.loopF (ι := { i : Nat // i ≤ l.length }) (fun i => [(28, .d (.int .i64 i.1))]) (fun i => (4, .cells [.d (.int .i64 5), .d (.str nm), .d (.sl (l.map tyC)), .d (.sl (strs ns)), .d (.int .i64 p.op), .d (.str p.name), .d (.int .i64 p.n), .d (.sl (p.kids.map prC)), .d (.sl (ps.map prC))]) :: vH (varsTs (l.take i.1) acc2)) (fun _ => [(9, [.c 100001 0])]) (fun i => l.length - i.1) ⟨0, by simp⟩ (by simp [varsTs, vH]) ?_
      rintro ⟨i, hi⟩
      by_cases hlt : i < l.length
      · have hg := tys_get hlt
        have hw := wrap64s (show i < 9223372036854775807 by omega)
        have hs := varsTs_step hlt acc2
        have hb := varss_take l (i + 1) acc2
        rw [hs] at hb
        simp [hlt, hg, vH]
        refine callHK.mk ent_vars1 (ih l[i] (List.getElem_mem hlt) (varsTs (l.take i) acc2) (LnTs_get hL hlt) (by omega)) [(100000, 100000), (100001, 100001), (100002, 100002), (100003, 100003)] (by simp [vH]) (by simp) (by simp [vH]) (by simp; rfl) (by simp) ?_
        simp [vH]
        exact Again.mk ⟨i + 1, hlt⟩ (by simp [hw, hs, vH]) (by simp; omega)
      · have : i = l.length := by omega
        subst this
        simp [vH, hv]
    · have : acc2 = acc ++ [nm] := by rw [← hac]; simp [addV, hm]
      subst this
      simp only [List.length_append, List.length_cons, List.length_nil] at ha3
      have hsz : (acc.length + 1) * 17 ≤ 140737488355328 := by omega
      simp [seen_find, hm, seen_set, vH, hsz]
      refine SW.loopF (ι := { i : Nat // i ≤ l.length }) (fun i => [(28, .d (.int .i64 i.1))]) (fun i => (4, .cells [.d (.int .i64 5), .d (.str nm), .d (.sl (l.map tyC)), .d (.sl (strs ns)), .d (.int .i64 p.op), .d (.str p.name), .d (.int .i64 p.n), .d (.sl (p.kids.map prC)), .d (.sl (ps.map prC))]) :: vH (varsTs (l.take i.1) (acc ++ [nm]))) (fun _ => [(9, [.c 100001 0])]) (fun i => l.length - i.1) ⟨0, by simp⟩ (by simp [varsTs, vH]) ?_
      rintro ⟨i, hi⟩
      by_cases hlt : i < l.length
      · have hg := tys_get hlt
        have hw := wrap64s (show i < 9223372036854775807 by omega)
        have hs := varsTs_step hlt (acc ++ [nm])
        have hb := varss_take l (i + 1) (acc ++ [nm])
        rw [hs] at hb
        simp [hlt, hg, vH]
        refine callHK.mk ent_vars1 (ih l[i] (List.getElem_mem hlt) (varsTs (l.take i) (acc ++ [nm])) (LnTs_get hL hlt) (by omega)) [(100000, 100000), (100001, 100001), (100002, 100002), (100003, 100003)] (by simp [vH]) (by simp) (by simp [vH]) (by simp; rfl) (by simp) ?_
        simp [vH]
        exact Again.mk ⟨i + 1, hlt⟩ (by simp [hw, hs, vH]) (by simp; omega)
      · have : i = l.length := by omega
        subst this
        simp [vH, hv]
  · have : acc2 = acc := by rw [← hac]; simp [addV, h5]
    subst this
    simp [h5, vH]
    refine SW.loopF (ι := { i : Nat // i ≤ l.length }) (fun i => [(28, .d (.int .i64 i.1))]) (fun i => (4, .cells [.d (.int .i64 op), .d (.str nm), .d (.sl (l.map tyC)), .d (.sl (strs ns)), .d (.int .i64 p.op), .d (.str p.name), .d (.int .i64 p.n), .d (.sl (p.kids.map prC)), .d (.sl (ps.map prC))]) :: vH (varsTs (l.take i.1) acc2)) (fun _ => [(9, [.c 100001 0])]) (fun i => l.length - i.1) ⟨0, by simp⟩ (by simp [varsTs, vH]) ?_
    rintro ⟨i, hi⟩
    by_cases hlt : i < l.length
    · have hg := tys_get hlt
      have hw := wrap64s (show i < 9223372036854775807 by omega)
      have hs := varsTs_step hlt acc2
      have hb := varss_take l (i + 1) acc2
      rw [hs] at hb
      simp [hlt, hg, vH]
      refine callHK.mk ent_vars1 (ih l[i] (List.getElem_mem hlt) (varsTs (l.take i) acc2) (LnTs_get hL hlt) (by omega)) [(100000, 100000), (100001, 100001), (100002, 100002), (100003, 100003)] (by simp [vH]) (by simp) (by simp [vH]) (by simp; rfl) (by simp) ?_
      simp [vH]
      exact Again.mk ⟨i + 1, hlt⟩ (by simp [hw, hs, vH]) (by simp; omega)
    · have : i = l.length := by omega
      subst this
      simp [vH, hv]
theorem types_Vars_ln (t : Ty) (hN : LnT 900000000 t) (hV : (varsT t []).length ≤ 1000000000) : CS Tryd.prog G 25 [.agg (tyD t)] (.d (.sl (strs (varsT t [])))) (some 9) := by
  refine CS.of_VK Tryd.func25 rfl Tryd.ntmps25 rfl ?_
  simp
  refine callHK.mk ent_vars1 (vars1_ln t [] hN hV) [(100000, 3), (100001, 4), (100002, 5), (100003, 6)] (by simp [vH]) (by simp) (by simp [vH]) (by simp; rfl) (by simp) ?_
  simp [vH]
/-! ### Terms -/
mutual
theorem LnT_tm {m : Nat} (hm : 1 ≤ m) : ∀ p : Tm, WT m p → LnT m (tyT p)
  | .var x, _ => by
    simp only [tyT, LnT, LnTs, zeroP, nodP, nodPs, List.length_nil]
    exact ⟨by omega, by omega, by omega, by omega, trivial⟩
  | .node op nm l, ⟨_, h, hw⟩ => by
    have := LnTs_tm hm l hw
    simp only [tyT, LnT, zeroP, nodP, nodPs, List.length_nil]
    exact ⟨by rw [tyTs_eq]; simpa using h, by omega, by omega, by omega, this⟩
theorem LnTs_tm {m : Nat} (hm : 1 ≤ m) : ∀ l : List Tm, WTs m l → LnTs m (tyTs l)
  | [], _ => trivial
  | t :: r, ⟨h1, h2⟩ => ⟨LnT_tm hm t h1, LnTs_tm hm r h2⟩
end
theorem addN_nodup {acc : List Nm} {s : Nm} (h : acc.Nodup) : (addN acc s).Nodup := by
  unfold addN
  split
  · exact h
  · rename_i hs
    rw [List.nodup_append]
    refine ⟨h, by simp, fun a ha b hb => ?_⟩
    simp at hb
    subst hb
    exact fun e => hs (e ▸ ha)
theorem addAll_nodup : ∀ (l acc : List Nm), acc.Nodup → (addAll acc l).Nodup
  | [], _, h => h
  | s :: r, acc, h => addAll_nodup r (addN acc s) (addN_nodup h)
theorem vars_nodup (t : Ty) (acc : List Nm) (h : acc.Nodup) : (varsT t acc).Nodup := by
  rw [vars_raw]
  exact addAll_nodup _ _ h
theorem nodup_len : ∀ {l k : List Nm}, l.Nodup → (∀ x ∈ l, x ∈ k) → l.length ≤ k.length
  | [], _, _, _ => by simp
  | a :: l, k, h, hs => by
    rw [List.nodup_cons] at h
    have ha : a ∈ k := hs a (by simp)
    have := nodup_len (l := l) (k := k.erase a) h.2 fun x hx => by
      have hne : x ≠ a := fun e => h.1 (e ▸ hx)
      exact (List.mem_erase_of_ne hne).2 (hs x (by simp [hx]))
    rw [List.length_erase_of_mem ha] at this
    have hp := List.length_pos_of_mem ha
    simp only [List.length_cons]
    omega
/-! ### What Unify gives -/
abbrev allV (s t : Ty) : List Nm := varsT (bareT t) (varsT (bareT s) [])
theorem allV_s {s t : Ty} {y : Nm} (h : occ y (tmT s) = true) : y ∈ allV s t := by
  unfold allV
  rw [bare_tm t, vars_occ (WT_any t), bare_tm s, vars_occ (WT_any s)]
  exact .inl (.inr h)
theorem allV_t {s t : Ty} {y : Nm} (h : occ y (tmT t) = true) : y ∈ allV s t := by
  unfold allV
  rw [bare_tm t, vars_occ (WT_any t)]
  exact .inr h
theorem unify_ex (G : GT) (s t : Ty) (hs : nodT s ≤ 1000000) (ht : nodT t ≤ 1000000) : ∃ b θ ok, Res (fun x => findI x (allV s t) 0) (allV s t) [] (fun _ => none) [(tmT s, tmT t)] b θ ok ∧ WB 1000000 b ∧
    CS Tryd.prog G 7 [.agg (tyD s), .agg (tyD t)] (if ok then .tup [.sl (strs (bndN b (allV s t))), .sl ((bndN b (allV s t)).map fun x => tyC (tyT (sub θ (.var x)))), .bool true] else .tup [.sl [], .sl [], .bool false]) none := by
  have hcl : CL (allV s t) [(tmT s, tmT t)] := fun p hp => by
    simp at hp
    subst hp
    exact ⟨fun y hy => allV_s hy, fun y hy => allV_t hy⟩
  have hcb : CB (allV s t) [] := fun x u h => by simp [look_nil] at h
  obtain ⟨b, θ, ok, R⟩ := PU.ex (ord := fun x => findI x (allV s t) 0) (U := allV s t) _ _ [] (fun _ => none) [(tmT s, tmT t)] BInv.nil hcb hcl (Nat.le_refl _) (Nat.le_refl _)
  obtain ⟨h1, h2, h3⟩ := PU.chain (G := G) 1000000 (by omega) (allV s t) R.pu (fun x u h => by simp [look_nil] at h) (fun p hp => by
    simp at hp
    subst hp
    exact ⟨WT_tm s hs, WT_tm t ht⟩) hcb hcl
  exact ⟨b, θ, ok, R, h2, types_Unify_cs s t hs ht h1 R.inv h2⟩
theorem bnd_look {b : Bd} {all : List Nm} {x : Nm} : x ∈ bndN b all ↔ x ∈ all ∧ look b x ≠ none := by
  unfold bndN
  rw [List.mem_filter]
  cases look b x <;> simp
/-- What stands at a name's place. -/
theorem find_at {x : Nm} {l : List Nm} (h : x ∈ l) : ∃ k : Nat, findI x l 0 = (k : Int) ∧ ∃ hk : k < l.length, l[k] = x := by
  suffices g : ∀ (l : List Nm) (i : Nat), x ∈ l → ∃ k : Nat, findI x l i = ((i + k : Nat) : Int) ∧ ∃ hk : k < l.length, l[k] = x by
    simpa using g l 0 h
  intro l
  induction l with
  | nil => intro i h; simp at h
  | cons a r ih =>
    intro i h
    unfold findI
    by_cases ha : a = x
    · subst ha
      exact ⟨0, by simp, by simp, rfl⟩
    · have hm := (List.mem_cons.1 h).resolve_left fun e => ha e.symm
      obtain ⟨k, h1, hk, h2⟩ := ih (i + 1) hm
      refine ⟨k + 1, ?_, by simpa using hk, by simpa using h2⟩
      rw [if_neg ha, h1]
      congr 1
      omega
theorem rho_map (n : List Nm) (f : Nm → Tm) (x : Nm) : rho n (n.map f) x = if x ∈ n then some (f x) else none := by
  unfold rho
  by_cases h : x ∈ n
  · obtain ⟨k, h1, hk, h2⟩ := find_at h
    simp [h1, h, hk, h2]
  · have := (find_neg x n).2 h
    have h0 : ¬ 0 ≤ findI x n 0 := by omega
    simp [h0, h]
/-- The bound variables' replacement is what was found. -/
theorem rho_theta {b : Bd} {θ : Sb} (I : BInv b θ) {all : List Nm} {p : Tm} (hp : ∀ y, occ y p = true → y ∈ all) : sub (rho (bndN b all) ((bndN b all).map fun x => sub θ (.var x))) p = sub θ p := by
  refine sub_congr fun y hy => ?_
  rw [rho_map]
  have h := I.dom y
  cases hq : θ y with
  | none =>
    have : y ∉ bndN b all := fun hm => (bnd_look.1 hm).2 (h.2 hq)
    simp [this]
  | some u =>
    have : y ∈ bndN b all := bnd_look.2 ⟨hp y hy, fun e => by rw [h.1 e] at hq; cases hq⟩
    simp [this, sub, hq]
end Go.Proofs.YtcmpodbjhoeblaaDoor
