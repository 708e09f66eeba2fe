/- The reference: Unify gives what the program's Unify gives. No condition. -/
import Derived.Test.YtcmpodbjhoeblaaDoorWe
import Derived.Test.YtcmpodbjhoeblaaDoorVmZ
set_option linter.unusedVariables false
set_option linter.unusedSimpArgs false
set_option linter.unusedSectionVars false
namespace Go.Proofs.YtcmpodbjhoeblaaDoor
open Go Go.VM
set_option maxRecDepth 100000
set_option maxHeartbeats 8000000
variable {G : GT}
mutual
theorem hgt_tm : ∀ t : Ty, hgt (tmT t) ≤ nodT t
  | ⟨op, nm, l, ns, p, ps⟩ => by
    have := hgts_tm l
    simp only [tmT, nodT]
    split
    · simp only [hgt]; omega
    · simp only [hgt]; omega
theorem hgts_tm : ∀ l : List Ty, hgts (tmTs l) ≤ nodTs l
  | [] => by simp [tmTs, hgts]
  | t :: r => by
    have h1 := hgt_tm t
    have h2 := hgts_tm r
    simp only [tmTs, hgts, nodTs]
    omega
end
mutual
theorem raw_bare {x : Nm} : ∀ t : Ty, x ∈ rawT (bareT t) → x ∈ rawT t
  | ⟨op, nm, l, ns, p, ps⟩, h => by
    have := raws_bare (x := x) l
    simp only [bareT, rawT] at h ⊢
    rw [List.mem_append] at h ⊢
    rcases h with h | h
    · exact .inl h
    · split at h
      · simp [rawTs] at h
      · exact .inr (this h)
theorem raws_bare {x : Nm} : ∀ l : List Ty, x ∈ rawTs (bareTs l) → x ∈ rawTs l
  | [], h => by simp [bareTs, rawTs] at h
  | t :: r, h => by
    have h1 := raw_bare (x := x) t
    have h2 := raws_bare (x := x) r
    simp only [bareTs, rawTs, List.mem_append] at h ⊢
    rcases h with h | h
    · exact .inl (h1 h)
    · exact .inr (h2 h)
end
theorem allV_len (s t : Ty) : (allV s t).length ≤ (varsT s []).length + (varsT t []).length := by
  have h : (allV s t).length ≤ (varsT s [] ++ varsT t []).length := nodup_len (vars_nodup _ _ (vars_nodup _ _ List.nodup_nil)) fun x hx => by
    simp only [allV, vars_raw, addAll_iff] at hx
    simp only [vars_raw, List.mem_append, addAll_iff]
    rcases hx with (h | h) | h
    · cases h
    · exact .inl (.inr (raw_bare s h))
    · exact .inr (.inr (raw_bare t h))
  simpa using h
/-- What stands at a variable's place in a solution. -/
theorem sol_at {s : Bd} {x : Nm} {u : Tm} (h : look s x = some u) : ∃ k : Nat, findI x (s.map (·.1)) 0 = (k : Int) ∧ ∃ hk : k < s.length, s[k].2 = u := by
  have := rho_look s
  have e : rho (s.map (·.1)) (s.map (·.2)) x = some u := by rw [this]; exact h
  unfold rho at e
  split at e
  · rename_i h0
    obtain ⟨hk, he⟩ := List.getElem?_eq_some_iff.1 e
    refine ⟨(findI x (s.map (·.1)) 0).toNat, by omega, by simpa using hk, by simpa using he⟩
  · cases e
theorem sol_no {s : Bd} {x : Nm} (h : look s x = none) : findI x (s.map (·.1)) 0 < 0 := (find_neg x _).2 (look_mem.1 h)
/-- What is bound in the end are variables of both types. -/
theorem ru_len {pos : Nm → Int} {m H : Nat} {U : List Nm} {O : List Tm} (h1 : 1 ≤ H) {l : List (Tm × Tm)} {s : Bd} {r : Option Bd} (h : RU pos l s r) : LInv m H U O l s → (∀ p ∈ l, WT m p.1 ∧ WT m p.2) → WS m s → ∀ s', r = some s' → s'.length ≤ U.length := by
  have hone : ∀ n : Nat, 1 ≤ H * 2 ^ n := fun n => Nat.mul_pos (by omega) (Nat.pow_pos (by omega))
  have deep : ∀ {a c : Tm} {l : List (Tm × Tm)} {s : Bd}, LInv m H U O ((a, c) :: l) s → hgt (sub (look s) a) ≤ H * 2 ^ s.length ∧ hgt (sub (look s) c) ≤ H * 2 ^ s.length := fun I => by
    obtain ⟨⟨t, ht, q1⟩, t', ht', q2⟩ := I.head
    exact ⟨Nat.le_trans q1 (I.top t ht), Nat.le_trans q2 (I.top t' ht')⟩
  have vin : ∀ {t : Tm} {a c : Tm} {l : List (Tm × Tm)} {s : Bd}, LInv m H U O ((a, c) :: l) s → (t = sub (look s) a ∨ t = sub (look s) c) → ∀ y, occ y t = true → look s y = none ∧ y ∈ U := fun I ht y hy => by
    obtain ⟨q1, q2⟩ := I.cu _ (List.mem_cons_self ..)
    rcases ht with rfl | rfl
    · exact ⟨I.idem hy, q1 y hy⟩
    · exact ⟨I.idem hy, q2 y hy⟩
  induction h with
  | nil =>
    intro I _ _ s' e
    cases e
    exact I.size
  | same _ _ _ ih => exact fun I hwl hws => ih I.next (fun p hp => hwl p (List.mem_cons_of_mem _ hp)) hws
  | @vv a c x y l s r ea ec hxy ho _ ih =>
    intro I hwl hws
    have vx := vin I (.inl ea.symm) x (by simp [occ])
    exact ih (I.bind vx.1 vx.2 (by simp [occ]; exact fun e => hxy e.symm) (vin I (.inr ec.symm)) (by simp only [hgt]; exact hone _)) (fun p hp => hwl p (List.mem_cons_of_mem _ hp)) (WS_bind hws trivial)
  | @ww a c x y l s r ea ec hxy ho _ ih =>
    intro I hwl hws
    have vy := vin I (.inr ec.symm) y (by simp [occ])
    exact ih (I.bind vy.1 vy.2 (by simp [occ]; exact fun e => hxy e) (vin I (.inl ea.symm)) (by simp only [hgt]; exact hone _)) (fun p hp => hwl p (List.mem_cons_of_mem _ hp)) (WS_bind hws trivial)
  | @vn a c x op nm k l s r ea ec e0 _ ih =>
    intro I hwl hws
    obtain ⟨q1, q2⟩ := hwl _ (List.mem_cons_self ..)
    have vx := vin I (.inl ea.symm) x (by simp [occ])
    have hu := WS_sub hws q2
    rw [ec] at hu
    have hd := (deep I).2
    rw [ec] at hd
    exact ih (I.bind vx.1 vx.2 e0 (vin I (.inr ec.symm)) hd) (fun p hp => hwl p (List.mem_cons_of_mem _ hp)) (WS_bind hws hu)
  | @nv a c x op nm k l s r ea ec e0 _ ih =>
    intro I hwl hws
    obtain ⟨q1, q2⟩ := hwl _ (List.mem_cons_self ..)
    have vx := vin I (.inr ec.symm) x (by simp [occ])
    have hu := WS_sub hws q1
    rw [ea] at hu
    have hd := (deep I).1
    rw [ea] at hd
    exact ih (I.bind vx.1 vx.2 e0 (vin I (.inl ea.symm)) hd) (fun p hp => hwl p (List.mem_cons_of_mem _ hp)) (WS_bind hws hu)
  | vf => exact fun _ _ _ _ e => by cases e
  | nf => exact fun _ _ _ _ e => by cases e
  | clash => exact fun _ _ _ _ e => by cases e
  | dec ea ec hk _ ih =>
    intro I hwl hws
    obtain ⟨q1, q2⟩ := hwl _ (List.mem_cons_self ..)
    have hu := WS_sub hws q1
    have hu' := WS_sub hws q2
    rw [ea] at hu
    rw [ec] at hu'
    exact ih (I.dec ea ec hk hu.2.1) (fun p hp => by
      rcases List.mem_append.1 hp with hp | hp
      · exact WL_zip2 hu.2.2 hu'.2.2 p hp
      · exact hwl p (List.mem_cons_of_mem _ hp)) hws
theorem ent_r19_Unify : VM.Enters Tryd.prog 8 := VM.Enters.mk Tryd.func8 rfl
theorem r19_Unify_cs (s t : Ty) (hs : nodT s ≤ 100) (ht : nodT t ≤ 100) (hv : (allV s t).length ≤ 12) {b : Bd} {θ : Sb} {ok : Bool} (R : Res (fun x => findI x (allV s t) 0) (allV s t) [] (fun _ => none) [(tmT s, tmT t)] b θ ok) :
    CS Tryd.prog G 8 [.agg (tyD s), .agg (tyD t)] (if ok then .tup [.sl (strs (bndN b (allV s t))), .sl ((bndN b (allV s t)).map fun x => tyC (tyT (sub θ (.var x)))), .bool true] else .tup [.sl [], .sl [], .bool false]) none := by
  have q1 := nod_bare s
  have q2 := nod_bare t
  have I0 : LInv 100 100 (allV s t) [tmT s, tmT t] [(tmT s, tmT t)] [] := LInv.start (fun y hy => allV_s hy) (fun y hy => allV_t hy) (Nat.le_trans (hgt_tm s) hs) (Nat.le_trans (hgt_tm t) ht) (by omega)
  have hB : 100 * (100 * 2 ^ (allV s t).length) ≤ 100000000000 := by
    have := Nat.pow_le_pow_right (n := 2) (by omega) hv
    omega
  have keyl : ∀ s', RU (fun x => findI x (allV s t) 0) [(tmT s, tmT t)] [] (some s') → s'.length ≤ (allV s t).length := fun s' h => ru_len (m := 100) (H := 100) (by omega) h I0 (fun p hp => by
    simp only [List.mem_singleton] at hp
    subst hp
    exact ⟨WT_tm s hs, WT_tm t ht⟩) (fun p hp => by cases hp) s' rfl
  have key : ∀ r, RU (fun x => findI x (allV s t) 0) [(tmT s, tmT t)] [] r → UniCS G (allV s t) [(tmT s, tmT t)] [] r := fun r h => unify_ru (m := 100) (H := 100) (by omega) (by omega) (by omega) hB h I0 (fun p hp => by
    simp only [List.mem_singleton] at hp
    subst hp
    exact ⟨WT_tm s hs, WT_tm t ht⟩) (fun p hp => by cases hp)
  have hlv : (varsT (bareT s) []).length ≤ 1000000 := by
    have := varsT_len (bareT s) []
    simp at this
    omega
  have hc1 : CH Tryd.prog G 15 ⟨[.d (.agg (tyD (bareT s))), .d .nils], [], []⟩ ⟨[.d (.sl (strs (varsT (bareT s) [])))], [], [(9, [.t 0])]⟩ := r19_vars_nil (bareT s) (by omega)
  have hc2 := r19_vars_ch (G := G) (bareT t) (varsT (bareT s) []) (by have := varsT_len (bareT s) []; simp at this; omega)
  obtain ⟨all, hall⟩ : ∃ all, allV s t = all := ⟨_, rfl⟩
  rw [hall] at key keyl hv R
  simp only [hall]
  have hall2 : varsT (bareT t) (varsT (bareT s) []) = all := hall
  rw [hall2] at hc2
  have bs := bare_tm s
  have bt := bare_tm t
  refine CS.of_SWK Tryd.func8 rfl Tryd.ntmps8 rfl ?_
  refine SW.seqq (SW.vk ?_)
  simp
  refine SW.seqq (SW.vk ?_)
  simp
  refine ⟨.mk, ?_⟩
  refine callK.mk ent_r19_bare (r19_bare_cs s (by omega)) ?_
  simp
  refine callK.mk ent_r19_bare (r19_bare_cs t (by omega)) ?_
  simp
  refine SW.cutF [(7, .d (.sl (strs all)))] [(2, tyB (bareT s)), (3, tyB (bareT t))] [] (SW_imp 2 [1] (.op 0 (.call [3, 4] .none) (.call [0, 3, 4] .none)) (by kernel_rfl) (by kernel_rfl) ?_) ?_
  · simp
    refine ⟨?_, ?_⟩
    all_goals
      refine callK.own ent_r19_vars hc1 (by simp) (by simp) (by simp) (by simp; rfl) (by simp) ?_
      simp
      refine callK.own ent_r19_vars hc2 (by simp) (by simp) (by simp) (by simp; rfl) (by simp) ?_
      simp
  have hl1 : all.length ≤ 1000000 := by omega
  refine SW.vk ?_
  have arg : ∀ r, UniCS G all [(tmT s, tmT t)] [] r → CS Tryd.prog G 30 [.sl [tyD (bareT s) ++ tyD (bareT t)], .agg [.nils, .nils], .sl (strs all)] (uniR r) none := fun r h => by
    rw [bs, bt]
    exact CS.args (ds' := [.sl ([(tmT s, tmT t)].map eqD), .agg (slD []), .sl (strs all)]) h (by simp)
  cases ok with
  | false =>
    have hU := arg none (key none (((R.ref [] look_nil).2 rfl [(tmT s, tmT t)] [] (Eqv.refl _ _))))
    simp only [uniR, tyD] at hU
    simp
    refine callK.mk ent_r19_unify hU ?_
    simp
  | true =>
    obtain ⟨s', hlk, hR⟩ := (R.ref [] look_nil).1 rfl
    have hR1 := hR [(tmT s, tmT t)] [] (some s') (Eqv.refl _ _) .nil
    have hU := arg (some s') (key (some s') hR1)
    have hsl : s'.length ≤ all.length := keyl s' hR1
    have e2 : ∀ i (h1 : i < all.length) (k : Nat) (hk : k < s'.length), look s' all[i] = some s'[k].2 → (look b all[i]).isSome ∧ sub θ (.var all[i]) = s'[k].2 := fun i h1 k hk he => by
      rw [hlk] at he
      refine ⟨?_, by simp [sub, he]⟩
      cases hq : look b all[i] with
      | none => rw [(R.inv.dom _).1 hq] at he; cases he
      | some _ => rfl
    have e3 : ∀ i (h1 : i < all.length), look s' all[i] = none → (look b all[i]).isSome = false := fun i h1 he => by
      rw [hlk] at he
      rw [(R.inv.dom _).2 he]
      rfl
    have lN : (s'.map (·.1)).length ≤ 1000000 := by simp; omega
    have lT : ∀ k (hk : k < s'.length), (s'.map fun p => tyC (tyT p.2))[k]? = some (tyC (tyT s'[k].2)) := fun k hk => by simp [hk]
    have lTl : (s'.map fun p => tyC (tyT p.2)).length = s'.length := by simp
    have lF : ∀ x, findI x (s'.map (·.1)) 0 < 0 ∨ findI x (s'.map (·.1)) 0 < (s'.length : Int) := fun x => by
      cases hq : look s' x with
      | none => exact .inl (sol_no hq)
      | some u =>
        obtain ⟨k, hk, hk2, _⟩ := sol_at hq
        exact .inr (by omega)
    obtain ⟨N, hN⟩ : ∃ N, s'.map (·.1) = N := ⟨_, rfl⟩
    obtain ⟨T, hT⟩ : ∃ T, (s'.map fun p => tyC (tyT p.2)) = T := ⟨_, rfl⟩
    simp only [uniR, slD, hN, hT, tyD] at hU
    have sat : ∀ {x : Nm} {u : Tm}, look s' x = some u → ∃ k : Nat, findI x N 0 = (k : Int) ∧ ∃ hk : k < s'.length, s'[k].2 = u := fun h => by rw [← hN]; exact sol_at h
    have sno : ∀ {x : Nm}, look s' x = none → findI x N 0 < 0 := fun h => by rw [← hN]; exact sol_no h
    rw [hN] at lN
    rw [hT] at lT lTl
    simp
    refine callK.mk ent_r19_unify hU ?_
    simp
    refine SW.loopF (ι := { i : Nat // i ≤ all.length }) (fun i => [(10, .d (.sl (strs (bndN b (all.take i.1))))), (11, .d (.sl ((bndN b (all.take i.1)).map fun x => tyC (tyT (sub θ (.var x)))))), (37, .d (.int .i64 i.1))]) (fun i => [(2, tyB (bareT s)), (3, tyB (bareT t)), (8, .cells [.d (.sl (strs N)), .d (.sl T)])]) (fun _ => [(9, [.t 10]), (30, [.t 11])]) (fun i => all.length - i.1) ⟨0, by simp⟩ (by simp [bndN]) ?_
    rintro ⟨i, hi⟩
    by_cases hlt : i < all.length
    · have hg := strs_get hlt
      have hw := wrap64s (show i < 9223372036854775807 by omega)
      have hst := bndN_step (b := b) hlt
      have hbl := bndN_len b (all.take i)
      simp only [List.length_take] at hbl
      cases hq : look s' all[i] with
      | none =>
        have hb := e3 i hlt hq
        have hf := sno hq
        have hf' : ¬ 0 ≤ findI all[i] N 0 := by omega
        rw [hb] at hst
        simp at hst
        simp [hlt, hg]
        refine callK.mk ent_r4_Find (r4_Find_cs N all[i] lN) ?_
        simp [hf']
        exact Again.mk ⟨i + 1, hlt⟩ (by simp [hw, hst]) (by simp; omega)
      | some u =>
        obtain ⟨k, hk, hk2, hk3⟩ := sat hq
        obtain ⟨hb, he⟩ := e2 i hlt k hk2 (by rw [hk3]; exact hq)
        have hTk := lT k hk2
        have hkT : k < T.length := by omega
        rw [List.getElem?_eq_getElem hkT] at hTk
        have hTk := Option.some.inj hTk
        rw [hb] at hst
        simp at hst
        simp [hlt, hg]
        refine callK.mk ent_r4_Find (r4_Find_cs N all[i] lN) ?_
        simp [hk]
        repeat (refine stepK_len (by first | omega | (simp; omega)) ?_; simp)
        simp [hkT, hTk]
        repeat (refine stepK_len (by first | omega | (simp; omega)) ?_; simp)
        exact Again.mk ⟨i + 1, hlt⟩ (by simp [hw, hst, strs_app, he]) (by simp; omega)
    · have : i = all.length := by omega
      subst this
      rw [List.take_length]
      simp
end Go.Proofs.YtcmpodbjhoeblaaDoor
