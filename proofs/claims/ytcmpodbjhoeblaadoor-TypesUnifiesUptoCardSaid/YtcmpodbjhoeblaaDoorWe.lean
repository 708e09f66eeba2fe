/- The reference: two compounds are taken apart; equations solved. No condition. -/
import Derived.Test.YtcmpodbjhoeblaaDoorWd
set_option linter.unusedVariables false
set_option linter.unusedSimpArgs false
set_option linter.unusedSectionVars false
namespace Go.Proofs.YtcmpodbjhoeblaaDoor
open Go Go.VM
set_option maxRecDepth 100000
set_option maxHeartbeats 8000000
variable {G : GT}
theorem eqD_len (p : Tm × Tm) : (eqD p).length = 18 := by simp
variable {m : Nat} (hm : m ≤ 900000000) {all : List Nm} (hall : all.length ≤ 1000000) {l : List (Tm × Tm)} (hl : l.length ≤ 100000000000) {s : Bd} (hs : s.length ≤ 1000000) (hw : WS m s) {a c : Tm} (ha : WT m a) (hc : WT m c)
include hm hall hl hs hw ha hc
theorem unify_dec_r {op : Int} {nm : Nm} {k k' : List Tm} {r : Option Bd} (ea : sub (look s) a = .node op nm k) (ec : sub (look s) c = .node op nm k') (h5 : ¬ op = 5) (hk : k.length = k'.length) (hk9 : k.length ≤ 900000000) (h : UniCS G all (k.zip k' ++ l) s r) : UniCS G all ((a, c) :: l) s r := by
  have e1 : (tyTs k).length = k.length := by rw [tyTs_eq]; simp
  have e2 : (tyTs k').length = k.length := by rw [tyTs_eq]; simp [hk]
  have hz : (k.zip k').length = k.length := by rw [List.length_zip, hk]; omega
  obtain ⟨Z, hZ⟩ : ∃ Z, (k.zip k').map eqD = Z := ⟨_, rfl⟩
  have lZ : Z.length = k.length := by rw [← hZ]; simpa using hz
  have h18 : ∀ x ∈ Z, x.length = 18 := fun x hx => by
    rw [← hZ] at hx
    obtain ⟨y, _, rfl⟩ := List.mem_map.1 hx
    exact eqD_len y
  have hl18 : ∀ x ∈ l.map eqD, x.length = 18 := fun x hx => by
    obtain ⟨y, _, rfl⟩ := List.mem_map.1 hx
    exact eqD_len y
  have hstep : ∀ i (h1 : i < k.length) (h2 : i < k'.length), Z.take (i + 1) = Z.take i ++ [tmD k[i] ++ tmD k'[i]] := fun i h1 h2 => by
    rw [List.take_succ_eq_append_getElem (by omega)]
    simp [← hZ]
  unfold UniCS at h
  rw [List.map_append, hZ] at h
  have hSa := r19_subst_s (G := G) hm s hs hw a ha
  have hSc := r19_subst_s (G := G) hm s hs hw c hc
  rw [ea] at hSa
  rw [ec] at hSc
  have hln : List.take l.length (List.map eqD l) = List.map eqD l := List.take_of_length_le (by simp)
  obtain ⟨N, hN⟩ : ∃ N, strs (s.map (·.1)) = N := ⟨_, rfl⟩
  obtain ⟨T, hT⟩ : ∃ T, (s.map fun p => tyC (tyT p.2)) = T := ⟨_, rfl⟩
  rw [hN, hT] at hSa hSc
  simp only [slD, hN, hT] at h
  simp [tmD, tyT, zeroP] at hSa hSc
  refine CS.of_VK Tryd.func30 rfl Tryd.ntmps30 rfl ?_
  simp only [slD, hN, hT]
  simp
  refine ⟨.mk, ?_⟩
  refine callK.mk ent_r19_Subst hSa ?_
  simp
  refine ⟨.mk, ?_⟩
  refine callK.mk ent_r19_Subst hSc ?_
  obtain ⟨K, hK⟩ : ∃ K, tyTs k = K := ⟨_, rfl⟩
  obtain ⟨K', hK'⟩ : ∃ K', tyTs k' = K' := ⟨_, rfl⟩
  rw [hK] at e1
  rw [hK'] at e2
  simp only [hK, hK']
  simp [h5]
  refine ⟨.mk, ?_⟩
  simp [h5, e1, e2, hln]
  refine SW.loopF (ι := { i : Nat // i ≤ k.length }) (fun i => [(12, .d (.sl (Z.take i.1))), (124, .d (.int .i64 i.1))]) (fun i => [(4, .cells [.d (.sl N), .d (.sl T)]), (6, .cells [.d .nils, .d .nils]), (8, .cells [.d (.int .i64 op), .d (.str nm), .d (.sl (K.map tyC)), .d (.sl []), .d (.int .i64 0), .d (.str []), .d (.int .i64 0), .d (.sl []), .d (.sl [])]), (9, .cells [.d (.int .i64 op), .d (.str nm), .d (.sl (K'.map tyC)), .d (.sl []), .d (.int .i64 0), .d (.str []), .d (.int .i64 0), .d (.sl []), .d (.sl [])])]) (fun _ => [(65, [.t 12])]) (fun i => k.length - i.1) ⟨0, by simp⟩ (by simp) ?_
  rintro ⟨i, hi⟩
  by_cases hlt : i < k.length
  · have hlt' : i < k'.length := by omega
    have hg : (K.map tyC)[i]? = some (tmD k[i]) := by rw [← hK, tyTs_eq]; simp [hlt, tyC_eq]
    have hg' : (K'.map tyC)[i]? = some (tmD k'[i]) := by rw [← hK', tyTs_eq]; simp [hlt', tyC_eq]
    have hw2 := wrap64s (show i < 9223372036854775807 by omega)
    have hst := hstep i hlt hlt'
    have h18' : ∀ x ∈ Z.take i, x.length = 18 := fun x hx => h18 x (List.mem_of_mem_take hx)
    obtain ⟨M, hM⟩ : ∃ M, K.map tyC = M := ⟨_, rfl⟩
    obtain ⟨M', hM'⟩ : ∃ M', K'.map tyC = M' := ⟨_, rfl⟩
    have lM : M.length = k.length := by rw [← hM]; simpa using e1
    have lM' : M'.length = k.length := by rw [← hM']; simpa using e2
    have hiM : i < M.length := by omega
    have hiM' : i < M'.length := by omega
    rw [hM] at hg
    rw [hM'] at hg'
    rw [List.getElem?_eq_getElem hiM] at hg
    rw [List.getElem?_eq_getElem hiM'] at hg'
    have hg := Option.some.inj hg
    have hg' := Option.some.inj hg'
    simp only [hM, hM']
    simp [hlt, hiM, hiM', hg, hg']
    refine ⟨.mk, ?_⟩
    refine stepK_len ⟨h18', by omega⟩ ?_
    simp
    exact Again.mk ⟨i + 1, hlt⟩ (by simp [hw2, hst, hM, hM']) (by simp; omega)
  · have e : i = k.length := by omega
    subst e
    have hZt : Z.take k.length = Z := List.take_of_length_le (by omega)
    simp only [hZt]
    simp
    refine ⟨.mk, ?_⟩
    refine stepK_len ⟨h18, by omega⟩ ?_
    simp
    cases r
    all_goals
      refine callK.mk ent_r19_unify h ?_
      simp
omit hm hall hl hs hw ha hc
theorem WS_bind {x : Nm} {u : Tm} (h : WS m s) (hu : WT m u) : WS m (bindS s x u) := fun p hp => by
  unfold bindS at hp
  rcases List.mem_append.1 hp with hp | hp
  · obtain ⟨q, hq, rfl⟩ := List.mem_map.1 hp
    refine WT_sub (fun y v hv => ?_) q.2 (h q hq)
    unfold one at hv
    split at hv
    · cases hv; exact hu
    · cases hv
  · simp only [List.mem_singleton] at hp
    subst hp
    exact hu
theorem WS_look {x : Nm} {u : Tm} (h : WS m s) (hx : look s x = some u) : WT m u := by
  unfold look at hx
  obtain ⟨p, hp, rfl⟩ := Option.map_eq_some_iff.1 hx
  exact h p (List.mem_of_find?_eq_some hp)
theorem WS_sub (h : WS m s) {t : Tm} (ht : WT m t) : WT m (sub (look s) t) := WT_sub (fun _ _ hx => WS_look h hx) t ht
theorem WL_zip2 : ∀ {k k' : List Tm}, WTs m k → WTs m k' → ∀ p ∈ k.zip k', WT m p.1 ∧ WT m p.2
  | [], _, _, _ => by intro p hp; simp at hp
  | t :: r, [], _, _ => by intro p hp; simp at hp
  | t :: r, t' :: r', ⟨h1, h2⟩, ⟨h3, h4⟩ => by
    intro p hp
    rw [List.zip_cons_cons, List.mem_cons] at hp
    rcases hp with rfl | hp
    · exact ⟨h1, h3⟩
    · exact WL_zip2 h2 h4 p hp
theorem vars_few {U : List Nm} {t : Tm} (ht : WT m t) (h : CU U t) : (varsT (tyT t) []).length ≤ U.length :=
  nodup_len (vars_nodup (tyT t) [] List.nodup_nil) fun x hx => h x (((vars_occ ht []).1 hx).resolve_left (by simp))
/-- EQUATIONS ARE SOLVED. -/
theorem unify_ru {H : Nat} {O : List Tm} (h1 : 1 ≤ H) (hm : m ≤ 1000000) (hall : all.length ≤ 1000000) (hB : m * (H * 2 ^ all.length) ≤ 100000000000) {l : List (Tm × Tm)} {s : Bd} {r : Option Bd} (h : RU (fun x => findI x all 0) l s r) : LInv m H all O l s → (∀ p ∈ l, WT m p.1 ∧ WT m p.2) → WS m s → UniCS G all l s r := by
  have hm9 : m ≤ 900000000 := by omega
  have hone : ∀ n : Nat, 1 ≤ H * 2 ^ n := fun n => Nat.mul_pos (by omega) (Nat.pow_pos (by omega))
  have len : ∀ {a c : Tm} {l : List (Tm × Tm)} {s : Bd}, LInv m H all O ((a, c) :: l) s → l.length ≤ 100000000000 ∧ s.length ≤ 1000000 := fun I => ⟨Nat.le_trans I.next.len hB, Nat.le_trans I.size hall⟩
  have deep : ∀ {a c : Tm} {l : List (Tm × Tm)} {s : Bd}, LInv m H all O ((a, c) :: l) s → hgt (sub (look s) a) ≤ H * 2 ^ s.length ∧ hgt (sub (look s) c) ≤ H * 2 ^ s.length := fun I => by
    obtain ⟨⟨t, ht, q1⟩, t', ht', q2⟩ := I.head
    exact ⟨Nat.le_trans q1 (I.top t ht), Nat.le_trans q2 (I.top t' ht')⟩
  have vin : ∀ {t : Tm} {a c : Tm} {l : List (Tm × Tm)} {s : Bd}, LInv m H all O ((a, c) :: l) s → (t = sub (look s) a ∨ t = sub (look s) c) → ∀ y, occ y t = true → look s y = none ∧ y ∈ all := fun I ht y hy => by
    obtain ⟨q1, q2⟩ := I.cu _ (List.mem_cons_self ..)
    rcases ht with rfl | rfl
    · exact ⟨I.idem hy, q1 y hy⟩
    · exact ⟨I.idem hy, q2 y hy⟩
  induction h with
  | nil => exact fun _ _ _ => unify_nil all _
  | same ea ec _ ih =>
    intro I hwl hws
    obtain ⟨q1, q2⟩ := hwl _ (List.mem_cons_self ..)
    exact unify_same_r hm9 hall (len I).1 (len I).2 hws q1 q2 ea ec (ih I.next (fun p hp => hwl p (List.mem_cons_of_mem _ hp)) hws)
  | @vv a c x y l s r ea ec hxy ho _ ih =>
    intro I hwl hws
    obtain ⟨q1, q2⟩ := hwl _ (List.mem_cons_self ..)
    have vx := vin I (.inl ea.symm) x (by simp [occ])
    exact unify_vv_r hm9 hall (len I).1 (len I).2 hws q1 q2 ea ec hxy ho (ih (I.bind vx.1 vx.2 (by simp [occ]; exact fun e => hxy e.symm) (vin I (.inr ec.symm)) (by simp only [hgt]; exact hone _)) (fun p hp => hwl p (List.mem_cons_of_mem _ hp)) (WS_bind hws trivial))
  | @ww a c x y l s r ea ec hxy ho _ ih =>
    intro I hwl hws
    obtain ⟨q1, q2⟩ := hwl _ (List.mem_cons_self ..)
    have vy := vin I (.inr ec.symm) y (by simp [occ])
    exact unify_ww_r hm9 hall (len I).1 (len I).2 hws q1 q2 ea ec hxy ho (ih (I.bind vy.1 vy.2 (by simp [occ]; exact fun e => hxy e) (vin I (.inl ea.symm)) (by simp only [hgt]; exact hone _)) (fun p hp => hwl p (List.mem_cons_of_mem _ hp)) (WS_bind hws trivial))
  | @vn a c x op nm k l s r ea ec e0 _ ih =>
    intro I hwl hws
    obtain ⟨q1, q2⟩ := hwl _ (List.mem_cons_self ..)
    have vx := vin I (.inl ea.symm) x (by simp [occ])
    have hu := WS_sub hws q2
    rw [ec] at hu
    have hd := (deep I).2
    rw [ec] at hd
    have hi := vin I (.inr ec.symm)
    exact unify_vn_r hm9 hall (len I).1 (len I).2 hws q1 q2 ea ec hu (Nat.le_trans (vars_few hu fun y hy => (hi y hy).2) hall) e0 (ih (I.bind vx.1 vx.2 e0 hi hd) (fun p hp => hwl p (List.mem_cons_of_mem _ hp)) (WS_bind hws hu))
  | vf ea ec e0 =>
    intro I hwl hws
    obtain ⟨q1, q2⟩ := hwl _ (List.mem_cons_self ..)
    have hu := WS_sub hws q2
    rw [ec] at hu
    have hi := vin I (.inr ec.symm)
    exact unify_vf_r hm9 hall (len I).1 (len I).2 hws q1 q2 ea ec hu (Nat.le_trans (vars_few hu fun y hy => (hi y hy).2) hall) e0
  | @nv a c x op nm k l s r ea ec e0 _ ih =>
    intro I hwl hws
    obtain ⟨q1, q2⟩ := hwl _ (List.mem_cons_self ..)
    have vx := vin I (.inr ec.symm) x (by simp [occ])
    have hu := WS_sub hws q1
    rw [ea] at hu
    have hd := (deep I).1
    rw [ea] at hd
    have hi := vin I (.inl ea.symm)
    exact unify_nv_r hm9 hall (len I).1 (len I).2 hws q1 q2 ea ec hu (Nat.le_trans (vars_few hu fun y hy => (hi y hy).2) hall) e0 (ih (I.bind vx.1 vx.2 e0 hi hd) (fun p hp => hwl p (List.mem_cons_of_mem _ hp)) (WS_bind hws hu))
  | nf ea ec e0 =>
    intro I hwl hws
    obtain ⟨q1, q2⟩ := hwl _ (List.mem_cons_self ..)
    have hu := WS_sub hws q1
    rw [ea] at hu
    have hi := vin I (.inl ea.symm)
    exact unify_nf_r hm9 hall (len I).1 (len I).2 hws q1 q2 ea ec hu (Nat.le_trans (vars_few hu fun y hy => (hi y hy).2) hall) e0
  | clash ea ec hq =>
    intro I hwl hws
    obtain ⟨q1, q2⟩ := hwl _ (List.mem_cons_self ..)
    have hu := WS_sub hws q1
    have hu' := WS_sub hws q2
    rw [ea] at hu
    rw [ec] at hu'
    exact unify_clash_r hm9 hall (len I).1 (len I).2 hws q1 q2 ea ec hu.1 hu'.1 hq
  | dec ea ec hk _ ih =>
    intro I hwl hws
    obtain ⟨q1, q2⟩ := hwl _ (List.mem_cons_self ..)
    have hu := WS_sub hws q1
    have hu' := WS_sub hws q2
    rw [ea] at hu
    rw [ec] at hu'
    have I' := I.dec ea ec hk hu.2.1
    exact unify_dec_r hm9 hall (len I).1 (len I).2 hws q1 q2 ea ec hu.1 hk (by have := hu.2.1; omega) (ih I' (fun p hp => by
      rcases List.mem_append.1 hp with hp | hp
      · exact WL_zip2 hu.2.2 hu'.2.2 p hp
      · exact hwl p (List.mem_cons_of_mem _ hp)) hws)
end Go.Proofs.YtcmpodbjhoeblaaDoor
