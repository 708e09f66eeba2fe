/- The reference: Match gives what the program's Match gives. No condition. -/
import Derived.Test.YtcmpodbjhoeblaaDoorWf
import Derived.Test.YtcmpodbjhoeblaaDoorUh
import Derived.Test.YtcmpodbjhoeblaaDoorVmZT
set_option linter.unusedVariables false
set_option linter.unusedSimpArgs false
set_option linter.unusedSectionVars false
namespace Go.Proofs.YtcmpodbjhoeblaaDoor
open Go Go.VM
set_option maxRecDepth 100000
set_option maxHeartbeats 8000000
variable {G : GT}
/-- The solution's cells. -/
abbrev fN (f : Fd) : List Nm := f.map (·.1)
abbrev fT (f : Fd) : List (List D) := f.map fun p => tyC p.2
@[simp] def slF (f : Fd) : List D := [.sl (strs (fN f)), .sl (fT f)]
theorem fd_at_i {x : Nm} {u : Ty} : ∀ {f : Fd} {i : Nat}, lookF f x = some u → ∃ k : Nat, findI x (f.map (·.1)) i = ((i + k : Nat) : Int) ∧ ∃ hk : k < f.length, f[k].2 = u
  | [], i, h => by simp [lookF] at h
  | p :: r, i, h => by
    by_cases hp : p.1 = x
    · refine ⟨0, by simp [findI, hp], by simp, ?_⟩
      simpa [lookF, hp] using h
    · have h' : lookF r x = some u := by simpa [lookF, hp] using h
      obtain ⟨k, h1, h2, h3⟩ := fd_at_i (i := i + 1) h'
      refine ⟨k + 1, ?_, by simp; omega, by simpa using h3⟩
      simp only [List.map_cons, findI, hp, if_false, h1]
      omega
theorem fd_at {x : Nm} {u : Ty} {f : Fd} (h : lookF f x = some u) : ∃ k : Nat, findI x (fN f) 0 = (k : Int) ∧ ∃ hk : k < f.length, f[k].2 = u := by
  obtain ⟨k, h1, h2⟩ := fd_at_i (i := 0) h
  exact ⟨k, by simpa using h1, h2⟩
theorem lookF_mem {x : Nm} : ∀ {f : Fd}, lookF f x = none ↔ x ∉ fN f
  | [] => by simp [lookF]
  | p :: r => by
    have := lookF_mem (x := x) (f := r)
    unfold lookF at this ⊢
    by_cases hp : p.1 = x
    · simp [hp]
    · have hp' : ¬ x = p.1 := fun e => hp e.symm
      simp only [List.find?_cons, hp, decide_false, List.map_cons, List.mem_cons, hp', false_or]
      exact this
theorem fd_no {x : Nm} {f : Fd} (h : lookF f x = none) : findI x (fN f) 0 < 0 := (find_neg x _).2 (lookF_mem.1 h)
theorem plain_args {op : Int} {nm : Nm} {l : List Ty} {ns : List Nm} {p : Pr} {ps : List Pr} (h : plainT ⟨op, nm, l, ns, p, ps⟩ = ⟨op, nm, l, ns, p, ps⟩) : ∀ t ∈ l, plainT t = t := by
  simp only [plainT, Ty.mk.injEq] at h
  have h := h.2.2.1
  rw [plainTs_eq] at h
  intro t ht
  have h2 : l.map plainT = l.map id := by simpa using h
  exact List.map_inj_left.1 h2 t ht
mutual
theorem match_len : ∀ (p : Tm) (t : Ty) (f : Fd), (matchM p t f).2.length ≤ f.length + siz p
  | .var x, t, f => by
    simp only [matchM, siz]
    split <;> simp
  | .node op nm l, ⟨op', nm', l', ns', p', ps'⟩, f => by
    simp only [matchM, siz]
    split
    · have := matchs_len l l' f
      omega
    · simp
theorem matchs_len : ∀ (l : List Tm) (k : List Ty) (f : Fd), (matchMs l k f).2.length ≤ f.length + sizs l
  | [], k, f => by simp [matchMs]
  | p :: r, [], f => by simp [matchMs]
  | p :: r, t :: s, f => by
    have h1 := match_len p t f
    have h2 := matchs_len r s (matchM p t f).2
    simp only [matchMs, sizs]
    split
    · omega
    · exact Nat.le_trans h1 (by omega)
end
theorem sizs_drop {l : List Tm} {i : Nat} (h : i < l.length) : sizs (l.drop i) = siz l[i] + sizs (l.drop (i + 1)) := by
  rw [List.drop_eq_getElem_cons h]
  rfl
theorem ent_r19_match : VM.Enters Tryd.prog 35 := VM.Enters.mk Tryd.func35 rfl
theorem r19_match_cs (m : Nat) (hm : m ≤ 900000000) : ∀ (n : Nat) (p : Tm) (t : Ty) (f : Fd), siz p ≤ n → WT m p → nodT t ≤ 900000000 → plainT t = t → FB f → f.length + siz p ≤ 1000000 →
    CS Tryd.prog G 35 [.agg (tmD p), .agg (tyD t), .agg (slF f)] (.tup [.agg (slF (matchM p t f).2), .bool (matchM p t f).1]) none := by
  intro n
  induction n with
  | zero => intro p t f h; have := siz_pos p; omega
  | succ n ih =>
    intro p t f hn hp ht hpl hf hlen
    have lN : (fN f).length ≤ 1000000 := by simp; omega
    cases p with
    | var x =>
      cases hq : lookF f x with
      | none =>
        have hx := fd_no hq
        have hx' : ¬ 0 ≤ findI x (fN f) 0 := by omega
        obtain ⟨N, hN⟩ : ∃ N, fN f = N := ⟨_, rfl⟩
        obtain ⟨T, hT⟩ : ∃ T, fT f = T := ⟨_, rfl⟩
        have lT : T.length ≤ 1000000 := by rw [← hT]; simp; omega
        have h9 : ∀ c ∈ T, c.length = 9 := fun c hc => by
          rw [← hT] at hc
          obtain ⟨y, _, rfl⟩ := List.mem_map.1 hc
          simp
        simp only [matchM, hq, slF, hN, hT, fN, fT, List.map_append]
        simp only [List.map_cons, List.map_nil, hpl]
        rw [hN] at lN hx'
        refine CS.of_SWK Tryd.func35 rfl Tryd.ntmps35 rfl ?_
        refine SW.seqq (SW.vk ?_)
        simp [tyT_var]
        refine SW.seqq (SW.seqq (SW.vk ?_))
        simp
        refine SW.condT (by simp) (SW.seqq (SW.vk ?_))
        simp
        refine callK.mk ent_r4_Find (r4_Find_cs N x lN) ?_
        simp
        refine SW.seqq (SW.vk ?_)
        simp [hx']
        refine SW.seqq (SW_treeZ (.ln [1, 2, 4, 5, 6, 9, 10, 12, 13] (.op 0 (.op 3 (.op 7 (.ln [8, 11, 14, 15, 16, 17] .stop) (.op 8 (.ln [7, 11, 14, 15, 16, 17] .stop) .none)) (.op 8 (.ln [3, 7, 11, 14, 15, 16, 17] .stop) .none)) (.op 8 (.ln [0, 3, 7, 11, 14, 15, 16, 17] .stop) .none))) ?_)
        have hN1 : N.length * 17 ≤ 140737488355328 := by omega
        have hN2 : (N.length + 1) * 17 ≤ 140737488355328 := by omega
        have hT1 : T.length * 153 ≤ 140737488355328 := by omega
        simp [VZ, selZ, hN1, hN2]
        rw [if_pos h9, if_pos hT1]
        simp
        refine stepK_len (by first | omega | exact ⟨h9, by omega⟩) ?_
        simp
        refine SW.vk ?_
        simp [strs]
      | some y =>
        obtain ⟨k, hk, hk2, hk3⟩ := fd_at hq
        have hTk : (fT f)[k]? = some (tyC y) := by simp [hk2, hk3]
        have lT : (fT f).length = f.length := by simp
        obtain ⟨N, hN⟩ : ∃ N, fN f = N := ⟨_, rfl⟩
        obtain ⟨T, hT⟩ : ∃ T, fT f = T := ⟨_, rfl⟩
        rw [hT] at hTk lT
        have hkT : k < T.length := by omega
        rw [List.getElem?_eq_getElem hkT] at hTk
        have hTk := Option.some.inj hTk
        simp only [matchM, hq, slF, hN, hT]
        rw [hN] at lN hk
        refine CS.of_VK Tryd.func35 rfl Tryd.ntmps35 rfl ?_
        simp [tyT_var]
        refine callK.mk ent_r4_Find (r4_Find_cs N x lN) ?_
        simp [hk, hkT, hTk]
        refine ⟨.mk, ?_⟩
        refine callK.mk ent_r19_Same (r19_Same_cs y t (hf x y hq)) ?_
        simp
    | node op nm l =>
      obtain ⟨h5, hl, hws⟩ := hp
      obtain ⟨op', nm', l', ns', p', ps'⟩ := t
      simp only [siz] at hn hlen
      have hnt := nodT_args ⟨op', nm', l', ns', p', ps'⟩
      simp only at hnt
      have hpla := plain_args hpl
      by_cases e1 : op = op'
      · by_cases e2 : nm = nm'
        · by_cases e3 : l.length = l'.length
          · subst e1 e2
            have hmm : matchM (.node op nm l) ⟨op, nm, l', ns', p', ps'⟩ f = matchMs l l' f := by simp [matchM, e3]
            rw [hmm]
            refine CS.of_VK Tryd.func35 rfl Tryd.ntmps35 rfl ?_
            simp [tyT_node, h5, e3]
            refine SW.loopF (ι := { x : Nat × Fd // x.1 ≤ l.length ∧ matchMs (l.drop x.1) (l'.drop x.1) x.2 = matchMs l l' f ∧ FB x.2 ∧ x.2.length + sizs (l.drop x.1) ≤ 1000000 }) (fun x => [(70, .d (.int .i64 x.1.1))]) (fun x => [(3, tyO op nm (.sl (l.map (tyC ∘ tyT))) (.sl []) zeroP (.sl [])), (4, tyO op nm (.sl (l'.map tyC)) (.sl (strs ns')) p' (.sl (ps'.map prC))), (5, .cells [.d (.sl (strs (fN x.1.2))), .d (.sl (fT x.1.2))]), (6, .cells [.d .nils, .d .nils])]) (fun _ => []) (fun x => l.length - x.1.1) ⟨(0, f), by simp, by simp, hf, by simp; omega⟩ (by simp [strs]) ?_
            rintro ⟨⟨i, fi⟩, hi, hR, hB, hZ⟩
            simp only at hi hR hB hZ
            by_cases hlt : i < l.length
            · have hlt' : i < l'.length := by omega
              have hg := tms_get hlt
              have hg' := tys_get hlt'
              have hw := wrap64s (show i < 9223372036854775807 by omega)
              have hs := sizs_mem (θ := fun _ => none) hlt
              rw [sub_none, subs_none] at hs
              have hb2 := nodTs_step hlt'
              have hb3 := nodTs_take_le l' (i + 1)
              rw [sizs_drop hlt] at hZ
              rw [matchMs_drop hlt hlt'] at hR
              have hB' := match_fb l[i] l'[i] fi (by omega) hB
              have hL' := match_len l[i] l'[i] fi
              have hc := ih l[i] l'[i] fi (by omega) (WTs_mem hws (List.getElem_mem hlt)) (by omega) (hpla _ (List.getElem_mem hlt')) hB (by omega)
              simp only [slF] at hc
              obtain ⟨N, hN⟩ : ∃ N, fN fi = N := ⟨_, rfl⟩
              obtain ⟨T, hT⟩ : ∃ T, fT fi = T := ⟨_, rfl⟩
              simp only [hN, hT] at hc ⊢
              simp [hlt, hlt', ← e3, hg, hg']
              refine ⟨.mk, ?_⟩
              refine callK.mk ent_r19_match hc ?_
              cases hr : (matchM l[i] l'[i] fi).1
              · rw [hr] at hR
                simp at hR
                simp [hr, ← hR]
              · rw [hr] at hR
                simp at hR
                simp [hr]
                exact Again.mk ⟨(i + 1, (matchM l[i] l'[i] fi).2), hlt, hR, hB', by simp; omega⟩ (by simp [hw]) (by simp; omega)
            · have : i = l.length := by omega
              subst this
              rw [List.drop_length] at hR
              simp [matchMs] at hR
              simp [← hR, ← e3]
          · have e3' : ¬ (l.length : Int) = (l'.length : Int) := by omega
            subst e1 e2
            refine CS.of_VK Tryd.func35 rfl Tryd.ntmps35 rfl ?_
            simp [tyT_node, h5, e3, e3', matchM]
        · subst e1
          refine CS.of_VK Tryd.func35 rfl Tryd.ntmps35 rfl ?_
          simp [tyT_node, h5, e2, matchM]
      · refine CS.of_VK Tryd.func35 rfl Tryd.ntmps35 rfl ?_
        simp [tyT_node, h5, e1, matchM]
mutual
theorem siz_tm : ∀ t : Ty, siz (tmT t) ≤ nodT t
  | ⟨op, nm, l, ns, p, ps⟩ => by
    have := sizs_tm l
    simp only [tmT, nodT]
    split
    · simp only [siz]; omega
    · simp only [siz]; omega
theorem sizs_tm : ∀ l : List Ty, sizs (tmTs l) ≤ nodTs l
  | [] => by simp [tmTs, sizs]
  | t :: r => by
    have h1 := siz_tm t
    have h2 := sizs_tm r
    simp only [tmTs, sizs, nodTs]
    omega
end
mutual
theorem match_plain : ∀ (p : Tm) (t : Ty) (f : Fd), matchM p (plainT t) f = matchM p t f
  | .var x, t, f => by
    have e : ∀ y, sameT y (plainT t) = sameT y t := fun y => by
      rw [Bool.eq_iff_iff, sameT_iff, sameT_iff, plain_twice]
    simp only [matchM, plain_twice, e]
  | .node op nm l, ⟨op', nm', l', ns', p', ps'⟩, f => by
    have h := matchs_plain l l' f
    simp only [matchM, plainT, h]
    rw [plainTs_eq, List.length_map]
theorem matchs_plain : ∀ (l : List Tm) (k : List Ty) (f : Fd), matchMs l (plainTs k) f = matchMs l k f
  | [], k, f => by simp [matchMs]
  | p :: r, [], f => by simp [matchMs, plainTs]
  | p :: r, t :: s, f => by
    have h1 := match_plain p t f
    have h2 := matchs_plain r s (matchM p t f).2
    simp only [matchMs, plainTs, h1, h2]
end
mutual
/-- What a match finds are the pattern's variables, in their order. -/
theorem match_names {m : Nat} : ∀ (p : Tm) (t : Ty) (f : Fd), WT m p → (matchM p t f).1 = true → fN (matchM p t f).2 = varsT (tyT p) (fN f)
  | .var x, t, f, _, h => by
    rw [tyT_var]
    simp only [varsT, varsTs, addV]
    cases hq : lookF f x with
    | none =>
      rw [if_pos ⟨trivial, lookF_mem.1 hq⟩]
      simp [matchM, hq, fN]
    | some y =>
      have h0 : x ∈ fN f := Classical.byContradiction fun h => by
        rw [lookF_mem.2 h] at hq
        cases hq
      rw [if_neg fun h => h.2 h0]
      simp [matchM, hq, fN]
  | .node op nm l, ⟨op', nm', l', ns', p', ps'⟩, f, hw, h => by
    simp only [matchM] at h ⊢
    split at h
    · rename_i hc
      rw [if_pos hc]
      rw [tyT_node]
      simp only [varsT, addV, hw.1, false_and, if_false]
      have := matchs_names l l' f hc.2.2 hw.2.2 h
      rw [tyTs_eq] at this
      exact this
    · cases h
theorem matchs_names {m : Nat} : ∀ (l : List Tm) (k : List Ty) (f : Fd), l.length = k.length → WTs m l → (matchMs l k f).1 = true → fN (matchMs l k f).2 = varsTs (tyTs l) (fN f)
  | [], k, f, _, _, _ => by simp [matchMs, tyTs, varsTs]
  | p :: r, [], f, hl, _, _ => by simp at hl
  | p :: r, t :: s, f, hl, hw, h => by
    simp only [matchMs] at h ⊢
    split at h
    · rename_i hc
      rw [if_pos hc]
      simp only [tyTs, varsTs]
      rw [← match_names p t f hw.1 hc]
      exact matchs_names r s _ (by simpa using hl) hw.2 h
    · cases h
end
theorem found_all {f : Fd} (hn : (fN f).Nodup) : (fN f).map (tyC ∘ foundT f) = fT f := by
  have : ∀ p ∈ f, lookF f p.1 = some p.2 := by
    intro p hp
    induction f with
    | nil => cases hp
    | cons q r ih =>
      simp only [fN, List.map_cons, List.nodup_cons] at hn
      rcases List.mem_cons.1 hp with rfl | hp
      · simp [lookF]
      · have hq : ¬ q.1 = p.1 := fun e => hn.1 (by rw [e]; exact List.mem_map.2 ⟨p, hp, rfl⟩)
        have := ih hn.2 hp
        simpa [lookF, hq] using this
  simp only [fN, fT, List.map_map]
  refine List.map_congr_left fun p hp => ?_
  simp [foundT_eq (this p hp)]
theorem ent_r19_Match : VM.Enters Tryd.prog 10 := VM.Enters.mk Tryd.func10 rfl
theorem r19_Match_cs (s t : Ty) (hs : nodT s ≤ 1000000) (ht : nodT t ≤ 900000000) : CS Tryd.prog G 10 [.agg (tyD s), .agg (tyD t)] (if (matchM (tmT s) t []).1 then .tup [.sl ((varsT (bareT s) []).map (tyC ∘ foundT (matchM (tmT s) t []).2)), .bool true] else .tup [.sl [], .bool false]) none := by
  have hF : FB [] := fun x u h => by simp [lookF] at h
  have q1 := nod_bare s
  have hm := r19_match_cs (G := G) 1000000 (by omega) (siz (tmT s)) (tmT s) (plainT t) [] (Nat.le_refl _) (WT_tm s hs) (by rw [nod_plain]; exact ht) (plain_twice t) hF (by have := siz_tm s; simp; omega)
  rw [match_plain] at hm
  obtain ⟨r, hr⟩ : ∃ r, matchM (tmT s) t [] = r := ⟨_, rfl⟩
  have hk : r.1 = true → (varsT (bareT s) []).map (tyC ∘ foundT r.2) = fT r.2 := fun h => by
    have := match_names (tmT s) t [] (WT_tm s hs) (by rw [hr]; exact h)
    rw [hr] at this
    rw [bare_tm]
    simp only [fN, List.map_nil] at this
    rw [← this]
    exact found_all (by simp only [fN]; rw [this]; exact vars_nodup _ _ List.nodup_nil)
  rw [hr] at hm
  simp only [hr]
  have hM : CS Tryd.prog G 35 [.agg (tyD (bareT s)), .agg (tyD (plainT t)), .agg [.nils, .nils]] (.tup [.agg (slF r.2), .bool r.1]) none := by
    rw [bare_tm]
    exact CS.args (ds' := [.agg (tmD (tmT s)), .agg (tyD (plainT t)), .agg (slF [])]) hm (by simp)
  simp only [slF] at hM
  refine CS.of_VK Tryd.func10 rfl Tryd.ntmps10 rfl ?_
  simp
  refine ⟨.mk, ?_⟩
  refine callK.mk ent_r19_bare (r19_bare_cs s (by omega)) ?_
  simp
  refine callK.mk ent_r19_Plain (r19_Plain_cs t ht) ?_
  simp
  refine callK.mk ent_r19_match hM ?_
  cases hb : r.1
  · simp [hb]
  · simp [hb, hk hb]
end Go.Proofs.YtcmpodbjhoeblaaDoor
