/- Template: the statement TemplateHoles. No condition. -/
import Derived.Test.YtmjpdmkgmlhfaaaDoorOe
set_option linter.unusedVariables false
set_option linter.unusedSimpArgs false
set_option linter.unusedSectionVars false
namespace Go.Proofs.YtmjpdmkgmlhfaaaDoor
open Go Go.VM
set_option maxRecDepth 100000
set_option maxHeartbeats 16000000
variable {G : GT}
/-- A type whose predicates are those of a template. -/
inductive HO : Ty → Prop
  | mk (op : Int) (nm : Nm) (l : List Ty) (ns : List Nm) (p : Pr) (ps : List Pr) : HolOk p → (∀ q ∈ ps, HolOk q) → (∀ k ∈ l, HO k) → HO ⟨op, nm, l, ns, p, ps⟩
theorem holOk_zero : HolOk zeroP := .inl rfl
theorem holOk_next (pre : Nm) (hs : List Ho) (s : Nm) (sc : List Vr) : HolOk (nextP pre hs s sc) := .inr ⟨_, _, by unfold holV; rw [List.length_take]; omega, rfl⟩
theorem plain_HO : ∀ t : Ty, HO (plainT t) := by
  refine Ty.ind fun t ih => ?_
  obtain ⟨op, nm, l, ns, p, ps⟩ := t
  simp only at ih
  rw [plainT, plainTs_map]
  refine .mk _ _ _ _ _ _ holOk_zero (by simp) fun k hk => ?_
  obtain ⟨x, hx, rfl⟩ := List.mem_map.1 hk
  exact ih x hx
theorem data_HO {pre : Nm} {sc : List Vr} : ∀ (l : List Nm) (ps : List Pr) (hs : List Ho), (∀ q ∈ ps, HolOk q) → ∀ q ∈ (dataT pre sc l ps hs).1, HolOk q
  | [], ps, hs, h => h
  | s :: r, ps, hs, h => by
    rw [dataT]
    refine data_HO r _ _ fun q hq => ?_
    rcases List.mem_append.1 hq with hq | hq
    · exact h q hq
    · rw [List.mem_singleton] at hq
      rw [hq]
      exact holOk_next _ _ _ _
theorem vis_HO {srt : Nm → Bool} {pre : Nm} {dat : Nm → List Nm} : ∀ (t : Ty) (sc : List Vr) (hs : List Ho), HO (visT srt pre dat t sc hs).1 := by
  refine Ty.ind fun t ih => ?_
  obtain ⟨op, nm, l, ns, p, ps⟩ := t
  simp only at ih
  intro sc hs
  have hf : ∀ (l : List Ty) (g : Bool) (ns dn : List Nm) (sc : List Vr) (hs : List Ho), (∀ k ∈ l, ∀ sc hs, HO (visT srt pre dat k sc hs).1) → ∀ k ∈ (funT srt pre dat l g ns dn sc hs).1, HO k := by
    intro l
    induction l with
    | nil => intro g ns dn sc hs _ k hk; rw [funT] at hk; cases hk
    | cons a r ihr =>
      intro g ns dn sc hs hk k hm
      cases r with
      | nil =>
        rw [funT] at hm
        simp only [List.mem_singleton] at hm
        rw [hm]
        exact hk a (by simp) sc hs
      | cons b r =>
        rw [funT] at hm
        simp only [List.mem_cons] at hm
        rcases hm with hm | hm
        · rw [hm]
          exact hk a (by simp) sc hs
        · exact ihr _ _ _ _ _ (fun x hx => hk x (.tail _ hx)) k hm
  have hpl : ∀ k ∈ plainTs l, HO k := fun k hk => by
    rw [plainTs_map] at hk
    obtain ⟨x, hx, rfl⟩ := List.mem_map.1 hk
    exact plain_HO x
  rw [visT]
  split
  · exact .mk _ _ _ _ _ _ holOk_zero (by simp) (hf l _ ns [] sc hs ih)
  · split
    · exact .mk _ _ _ _ _ _ holOk_zero (by simp) hpl
    · exact .mk _ _ _ _ _ _ (holOk_next _ _ _ _) (data_HO _ _ _ (by simp)) hpl
theorem appTs_mem {l : List Ty} {k : Ty} (h : k ∈ l) : (appT k).length ≤ (appTs l).length := by
  induction l with
  | nil => cases h
  | cons a r ih =>
    rw [appTs, List.length_append]
    rcases List.mem_cons.1 h with rfl | h
    · omega
    · have := ih h
      omega
theorem appTs_take : ∀ (l : List Ty) (i : Nat), (appTs (l.take i)).length ≤ (appTs l).length
  | [], i => by simp
  | a :: r, 0 => by simp [appTs]
  | a :: r, i + 1 => by
    have := appTs_take r i
    simp only [List.take_succ_cons, appTs, List.length_append]
    omega
theorem appTs_step : ∀ {l : List Ty} {i : Nat} (h : i < l.length), appTs (l.take (i + 1)) = appTs (l.take i) ++ appT l[i]
  | a :: r, 0, _ => by simp [appTs]
  | a :: r, i + 1, h => by
    have := appTs_step (l := r) (i := i) (by simpa using h)
    simp only [List.take_succ_cons, appTs, List.getElem_cons_succ]
    rw [this, List.append_assoc]
theorem flat_len {L : List Pr} (i : Nat) : ((L.take i).flatMap appP).length ≤ i := by
  induction L generalizing i with
  | nil => simp
  | cons a r ih =>
    cases i with
    | zero => simp
    | succ i =>
      have := ih i
      have h1 : (appP a).length ≤ 1 := by unfold appP; split <;> simp
      simp only [List.take_succ_cons, List.flatMap_cons, List.length_append]
      omega
theorem flat_step {L : List Pr} {i : Nat} (h : i < L.length) : (L.take (i + 1)).flatMap appP = (L.take i).flatMap appP ++ (holL L[i]).map (·.name) := by
  rw [List.take_succ_eq_append_getElem h, List.flatMap_append]
  congr 1
  simp only [List.flatMap_cons, List.flatMap_nil, List.append_nil, appP, holL]
  split <;> simp
theorem strs_cat (a b : List Nm) : strs (a ++ b) = strs a ++ strs b := by simp [strs]
theorem strs_len1 (l : List Nm) : ∀ x ∈ strs l, x.length = 1 := fun x hx => by
  unfold strs at hx
  obtain ⟨y, _, rfl⟩ := List.mem_map.1 hx
  rfl
theorem ent_l37_applications : VM.Enters Tryd.prog 23 := VM.Enters.mk Tryd.func23 rfl
theorem l37_app_cs : ∀ t : Ty, HO t → nodT t ≤ 1000000 → WB 900000000 t → (appT t).length ≤ 1000000 → CS Tryd.prog G 23 [.agg (tyD t)] (.d (.sl (strs (appT t)))) none := by
  refine Ty.ind fun t ih => ?_
  obtain ⟨op, nm, l, ns, p, ps⟩ := t
  simp only at ih
  intro hO hN hW hA
  cases hO with
  | mk _ _ _ _ _ _ o1 o2 o3 =>
  cases hW with
  | mk _ _ _ _ _ _ w1 w2 w3 w4 w5 w6 =>
  rw [nodT] at hN
  have hl := len_le_nodTs l
  obtain ⟨L, hL⟩ : ∃ L, L = p :: ps := ⟨_, rfl⟩
  have hLC : (prD p :: ps.map prC) = L.map prC := by rw [hL]; simp
  have hLl : L.length = ps.length + 1 := by rw [hL]; rfl
  have hLo : ∀ i (h : i < L.length), HolOk L[i] := fun i h => by
    subst hL
    cases i with
    | zero => exact o1
    | succ i => exact o2 _ (List.getElem_mem _)
  have hap : appT ⟨op, nm, l, ns, p, ps⟩ = L.flatMap appP ++ appTs l := by
    rw [appT, hL, List.flatMap_cons, List.append_assoc]
  rw [hap] at hA ⊢
  rw [List.length_append] at hA
  refine CS.of_VK Tryd.func23 rfl Tryd.ntmps23 rfl ?_
  have hLC' : ([.int .i64 p.op, .str p.name, .int .i64 p.n, .sl (p.kids.map prC)] :: ps.map prC) = L.map prC := by rw [hL]; simp
  simp
  refine stepK_len (by omega) ?_
  simp only [hLC']
  simp
  refine SW.loopF (ι := { i : Nat // i ≤ L.length }) (fun i => [(3, .d (.sl (strs ((L.take i.1).flatMap appP)))), (5, .d (.int .i64 i.1))]) (fun _ => [(1, .cells [.d (.int .i64 op), .d (.str nm), .d (.sl (l.map tyC)), .d (.sl (strs ns)), .d (.int .i64 p.op), .d (.str p.name), .d (.int .i64 p.n), .d (.sl (p.kids.map prC)), .d (.sl (ps.map prC))])]) (fun _ => [(9, [.t 3])]) (fun i => L.length - i.1) ⟨0, by simp⟩ (by simp) ?_
  rintro ⟨i, hi⟩
  by_cases hlt : i < L.length
  · have hg := prs_get hlt
    have hw := wrap64s (show i < 9223372036854775807 by omega)
    have hfl := flat_len (L := L) i
    have hfs := flat_step hlt
    obtain ⟨A, hAA⟩ : ∃ A, A = (L.take i).flatMap appP := ⟨_, rfl⟩
    obtain ⟨B, hBB⟩ : ∃ B, B = (L.take (i + 1)).flatMap appP := ⟨_, rfl⟩
    have hho := r7_Holes_cs (G := G) (hLo i hlt)
    obtain ⟨h, hh⟩ : ∃ h, h = holL L[i] := ⟨_, rfl⟩
    have hhl : h.length ≤ 1 := by rw [hh]; unfold holL; split <;> simp
    rw [← hh] at hho
    rw [← hh, ← hAA, ← hBB] at hfs
    rw [← hAA] at hfl
    simp only [← hAA]
    simp [hlt, hg]
    refine callK.mk ent_r7_Holes hho ?_
    simp
    refine SW.loopF (ι := { k : Nat // k ≤ h.length }) (fun k => [(3, .d (.sl (strs (A ++ (h.take k.1).map (·.name))))), (7, .d (.int .i64 k.1))]) (fun _ => [(1, .cells [.d (.int .i64 op), .d (.str nm), .d (.sl (l.map tyC)), .d (.sl (strs ns)), .d (.int .i64 p.op), .d (.str p.name), .d (.int .i64 p.n), .d (.sl (p.kids.map prC)), .d (.sl (ps.map prC))])]) (fun _ => [(9, [.t 3])]) (fun k => h.length - k.1) ⟨0, by simp⟩ (by simp) ?_
    rintro ⟨k, hk⟩
    by_cases hlk : k < h.length
    · have hgk := prs_get hlk
      have hwk := wrap64s (show k < 9223372036854775807 by omega)
      have hst : strs (A ++ (h.take (k + 1)).map (·.name)) = strs (A ++ (h.take k).map (·.name)) ++ [[.str h[k].name]] := by
        rw [List.take_succ_eq_append_getElem hlk, List.map_append, ← List.append_assoc, strs_cat]
        rfl
      have hlen : (strs (A ++ (h.take k).map (·.name))).length ≤ 900000010 := by
        simp only [strs, List.length_map, List.length_append, List.length_take]
        omega
      have h1 := strs_len1 (A ++ (h.take k).map (·.name))
      obtain ⟨X, hX⟩ : ∃ X, X = strs (A ++ (h.take k).map (·.name)) := ⟨_, rfl⟩
      simp only [← hX] at hst hlen h1 ⊢
      simp [hlk, hgk]
      refine stepK_len ⟨h1, by omega⟩ ?_
      simp
      rw [List.map_take] at hst
      exact Again.mk ⟨k + 1, hlk⟩ (by simp [hwk, hst]) (by simp; omega)
    · have hke : k = h.length := by omega
      subst hke
      simp only [List.take_length, ← hfs]
      simp
      exact Again.mk ⟨i + 1, hlt⟩ (by simp only [← hBB]; simp [hw]) (by simp; omega)
  have hie : i = L.length := by omega
  subst hie
  simp only [List.take_length]
  obtain ⟨A, hAA⟩ : ∃ A, A = L.flatMap appP := ⟨_, rfl⟩
  rw [← hAA] at hA ⊢
  simp
  refine SW.loopF (ι := { i : Nat // i ≤ l.length }) (fun i => [(3, .d (.sl (strs (A ++ appTs (l.take i.1))))), (8, .d (.int .i64 i.1))]) (fun _ => [(1, .cells [.d (.int .i64 op), .d (.str nm), .d (.sl (l.map tyC)), .d (.sl (strs ns)), .d (.int .i64 p.op), .d (.str p.name), .d (.int .i64 p.n), .d (.sl (p.kids.map prC)), .d (.sl (ps.map prC))])]) (fun _ => [(9, [.t 3])]) (fun i => l.length - i.1) ⟨0, by simp⟩ (by simp [appTs]) ?_
  rintro ⟨i, hi⟩
  by_cases hlt : i < l.length
  · have hg := tys_get hlt
    have hw := wrap64s (show i < 9223372036854775807 by omega)
    have hm := List.getElem_mem hlt
    have h2 := appTs_take l i
    have h3 := appTs_mem hm
    have hst : strs (A ++ appTs (l.take (i + 1))) = strs (A ++ appTs (l.take i)) ++ strs (appT l[i]) := by rw [appTs_step hlt, ← List.append_assoc, strs_cat]
    have hlen : (strs (A ++ appTs (l.take i))).length ≤ 1000000 := by
      simp only [strs, List.length_map, List.length_append]
      omega
    have hlen2 : (strs (appT l[i])).length ≤ 1000000 := by
      simp only [strs, List.length_map]
      omega
    have h1 := strs_len1 (A ++ appTs (l.take i))
    have h1' := strs_len1 (appT l[i])
    have hki := ih l[i] hm (o3 _ hm) (by have := nodTs_memA hm; omega) (w6 _ hm) (by omega)
    obtain ⟨X, hX⟩ : ∃ X, X = strs (A ++ appTs (l.take i)) := ⟨_, rfl⟩
    obtain ⟨Y, hY⟩ : ∃ Y, Y = strs (appT l[i]) := ⟨_, rfl⟩
    simp only [← hX, ← hY] at hst hlen hlen2 h1 h1' hki ⊢
    simp [hlt, hg]
    refine callK.mk ent_l37_applications hki ?_
    simp
    rw [if_pos h1']
    refine stepK_len ⟨h1, by omega⟩ ?_
    simp
    exact Again.mk ⟨i + 1, hlt⟩ (by simp only [hst]; simp [hw]) (by simp; omega)
  · have hie : i = l.length := by omega
    subst hie
    simp
/-! ### The law -/
theorem holes_ne {pre : Nm} {hs : List Ho} (h : holesOk pre hs) {i j : Nat} (hi : i < hs.length) (hj : j < hs.length) (hne : i ≠ j) : hs[i].1 ≠ hs[j].1 := by
  intro e
  rw [(h i hi).1, (h j hj).1] at e
  have h1 := (List.cons.inj (List.append_cancel_left e)).2
  have h2 := congrArg valN h1
  rw [(dd_all i).2.2.1, (dd_all j).2.2.1] at h2
  exact hne h2
theorem ent_l37_TemplateHoles : VM.Enters Tryd.prog 7 := VM.Enters.mk Tryd.func7 rfl
theorem l37_Holes_cs (m : Mt) (t : Ty) (pre : Nm) (sc : List Vr) (hm : szL (mtC m) ≤ 1048576) (ht : szL (tyD t) ≤ 1048576) (hsc : sc.length ≤ 1048576) : CS Tryd.prog G0 7 [.agg (mtC m), .agg (tyD t), .agg (plC pre sc)] (.d (.bool true)) none := by
  obtain ⟨d1, d2⟩ := mt_sz m
  have ht2 := tyD_sz t
  have hli := l37_light_cs (G := G0) m t sc (by omega) (by omega) (by omega) (fun d hd => by have := d2 d hd; omega)
  refine CS.of_VK Tryd.func7 rfl Tryd.ntmps7 rfl ?_
  cases hb : lightB m t sc
  · rw [hb] at hli
    simp [mtC, plC]
    refine callK.mk ent_l37_light hli ?_
    simp
    refine callK.mk ent_l37_awake l37_awake_cs ?_
    simp
  · rw [hb] at hli
    by_cases hp : (100 : Int) < pre.length
    · simp [mtC, plC]
      refine callK.mk ent_l37_light hli ?_
      simp [hp]
      refine callK.mk ent_l37_awake l37_awake_cs ?_
      simp
    · obtain ⟨e1, e2, e3, e4, e5, e6⟩ := light_news hb pre
      have hn1 := t_New_cs G0_kw G0_pow (added_ok (G := G0)) pre m (by omega) e3 t sc e1 e2
      obtain ⟨hok, q, hq1, hq2⟩ := vis_ok (srt := sortB) (pre := pre) (dat := datN m) t sc [] (fun i hi => by simp at hi)
      rw [List.nil_append] at hq1
      rw [← hq1] at hq2
      have hnv := nod_plainA (visT sortB pre (datN m) t sc []).1
      rw [vis_plain, nod_plainA] at hnv
      have hap := l37_app_cs (G := G0) (visT sortB pre (datN m) t sc []).1 (vis_HO t sc []) (by omega) e4 (by rw [hq2, List.length_map]; omega)
      rw [hq2] at hap
      generalize visT sortB pre (datN m) t sc [] = r at hn1 hap hok e5
      obtain ⟨a, H⟩ := r
      simp only at hn1 hap hok e5
      simp [mtC, plC]
      refine callK.mk ent_l37_light hli ?_
      simp [hp]
      refine callK.mk ent_template_New hn1 ?_
      simp
      refine callK.mk ent_l37_applications hap ?_
      simp
      refine SW.loopF (ι := { i : Nat // i ≤ H.length }) (fun i => [(10, .d (.int .i64 i.1))]) (fun _ => [(3, .cells ((mtC m).map .d)), (4, .cells [.d (.int .i64 t.op), .d (.str t.name), .d (.sl (t.args.map tyC)), .d (.sl (strs t.names)), .d (.int .i64 t.pred.op), .d (.str t.pred.name), .d (.int .i64 t.pred.n), .d (.sl (t.pred.kids.map prC)), .d (.sl (t.preds.map prC))]), (5, .cells [.d (.str pre), .d (.sl (sc.map vrC))]), (7, .cells [.d (.int .i64 a.op), .d (.str a.name), .d (.sl (a.args.map tyC)), .d (.sl (strs a.names)), .d (.int .i64 a.pred.op), .d (.str a.pred.name), .d (.int .i64 a.pred.n), .d (.sl (a.pred.kids.map prC)), .d (.sl (a.preds.map prC))])]) (fun _ => []) (fun i => H.length - i.1) ⟨0, by simp⟩ (by simp [mtC]) ?_
      rintro ⟨i, hi⟩
      by_cases hlt : i < H.length
      · have hg := hos_get hlt
        have hw := wrap64s (show i < 9223372036854775807 by omega)
        obtain ⟨n1, n2, s, r, n3⟩ := hok i hlt
        have hvl : 0 < H[i].2.length := by rw [n3]; simp
        have hv0 := vrs_get hvl
        have hv0' : H[i].2[0].1 = [118] := by simp only [n3, List.getElem_cons_zero]; rfl
        rw [hv0'] at hv0
        have hne0 : ¬ ((H[i].2.length : Nat) : Int) = 0 := by omega
        have hle24 : ¬ (24 : Int) < H[i].2.length := by omega
        simp [hlt, mtC]
        refine SW.loopF (ι := { k : Nat // k ≤ H.length }) (fun k => [(11, .d (.int .i64 (if i < k.1 then 1 else 0))), (12, .d (.int .i64 k.1))]) (fun _ => [(3, .cells ((mtC m).map .d)), (4, .cells [.d (.int .i64 t.op), .d (.str t.name), .d (.sl (t.args.map tyC)), .d (.sl (strs t.names)), .d (.int .i64 t.pred.op), .d (.str t.pred.name), .d (.int .i64 t.pred.n), .d (.sl (t.pred.kids.map prC)), .d (.sl (t.preds.map prC))]), (5, .cells [.d (.str pre), .d (.sl (sc.map vrC))]), (7, .cells [.d (.int .i64 a.op), .d (.str a.name), .d (.sl (a.args.map tyC)), .d (.sl (strs a.names)), .d (.int .i64 a.pred.op), .d (.str a.pred.name), .d (.int .i64 a.pred.n), .d (.sl (a.pred.kids.map prC)), .d (.sl (a.preds.map prC))])]) (fun _ => []) (fun k => H.length - k.1) ⟨0, by simp⟩ (by simp [mtC]) ?_
        rintro ⟨k, hk⟩
        by_cases hlk : k < H.length
        · have hgk := hos_get hlk
          have hwk := wrap64s (show k < 9223372036854775807 by omega)
          have hgs : (strs (H.map (·.1)))[k]? = some [.str H[k].1] := by simp [strs, hlk]
          have hw1 : IntKind.i64.wrap 1 = 1 := wrap64 (by omega)
          by_cases hki : k = i
          · subst hki
            simp [hlk, hgk, hgs, mtC]
            refine ⟨lexOk.mk (by kernel_rfl), lexOk.mk (by kernel_rfl), ?_⟩
            exact Again.mk ⟨k + 1, hlk⟩ (by simp [hwk, hw1, mtC]) (by simp; omega)
          · have hne := holes_ne hok hlk hlt hki
            have hv : (if i < k + 1 then (1 : Int) else 0) = if i < k then 1 else 0 := by
              by_cases h : i < k
              · rw [if_pos h, if_pos (by omega)]
              · rw [if_neg h, if_neg (by omega)]
            by_cases hkl : k < i
            · simp [hlk, hlt, hg, hgk, hgs, hne, hkl, mtC]
              refine ⟨lexOk.mk (by kernel_rfl), lexOk.mk (by kernel_rfl), ?_⟩
              exact Again.mk ⟨k + 1, hlk⟩ (by simp [hwk, hv, mtC]) (by simp; omega)
            · simp [hlk, hlt, hg, hgk, hgs, hne, hkl, mtC]
              refine ⟨lexOk.mk (by kernel_rfl), lexOk.mk (by kernel_rfl), ?_⟩
              exact Again.mk ⟨k + 1, hlk⟩ (by simp [hwk, hv, mtC]) (by simp; omega)
        · have hke : k = H.length := by omega
          subst hke
          have hnil : ¬ H[i].2 = [] := fun h => by rw [h] at hvl; simp at hvl
          simp [hlt, mtC, hg, hnil, hvl, hv0', hle24]
          exact Again.mk ⟨i + 1, hlt⟩ (by simp [hw, mtC]) (by simp; omega)
      · have hie : i = H.length := by omega
        subst hie
        simp [mtC]
        refine callK.mk ent_l37_awake l37_awake_cs ?_
        simp
theorem templateHoles_all (xs : List D) (h : FitsAll Tryd.prog [29, 38, 41] xs) (hsz : szL xs ≤ 1048576) : CS Tryd.prog G0 7 xs (.d (.bool true)) none := by
  match xs, h with
  | [a, b, c], ⟨h1, h2, h3, _⟩ =>
    obtain ⟨m, rfl⟩ := fitV_mt h1
    obtain ⟨t, rfl⟩ := fitV_ty h2
    obtain ⟨pre, sc, rfl⟩ := fitV_pl h3
    have z1 := agg_sz (cs := mtC m) (xs := [.agg (mtC m), .agg (tyD t), .agg (plC pre sc)]) (by simp)
    have z2 := agg_sz (cs := tyD t) (xs := [.agg (mtC m), .agg (tyD t), .agg (plC pre sc)]) (.tail _ (.head _))
    have z3 := agg_sz (cs := plC pre sc) (xs := [.agg (mtC m), .agg (tyD t), .agg (plC pre sc)]) (by simp)
    have hv := vrs_len_szA sc
    have z4 : szLL (sc.map vrC) ≤ szL (plC pre sc) := by simp only [plC, szL, szD]; omega
    exact l37_Holes_cs m t pre sc (Nat.le_trans z1 hsz) (Nat.le_trans z2 hsz) (Nat.le_trans hv (Nat.le_trans z4 (Nat.le_trans z3 hsz)))
end Go.Proofs.YtmjpdmkgmlhfaaaDoor
