/- Joined texts. Template: the holes that are applied in a type. Template: the statement TemplateHoles. Template: holes filled with true. Template: holes filled with true, by the program. Template: the statement TemplateFilled. No condition. -/
import Derived.Test.YtmjpdmkgmlhfaaaDoorOd
section
set_option linter.unusedVariables false
set_option linter.unusedSimpArgs false
set_option linter.unusedSectionVars false
namespace Go.Proofs.YtmjpdmkgmlhfaaaDoor
open Go Go.VM
set_option maxRecDepth 100000
set_option maxHeartbeats 16000000
variable {G : GT}
theorem ent_collect : VM.Enters Tryd.prog 89 := VM.Enters.mk Tryd.func89 rfl
abbrev nilS (p : Pr) : St := ⟨[.d (.agg (prD p)), .d (.int .i64 5), .d (.sl [])], [], [(36, [.t 2])]⟩
/-- A variable holds no hole. -/
theorem leaf_ch (x : Nm) : CH Tryd.prog G 89 (nilS ⟨3, x, 0, []⟩) ⟨[.d (.sl [])], [], [(36, [.t 0])]⟩ := by
  refine CH.of_VK Tryd.func89 rfl Tryd.ntmps89 rfl (by simp) ?_
  simp
  refine SW.loopF (ι := Unit) (fun _ => [(2, .d (.sl [])), (12, .d (.int .i64 0))]) (fun _ => [(3, .cells [.d (.int .i64 3), .d (.str x), .d (.int .i64 0), .d (.sl [])])]) (fun _ => [(36, [.t 2])]) (fun _ => 0) () (by simp) ?_
  intro _
  simp
theorem zero_ch : CH Tryd.prog G 89 (nilS zeroP) ⟨[.d (.sl [])], [], [(36, [.t 0])]⟩ := by
  refine CH.of_VK Tryd.func89 rfl Tryd.ntmps89 rfl (by simp) ?_
  simp [zeroP]
  refine SW.loopF (ι := Unit) (fun _ => [(2, .d (.sl [])), (12, .d (.int .i64 0))]) (fun _ => [(3, .cells [.d (.int .i64 0), .d (.str []), .d (.int .i64 0), .d (.sl [])])]) (fun _ => [(36, [.t 2])]) (fun _ => 0) () (by simp) ?_
  intro _
  simp
theorem ent_r7_Has : VM.Enters Tryd.prog 112 := VM.Enters.mk Tryd.func112 rfl
theorem has_none (p : Pr) : CS Tryd.prog G 112 [.sl [], .agg (prD p)] (.d (.bool false)) none := by
  refine CS.of_VK Tryd.func112 rfl Tryd.ntmps112 rfl ?_
  simp
  refine SW.loopF (ι := Unit) (fun _ => [(9, .d (.int .i64 0))]) (fun _ => [(3, .cells [.d (.int .i64 p.op), .d (.str p.name), .d (.int .i64 p.n), .d (.sl (p.kids.map prC))])]) (fun _ => []) (fun _ => 0) () (by simp) ?_
  intro _
  simp
theorem hole_one (n : Nm) (vs : List Vr) (hv : vs.length ≤ 1000000) : CH Tryd.prog G 89 (nilS (holP n vs)) ⟨[.d (.sl [prD (holP n vs)])], [], [(36, [.t 0])]⟩ := by
  have hh := has_none (G := G) (holP n vs)
  refine CH.of_VK Tryd.func89 rfl Tryd.ntmps89 rfl (by simp) ?_
  unfold holP at hh ⊢
  obtain ⟨K, hK⟩ : ∃ K, K = vs.map fun x => (⟨3, x.1, 0, []⟩ : Pr) := ⟨_, rfl⟩
  have hKl : K.length = vs.length := by rw [hK, List.length_map]
  have hKi : ∀ i (h : i < K.length), ∃ x, K[i] = ⟨3, x, 0, []⟩ := fun i h => by
    subst hK
    exact ⟨_, List.getElem_map _⟩
  rw [← hK] at hh ⊢
  clear hK
  simp
  refine SW.loopF (ι := { i : Nat // i ≤ K.length }) (fun i => [(2, .d (.sl [])), (12, .d (.int .i64 i.1))]) (fun _ => [(3, .cells [.d (.int .i64 5), .d (.str n), .d (.int .i64 0), .d (.sl (K.map prC))])]) (fun _ => [(36, [.t 2])]) (fun i => K.length - i.1) ⟨0, by simp⟩ (by simp) ?_
  rintro ⟨i, hi⟩
  by_cases hlt : i < K.length
  · have hg := prs_get hlt
    have hw := wrap64s (show i < 9223372036854775807 by omega)
    obtain ⟨x, hx⟩ := hKi i hlt
    rw [hx] at hg
    have hle := leaf_ch (G := G) x
    simp [hlt, hg]
    refine callK.own ent_collect hle (by simp) (by simp [hx]) (by simp) (by simp; rfl) (by simp) ?_
    simp
    exact Again.mk ⟨i + 1, hlt⟩ (by simp [hw]) (by simp; omega)
  · have hie : i = K.length := by omega
    subst hie
    simp
    refine callK.mk ent_r7_Has (by simpa using hh) ?_
    simp
theorem nil_start {p : Pr} {r : DV} (h : CH Tryd.prog G 89 (nilS p) ⟨[r], [], [(36, [.t 0])]⟩) : CH Tryd.prog G 89 ⟨[.d (.agg (prD p)), .d (.int .i64 5), .d .nils], [], []⟩ ⟨[r], [], [(36, [.t 0])]⟩ :=
  fun base R μ args w hr => h base R μ args w (hr.weak ⟨by simp, by simp, by simp, by simp [keysIn]⟩)
/-- A predicate of a template: none, or the application of a hole. -/
def HolOk (p : Pr) : Prop := p = zeroP ∨ ∃ n vs, vs.length ≤ 24 ∧ p = holP n vs
def holL (p : Pr) : List Pr := if p.op = 5 then [p] else []
theorem ent_r7_Holes : VM.Enters Tryd.prog 59 := VM.Enters.mk Tryd.func59 rfl
theorem r7_Holes_cs {p : Pr} (h : HolOk p) : CS Tryd.prog G 59 [.agg (prD p)] (.d (.sl ((holL p).map prC))) none := by
  rcases h with rfl | ⟨n, vs, hv, rfl⟩
  · have hz := nil_start (zero_ch (G := G))
    unfold zeroP at hz ⊢
    refine CS.of_VK Tryd.func59 rfl Tryd.ntmps59 rfl ?_
    simp
    refine callK.own ent_collect hz (by simp) (by simp) (by simp) (by simp; rfl) (by simp) ?_
    simp [holL]
  · have hz := nil_start (hole_one (G := G) n vs (by omega))
    unfold holP at hz ⊢
    refine CS.of_VK Tryd.func59 rfl Tryd.ntmps59 rfl ?_
    simp
    refine callK.own ent_collect hz (by simp) (by simp) (by simp) (by simp; rfl) (by simp) ?_
    simp [holL]
end Go.Proofs.YtmjpdmkgmlhfaaaDoor
end

section
set_option linter.unusedVariables false
set_option linter.unusedSimpArgs false
set_option linter.unusedSectionVars false
namespace Go.Proofs.YtmjpdmkgmlhfaaaDoor
open Go Go.VM
set_option maxRecDepth 100000
set_option maxHeartbeats 16000000
variable {G : GT}
/-- A type whose predicates are those of a template. -/
inductive HO : Ty → Prop
  | mk (op : Int) (nm : Nm) (l : List Ty) (ns : List Nm) (p : Pr) (ps : List Pr) : HolOk p → (∀ q ∈ ps, HolOk q) → (∀ k ∈ l, HO k) → HO ⟨op, nm, l, ns, p, ps⟩
theorem holOk_zero : HolOk zeroP := .inl rfl
theorem holOk_next (pre : Nm) (hs : List Ho) (s : Nm) (sc : List Vr) : HolOk (nextP pre hs s sc) := .inr ⟨_, _, by unfold holV; rw [List.length_take]; omega, rfl⟩
theorem plain_HO : ∀ t : Ty, HO (plainT t) := by
  refine Ty.ind fun t ih => ?_
  obtain ⟨op, nm, l, ns, p, ps⟩ := t
  simp only at ih
  rw [plainT, plainTs_map]
  refine .mk _ _ _ _ _ _ holOk_zero (by simp) fun k hk => ?_
  obtain ⟨x, hx, rfl⟩ := List.mem_map.1 hk
  exact ih x hx
theorem data_HO {pre : Nm} {sc : List Vr} : ∀ (l : List Nm) (ps : List Pr) (hs : List Ho), (∀ q ∈ ps, HolOk q) → ∀ q ∈ (dataT pre sc l ps hs).1, HolOk q
  | [], ps, hs, h => h
  | s :: r, ps, hs, h => by
    rw [dataT]
    refine data_HO r _ _ fun q hq => ?_
    rcases List.mem_append.1 hq with hq | hq
    · exact h q hq
    · rw [List.mem_singleton] at hq
      rw [hq]
      exact holOk_next _ _ _ _
theorem vis_HO {srt : Nm → Bool} {pre : Nm} {dat : Nm → List Nm} : ∀ (t : Ty) (sc : List Vr) (hs : List Ho), HO (visT srt pre dat t sc hs).1 := by
  refine Ty.ind fun t ih => ?_
  obtain ⟨op, nm, l, ns, p, ps⟩ := t
  simp only at ih
  intro sc hs
  have hf : ∀ (l : List Ty) (g : Bool) (ns dn : List Nm) (sc : List Vr) (hs : List Ho), (∀ k ∈ l, ∀ sc hs, HO (visT srt pre dat k sc hs).1) → ∀ k ∈ (funT srt pre dat l g ns dn sc hs).1, HO k := by
    intro l
    induction l with
    | nil => intro g ns dn sc hs _ k hk; rw [funT] at hk; cases hk
    | cons a r ihr =>
      intro g ns dn sc hs hk k hm
      cases r with
      | nil =>
        rw [funT] at hm
        simp only [List.mem_singleton] at hm
        rw [hm]
        exact hk a (by simp) sc hs
      | cons b r =>
        rw [funT] at hm
        simp only [List.mem_cons] at hm
        rcases hm with hm | hm
        · rw [hm]
          exact hk a (by simp) sc hs
        · exact ihr _ _ _ _ _ (fun x hx => hk x (.tail _ hx)) k hm
  have hpl : ∀ k ∈ plainTs l, HO k := fun k hk => by
    rw [plainTs_map] at hk
    obtain ⟨x, hx, rfl⟩ := List.mem_map.1 hk
    exact plain_HO x
  rw [visT]
  split
  · exact .mk _ _ _ _ _ _ holOk_zero (by simp) (hf l _ ns [] sc hs ih)
  · split
    · exact .mk _ _ _ _ _ _ holOk_zero (by simp) hpl
    · exact .mk _ _ _ _ _ _ (holOk_next _ _ _ _) (data_HO _ _ _ (by simp)) hpl
theorem appTs_mem {l : List Ty} {k : Ty} (h : k ∈ l) : (appT k).length ≤ (appTs l).length := by
  induction l with
  | nil => cases h
  | cons a r ih =>
    rw [appTs, List.length_append]
    rcases List.mem_cons.1 h with rfl | h
    · omega
    · have := ih h
      omega
theorem appTs_take : ∀ (l : List Ty) (i : Nat), (appTs (l.take i)).length ≤ (appTs l).length
  | [], i => by simp
  | a :: r, 0 => by simp [appTs]
  | a :: r, i + 1 => by
    have := appTs_take r i
    simp only [List.take_succ_cons, appTs, List.length_append]
    omega
theorem appTs_step : ∀ {l : List Ty} {i : Nat} (h : i < l.length), appTs (l.take (i + 1)) = appTs (l.take i) ++ appT l[i]
  | a :: r, 0, _ => by simp [appTs]
  | a :: r, i + 1, h => by
    have := appTs_step (l := r) (i := i) (by simpa using h)
    simp only [List.take_succ_cons, appTs, List.getElem_cons_succ]
    rw [this, List.append_assoc]
theorem flat_len {L : List Pr} (i : Nat) : ((L.take i).flatMap appP).length ≤ i := by
  induction L generalizing i with
  | nil => simp
  | cons a r ih =>
    cases i with
    | zero => simp
    | succ i =>
      have := ih i
      have h1 : (appP a).length ≤ 1 := by unfold appP; split <;> simp
      simp only [List.take_succ_cons, List.flatMap_cons, List.length_append]
      omega
theorem flat_step {L : List Pr} {i : Nat} (h : i < L.length) : (L.take (i + 1)).flatMap appP = (L.take i).flatMap appP ++ (holL L[i]).map (·.name) := by
  rw [List.take_succ_eq_append_getElem h, List.flatMap_append]
  congr 1
  simp only [List.flatMap_cons, List.flatMap_nil, List.append_nil, appP, holL]
  split <;> simp
theorem strs_cat (a b : List Nm) : strs (a ++ b) = strs a ++ strs b := by simp [strs]
theorem strs_len1 (l : List Nm) : ∀ x ∈ strs l, x.length = 1 := fun x hx => by
  unfold strs at hx
  obtain ⟨y, _, rfl⟩ := List.mem_map.1 hx
  rfl
theorem ent_l37_applications : VM.Enters Tryd.prog 23 := VM.Enters.mk Tryd.func23 rfl
theorem l37_app_cs : ∀ t : Ty, HO t → nodT t ≤ 1000000 → WB 900000000 t → (appT t).length ≤ 1000000 → CS Tryd.prog G 23 [.agg (tyD t)] (.d (.sl (strs (appT t)))) none := by
  refine Ty.ind fun t ih => ?_
  obtain ⟨op, nm, l, ns, p, ps⟩ := t
  simp only at ih
  intro hO hN hW hA
  cases hO with
  | mk _ _ _ _ _ _ o1 o2 o3 =>
  cases hW with
  | mk _ _ _ _ _ _ w1 w2 w3 w4 w5 w6 =>
  rw [nodT] at hN
  have hl := len_le_nodTs l
  obtain ⟨L, hL⟩ : ∃ L, L = p :: ps := ⟨_, rfl⟩
  have hLC : (prD p :: ps.map prC) = L.map prC := by rw [hL]; simp
  have hLl : L.length = ps.length + 1 := by rw [hL]; rfl
  have hLo : ∀ i (h : i < L.length), HolOk L[i] := fun i h => by
    subst hL
    cases i with
    | zero => exact o1
    | succ i => exact o2 _ (List.getElem_mem _)
  have hap : appT ⟨op, nm, l, ns, p, ps⟩ = L.flatMap appP ++ appTs l := by
    rw [appT, hL, List.flatMap_cons, List.append_assoc]
  rw [hap] at hA ⊢
  rw [List.length_append] at hA
  refine CS.of_VK Tryd.func23 rfl Tryd.ntmps23 rfl ?_
  have hLC' : ([.int .i64 p.op, .str p.name, .int .i64 p.n, .sl (p.kids.map prC)] :: ps.map prC) = L.map prC := by rw [hL]; simp
  simp
  refine stepK_len (by omega) ?_
  simp only [hLC']
  simp
  refine SW.loopF (ι := { i : Nat // i ≤ L.length }) (fun i => [(3, .d (.sl (strs ((L.take i.1).flatMap appP)))), (5, .d (.int .i64 i.1))]) (fun _ => [(1, .cells [.d (.int .i64 op), .d (.str nm), .d (.sl (l.map tyC)), .d (.sl (strs ns)), .d (.int .i64 p.op), .d (.str p.name), .d (.int .i64 p.n), .d (.sl (p.kids.map prC)), .d (.sl (ps.map prC))])]) (fun _ => [(9, [.t 3])]) (fun i => L.length - i.1) ⟨0, by simp⟩ (by simp) ?_
  rintro ⟨i, hi⟩
  by_cases hlt : i < L.length
  · have hg := prs_get hlt
    have hw := wrap64s (show i < 9223372036854775807 by omega)
    have hfl := flat_len (L := L) i
    have hfs := flat_step hlt
    obtain ⟨A, hAA⟩ : ∃ A, A = (L.take i).flatMap appP := ⟨_, rfl⟩
    obtain ⟨B, hBB⟩ : ∃ B, B = (L.take (i + 1)).flatMap appP := ⟨_, rfl⟩
    have hho := r7_Holes_cs (G := G) (hLo i hlt)
    obtain ⟨h, hh⟩ : ∃ h, h = holL L[i] := ⟨_, rfl⟩
    have hhl : h.length ≤ 1 := by rw [hh]; unfold holL; split <;> simp
    rw [← hh] at hho
    rw [← hh, ← hAA, ← hBB] at hfs
    rw [← hAA] at hfl
    simp only [← hAA]
    simp [hlt, hg]
    refine callK.mk ent_r7_Holes hho ?_
    simp
    refine SW.loopF (ι := { k : Nat // k ≤ h.length }) (fun k => [(3, .d (.sl (strs (A ++ (h.take k.1).map (·.name))))), (7, .d (.int .i64 k.1))]) (fun _ => [(1, .cells [.d (.int .i64 op), .d (.str nm), .d (.sl (l.map tyC)), .d (.sl (strs ns)), .d (.int .i64 p.op), .d (.str p.name), .d (.int .i64 p.n), .d (.sl (p.kids.map prC)), .d (.sl (ps.map prC))])]) (fun _ => [(9, [.t 3])]) (fun k => h.length - k.1) ⟨0, by simp⟩ (by simp) ?_
    rintro ⟨k, hk⟩
    by_cases hlk : k < h.length
    · have hgk := prs_get hlk
      have hwk := wrap64s (show k < 9223372036854775807 by omega)
      have hst : strs (A ++ (h.take (k + 1)).map (·.name)) = strs (A ++ (h.take k).map (·.name)) ++ [[.str h[k].name]] := by
        rw [List.take_succ_eq_append_getElem hlk, List.map_append, ← List.append_assoc, strs_cat]
        rfl
      have hlen : (strs (A ++ (h.take k).map (·.name))).length ≤ 900000010 := by
        simp only [strs, List.length_map, List.length_append, List.length_take]
        omega
      have h1 := strs_len1 (A ++ (h.take k).map (·.name))
      obtain ⟨X, hX⟩ : ∃ X, X = strs (A ++ (h.take k).map (·.name)) := ⟨_, rfl⟩
      simp only [← hX] at hst hlen h1 ⊢
      simp [hlk, hgk]
      refine stepK_len ⟨h1, by omega⟩ ?_
      simp
      rw [List.map_take] at hst
      exact Again.mk ⟨k + 1, hlk⟩ (by simp [hwk, hst]) (by simp; omega)
    · have hke : k = h.length := by omega
      subst hke
      simp only [List.take_length, ← hfs]
      simp
      exact Again.mk ⟨i + 1, hlt⟩ (by simp only [← hBB]; simp [hw]) (by simp; omega)
  have hie : i = L.length := by omega
  subst hie
  simp only [List.take_length]
  obtain ⟨A, hAA⟩ : ∃ A, A = L.flatMap appP := ⟨_, rfl⟩
  rw [← hAA] at hA ⊢
  simp
  refine SW.loopF (ι := { i : Nat // i ≤ l.length }) (fun i => [(3, .d (.sl (strs (A ++ appTs (l.take i.1))))), (8, .d (.int .i64 i.1))]) (fun _ => [(1, .cells [.d (.int .i64 op), .d (.str nm), .d (.sl (l.map tyC)), .d (.sl (strs ns)), .d (.int .i64 p.op), .d (.str p.name), .d (.int .i64 p.n), .d (.sl (p.kids.map prC)), .d (.sl (ps.map prC))])]) (fun _ => [(9, [.t 3])]) (fun i => l.length - i.1) ⟨0, by simp⟩ (by simp [appTs]) ?_
  rintro ⟨i, hi⟩
  by_cases hlt : i < l.length
  · have hg := tys_get hlt
    have hw := wrap64s (show i < 9223372036854775807 by omega)
    have hm := List.getElem_mem hlt
    have h2 := appTs_take l i
    have h3 := appTs_mem hm
    have hst : strs (A ++ appTs (l.take (i + 1))) = strs (A ++ appTs (l.take i)) ++ strs (appT l[i]) := by rw [appTs_step hlt, ← List.append_assoc, strs_cat]
    have hlen : (strs (A ++ appTs (l.take i))).length ≤ 1000000 := by
      simp only [strs, List.length_map, List.length_append]
      omega
    have hlen2 : (strs (appT l[i])).length ≤ 1000000 := by
      simp only [strs, List.length_map]
      omega
    have h1 := strs_len1 (A ++ appTs (l.take i))
    have h1' := strs_len1 (appT l[i])
    have hki := ih l[i] hm (o3 _ hm) (by have := nodTs_memA hm; omega) (w6 _ hm) (by omega)
    obtain ⟨X, hX⟩ : ∃ X, X = strs (A ++ appTs (l.take i)) := ⟨_, rfl⟩
    obtain ⟨Y, hY⟩ : ∃ Y, Y = strs (appT l[i]) := ⟨_, rfl⟩
    simp only [← hX, ← hY] at hst hlen hlen2 h1 h1' hki ⊢
    simp [hlt, hg]
    refine callK.mk ent_l37_applications hki ?_
    simp
    rw [if_pos h1']
    refine stepK_len ⟨h1, by omega⟩ ?_
    simp
    exact Again.mk ⟨i + 1, hlt⟩ (by simp only [hst]; simp [hw]) (by simp; omega)
  · have hie : i = l.length := by omega
    subst hie
    simp
/-! ### The law -/
theorem holes_ne {pre : Nm} {hs : List Ho} (h : holesOk pre hs) {i j : Nat} (hi : i < hs.length) (hj : j < hs.length) (hne : i ≠ j) : hs[i].1 ≠ hs[j].1 := by
  intro e
  rw [(h i hi).1, (h j hj).1] at e
  have h1 := (List.cons.inj (List.append_cancel_left e)).2
  have h2 := congrArg valN h1
  rw [(dd_all i).2.2.1, (dd_all j).2.2.1] at h2
  exact hne h2
theorem ent_l37_TemplateHoles : VM.Enters Tryd.prog 7 := VM.Enters.mk Tryd.func7 rfl
theorem l37_Holes_cs (m : Mt) (t : Ty) (pre : Nm) (sc : List Vr) (hm : szL (mtC m) ≤ 1048576) (ht : szL (tyD t) ≤ 1048576) (hsc : sc.length ≤ 1048576) : CS Tryd.prog G0 7 [.agg (mtC m), .agg (tyD t), .agg (plC pre sc)] (.d (.bool true)) none := by
  obtain ⟨d1, d2⟩ := mt_sz m
  have ht2 := tyD_sz t
  have hli := l37_light_cs (G := G0) m t sc (by omega) (by omega) (by omega) (fun d hd => by have := d2 d hd; omega)
  refine CS.of_VK Tryd.func7 rfl Tryd.ntmps7 rfl ?_
  cases hb : lightB m t sc
  · rw [hb] at hli
    simp [mtC, plC]
    refine callK.mk ent_l37_light hli ?_
    simp
    refine callK.mk ent_l37_awake l37_awake_cs ?_
    simp
  · rw [hb] at hli
    by_cases hp : (100 : Int) < pre.length
    · simp [mtC, plC]
      refine callK.mk ent_l37_light hli ?_
      simp [hp]
      refine callK.mk ent_l37_awake l37_awake_cs ?_
      simp
    · obtain ⟨e1, e2, e3, e4, e5, e6⟩ := light_news hb pre
      have hn1 := t_New_cs G0_kw G0_pow (added_ok (G := G0)) pre m (by omega) e3 t sc e1 e2
      obtain ⟨hok, q, hq1, hq2⟩ := vis_ok (srt := sortB) (pre := pre) (dat := datN m) t sc [] (fun i hi => by simp at hi)
      rw [List.nil_append] at hq1
      rw [← hq1] at hq2
      have hnv := nod_plainA (visT sortB pre (datN m) t sc []).1
      rw [vis_plain, nod_plainA] at hnv
      have hap := l37_app_cs (G := G0) (visT sortB pre (datN m) t sc []).1 (vis_HO t sc []) (by omega) e4 (by rw [hq2, List.length_map]; omega)
      rw [hq2] at hap
      generalize visT sortB pre (datN m) t sc [] = r at hn1 hap hok e5
      obtain ⟨a, H⟩ := r
      simp only at hn1 hap hok e5
      simp [mtC, plC]
      refine callK.mk ent_l37_light hli ?_
      simp [hp]
      refine callK.mk ent_template_New hn1 ?_
      simp
      refine callK.mk ent_l37_applications hap ?_
      simp
      refine SW.loopF (ι := { i : Nat // i ≤ H.length }) (fun i => [(10, .d (.int .i64 i.1))]) (fun _ => [(3, .cells ((mtC m).map .d)), (4, .cells [.d (.int .i64 t.op), .d (.str t.name), .d (.sl (t.args.map tyC)), .d (.sl (strs t.names)), .d (.int .i64 t.pred.op), .d (.str t.pred.name), .d (.int .i64 t.pred.n), .d (.sl (t.pred.kids.map prC)), .d (.sl (t.preds.map prC))]), (5, .cells [.d (.str pre), .d (.sl (sc.map vrC))]), (7, .cells [.d (.int .i64 a.op), .d (.str a.name), .d (.sl (a.args.map tyC)), .d (.sl (strs a.names)), .d (.int .i64 a.pred.op), .d (.str a.pred.name), .d (.int .i64 a.pred.n), .d (.sl (a.pred.kids.map prC)), .d (.sl (a.preds.map prC))])]) (fun _ => []) (fun i => H.length - i.1) ⟨0, by simp⟩ (by simp [mtC]) ?_
      rintro ⟨i, hi⟩
      by_cases hlt : i < H.length
      · have hg := hos_get hlt
        have hw := wrap64s (show i < 9223372036854775807 by omega)
        obtain ⟨n1, n2, s, r, n3⟩ := hok i hlt
        have hvl : 0 < H[i].2.length := by rw [n3]; simp
        have hv0 := vrs_get hvl
        have hv0' : H[i].2[0].1 = [118] := by simp only [n3, List.getElem_cons_zero]; rfl
        rw [hv0'] at hv0
        have hne0 : ¬ ((H[i].2.length : Nat) : Int) = 0 := by omega
        have hle24 : ¬ (24 : Int) < H[i].2.length := by omega
        simp [hlt, mtC]
        refine SW.loopF (ι := { k : Nat // k ≤ H.length }) (fun k => [(11, .d (.int .i64 (if i < k.1 then 1 else 0))), (12, .d (.int .i64 k.1))]) (fun _ => [(3, .cells ((mtC m).map .d)), (4, .cells [.d (.int .i64 t.op), .d (.str t.name), .d (.sl (t.args.map tyC)), .d (.sl (strs t.names)), .d (.int .i64 t.pred.op), .d (.str t.pred.name), .d (.int .i64 t.pred.n), .d (.sl (t.pred.kids.map prC)), .d (.sl (t.preds.map prC))]), (5, .cells [.d (.str pre), .d (.sl (sc.map vrC))]), (7, .cells [.d (.int .i64 a.op), .d (.str a.name), .d (.sl (a.args.map tyC)), .d (.sl (strs a.names)), .d (.int .i64 a.pred.op), .d (.str a.pred.name), .d (.int .i64 a.pred.n), .d (.sl (a.pred.kids.map prC)), .d (.sl (a.preds.map prC))])]) (fun _ => []) (fun k => H.length - k.1) ⟨0, by simp⟩ (by simp [mtC]) ?_
        rintro ⟨k, hk⟩
        by_cases hlk : k < H.length
        · have hgk := hos_get hlk
          have hwk := wrap64s (show k < 9223372036854775807 by omega)
          have hgs : (strs (H.map (·.1)))[k]? = some [.str H[k].1] := by simp [strs, hlk]
          have hw1 : IntKind.i64.wrap 1 = 1 := wrap64 (by omega)
          by_cases hki : k = i
          · subst hki
            simp [hlk, hgk, hgs, mtC]
            refine ⟨lexOk.mk (by kernel_rfl), lexOk.mk (by kernel_rfl), ?_⟩
            exact Again.mk ⟨k + 1, hlk⟩ (by simp [hwk, hw1, mtC]) (by simp; omega)
          · have hne := holes_ne hok hlk hlt hki
            have hv : (if i < k + 1 then (1 : Int) else 0) = if i < k then 1 else 0 := by
              by_cases h : i < k
              · rw [if_pos h, if_pos (by omega)]
              · rw [if_neg h, if_neg (by omega)]
            by_cases hkl : k < i
            · simp [hlk, hlt, hg, hgk, hgs, hne, hkl, mtC]
              refine ⟨lexOk.mk (by kernel_rfl), lexOk.mk (by kernel_rfl), ?_⟩
              exact Again.mk ⟨k + 1, hlk⟩ (by simp [hwk, hv, mtC]) (by simp; omega)
            · simp [hlk, hlt, hg, hgk, hgs, hne, hkl, mtC]
              refine ⟨lexOk.mk (by kernel_rfl), lexOk.mk (by kernel_rfl), ?_⟩
              exact Again.mk ⟨k + 1, hlk⟩ (by simp [hwk, hv, mtC]) (by simp; omega)
        · have hke : k = H.length := by omega
          subst hke
          have hnil : ¬ H[i].2 = [] := fun h => by rw [h] at hvl; simp at hvl
          simp [hlt, mtC, hg, hnil, hvl, hv0', hle24]
          exact Again.mk ⟨i + 1, hlt⟩ (by simp [hw, mtC]) (by simp; omega)
      · have hie : i = H.length := by omega
        subst hie
        simp [mtC]
        refine callK.mk ent_l37_awake l37_awake_cs ?_
        simp
theorem templateHoles_all (xs : List D) (h : FitsAll Tryd.prog [29, 38, 41] xs) (hsz : szL xs ≤ 1048576) : CS Tryd.prog G0 7 xs (.d (.bool true)) none := by
  match xs, h with
  | [a, b, c], ⟨h1, h2, h3, _⟩ =>
    obtain ⟨m, rfl⟩ := fitV_mt h1
    obtain ⟨t, rfl⟩ := fitV_ty h2
    obtain ⟨pre, sc, rfl⟩ := fitV_pl h3
    have z1 := agg_sz (cs := mtC m) (xs := [.agg (mtC m), .agg (tyD t), .agg (plC pre sc)]) (by simp)
    have z2 := agg_sz (cs := tyD t) (xs := [.agg (mtC m), .agg (tyD t), .agg (plC pre sc)]) (.tail _ (.head _))
    have z3 := agg_sz (cs := plC pre sc) (xs := [.agg (mtC m), .agg (tyD t), .agg (plC pre sc)]) (by simp)
    have hv := vrs_len_szA sc
    have z4 : szLL (sc.map vrC) ≤ szL (plC pre sc) := by simp only [plC, szL, szD]; omega
    exact l37_Holes_cs m t pre sc (Nat.le_trans z1 hsz) (Nat.le_trans z2 hsz) (Nat.le_trans hv (Nat.le_trans z4 (Nat.le_trans z3 hsz)))
end Go.Proofs.YtmjpdmkgmlhfaaaDoor
end

section
set_option linter.unusedVariables false
set_option linter.unusedSimpArgs false
set_option linter.unusedSectionVars false
namespace Go.Proofs.YtmjpdmkgmlhfaaaDoor
open Go Go.VM
set_option maxRecDepth 100000
set_option maxHeartbeats 16000000
variable {G : GT}
mutual
/-- A function on the predicates of a type. -/
def mapPT (f : Pr → Pr) : Ty → Ty
  | ⟨op, nm, l, ns, p, ps⟩ => ⟨op, nm, mapPTs f l, ns, f p, ps.map f⟩
def mapPTs (f : Pr → Pr) : List Ty → List Ty
  | [] => []
  | t :: r => mapPT f t :: mapPTs f r
end
theorem mapPTs_map (f : Pr → Pr) : ∀ l : List Ty, mapPTs f l = l.map (mapPT f)
  | [] => rfl
  | t :: r => by rw [mapPTs, mapPTs_map f r]; rfl
/-- The predicate of a template, filled with true. -/
def fil0 (p : Pr) : Pr := if p.op = 5 then truP else zeroP
theorem fill_hol {H : List Ho} {S : List So} (hS : ∀ s ∈ S, voidP s.2 = true) {p : Pr} (h : HolOk p) : fillP (hoN H) S p = fil0 p := by
  rcases h with rfl | ⟨n, vs, _, rfl⟩
  · have hz : voidP zeroP = true := by decide
    rw [fillP_void hz]
    rfl
  · unfold holP fil0
    rw [fillP_hole, solP_eq]
    simp only [if_true]
    cases hs : soF S n with
    | none => rfl
    | some s =>
      have hv := hS s (List.mem_of_find?_eq_some hs)
      cases hoF H n with
      | none => rfl
      | some h => simp [hv]
theorem hol_pow {p : Pr} (h : HolOk p) : nodP p * 10 ^ depP p ≤ 900000000 := by
  rcases h with rfl | ⟨n, vs, hv, rfl⟩
  · decide
  · have h1 := nod_holP n vs
    have h2 : depP (holP n vs) ≤ 2 := by
      unfold holP
      rw [depP_eq]
      have : ∀ (l : List Vr) (k : Nat), k ≤ 1 → depPs (l.map fun x => (⟨3, x.1, 0, []⟩ : Pr)) k ≤ 1 := fun l => by
        induction l with
        | nil => intro k hk; simpa [depPs] using hk
        | cons a r ih =>
          intro k hk
          rw [List.map_cons, depPs]
          exact ih _ (by rw [depP_eq]; simp [depPs]; omega)
      have := this vs 0 (by omega)
      simp only
      omega
    have h3 : 10 ^ depP (holP n vs) ≤ 10 ^ 2 := Nat.pow_le_pow_right (by omega) h2
    calc nodP (holP n vs) * 10 ^ depP (holP n vs) ≤ 25 * 10 ^ 2 := Nat.mul_le_mul (by omega) h3
      _ ≤ 900000000 := by decide
/-- What the solutions and holes must be. -/
structure FillOk (H : List Ho) (S : List So) : Prop where
  h1 : H.length ≤ 1000000
  h2 : ∀ h ∈ H, h.2.length ≤ 1000000
  h3 : S.length ≤ 1000000
  h4 : ∀ s ∈ S, nodP s.2 ≤ 10
  h5 : ∀ s ∈ S, voidP s.2 = true
theorem ent_r32_Fill : VM.Enters Tryd.prog 33 := VM.Enters.mk Tryd.func33 rfl
theorem r32_Fill_cs {H : List Ho} {S : List So} (hF : FillOk H S) : ∀ t : Ty, HO t → WB 900000000 t → nodT t ≤ 1000000 → CS Tryd.prog G 33 [.agg (tyD t), .sl (H.map hoC), .sl (S.map soC)] (.d (.agg (tyD (mapPT fil0 t)))) none := by
  obtain ⟨f1, f2, f3, f4, f5⟩ := hF
  have hfp : ∀ {p : Pr}, HolOk p → CS Tryd.prog G 78 [.agg (prD p), .sl (H.map hoC), .sl (S.map soC)] (.d (.agg (prD (fil0 p)))) none := fun {p} hp => by
    have := r7_Fill_cs (G := G) H S (by omega) f2 (by omega) f4 p (hol_pow hp)
    rwa [fill_hol f5 hp] at this
  refine Ty.ind fun t ih => ?_
  obtain ⟨op, nm, l, ns, p, ps⟩ := t
  simp only at ih
  intro hO hW hN
  cases hO with
  | mk _ _ _ _ _ _ o1 o2 o3 =>
  cases hW with
  | mk _ _ _ _ _ _ w1 w2 w3 w4 w5 w6 =>
  rw [nodT] at hN
  have hl := len_le_nodTs l
  rw [mapPT, mapPTs_map]
  refine CS.of_VK Tryd.func33 rfl Tryd.ntmps33 rfl ?_
  simp
  refine ⟨lexOk.mk (by kernel_rfl), ?_⟩
  refine callK.mk ent_r7_Fill (hfp o1) ?_
  simp
  refine SW.loopF (ι := { i : Nat // i ≤ ps.length }) (fun i => [(27, .d (.int .i64 i.1))]) (fun i => [(3, .cells [.d (.int .i64 op), .d (.str nm), .d (.sl (l.map tyC)), .d (.sl (strs ns)), .d (.int .i64 p.op), .d (.str p.name), .d (.int .i64 p.n), .d (.sl (p.kids.map prC)), .d (.sl (ps.map prC))]), (6, .cells [.d (.int .i64 0), .d (.str []), .d .nils, .d .nils, .d (.int .i64 0), .d (.str []), .d (.int .i64 0), .d .nils, .d .nils]), (7, .cells [.d (.int .i64 op), .d (.str nm), .d .nils, .d (.sl (strs ns)), .d (.int .i64 (fil0 p).op), .d (.str (fil0 p).name), .d (.int .i64 (fil0 p).n), .d (.sl ((fil0 p).kids.map prC)), .d (.sl (((ps.take i.1).map fil0).map prC))])]) (fun _ => [(38, [.c 7 2]), (36, [.c 7 8])]) (fun i => ps.length - i.1) ⟨0, by simp⟩ (by simp) ?_
  rintro ⟨i, hi⟩
  by_cases hlt : i < ps.length
  · have hg := prs_get hlt
    have hw := wrap64s (show i < 9223372036854775807 by omega)
    have hst : ((ps.take (i + 1)).map fil0).map prC = ((ps.take i).map fil0).map prC ++ [prD (fil0 ps[i])] := by
      rw [List.take_succ_eq_append_getElem hlt, List.map_append, List.map_append]
      exact congrArg (fun x => _ ++ [x]) (prC_eq (fil0 _))
    have h4 : ∀ x ∈ ((ps.take i).map fil0).map prC, x.length = 4 := fun x hx => by
      obtain ⟨y, _, rfl⟩ := List.mem_map.1 hx
      simp
    have hlen : (((ps.take i).map fil0).map prC).length = i := by simp; omega
    obtain ⟨B, hB⟩ : ∃ B, B = ((ps.take i).map fil0).map prC := ⟨_, rfl⟩
    simp only [← hB] at hst h4 hlen ⊢
    simp [hlt, hg]
    refine ⟨lexOk.mk (by kernel_rfl), ?_⟩
    refine callK.mk ent_r7_Fill (hfp (o2 _ (List.getElem_mem hlt))) ?_
    simp
    refine stepK_len ⟨h4, by omega⟩ ?_
    rw [List.map_take, List.map_take] at hst
    simp
    exact Again.mk ⟨i + 1, hlt⟩ (by simp [hw]; simpa using hst) (by simp; omega)
  have hie : i = ps.length := by omega
  subst hie
  simp
  refine SW.loopF (ι := { i : Nat // i ≤ l.length }) (fun i => [(44, .d (.int .i64 i.1))]) (fun i => [(3, .cells [.d (.int .i64 op), .d (.str nm), .d (.sl (l.map tyC)), .d (.sl (strs ns)), .d (.int .i64 p.op), .d (.str p.name), .d (.int .i64 p.n), .d (.sl (p.kids.map prC)), .d (.sl (ps.map prC))]), (6, .cells [.d (.int .i64 0), .d (.str []), .d .nils, .d .nils, .d (.int .i64 0), .d (.str []), .d (.int .i64 0), .d .nils, .d .nils]), (7, .cells [.d (.int .i64 op), .d (.str nm), .d (.sl (((l.take i.1).map (mapPT fil0)).map tyC)), .d (.sl (strs ns)), .d (.int .i64 (fil0 p).op), .d (.str (fil0 p).name), .d (.int .i64 (fil0 p).n), .d (.sl ((fil0 p).kids.map prC)), .d (.sl ((ps.map fil0).map prC))])]) (fun _ => [(38, [.c 7 2])]) (fun i => l.length - i.1) ⟨0, by simp⟩ (by simp) ?_
  rintro ⟨i, hi⟩
  by_cases hlt : i < l.length
  · have hg := tys_get hlt
    have hw := wrap64s (show i < 9223372036854775807 by omega)
    have hst : ((l.take (i + 1)).map (mapPT fil0)).map tyC = ((l.take i).map (mapPT fil0)).map tyC ++ [tyD (mapPT fil0 l[i])] := by
      rw [List.take_succ_eq_append_getElem hlt, List.map_append, List.map_append]
      exact congrArg (fun x => _ ++ [x]) (tyC_eq (mapPT fil0 l[i]))
    have h9 : ∀ x ∈ ((l.take i).map (mapPT fil0)).map tyC, x.length = 9 := fun x hx => by
      obtain ⟨y, _, rfl⟩ := List.mem_map.1 hx
      simp
    have hlen : (((l.take i).map (mapPT fil0)).map tyC).length = i := by simp; omega
    obtain ⟨B, hB⟩ : ∃ B, B = ((l.take i).map (mapPT fil0)).map tyC := ⟨_, rfl⟩
    simp only [← hB] at hst h9 hlen ⊢
    have hk := List.getElem_mem hlt
    have hki := ih l[i] hk (o3 _ hk) (w6 _ hk) (by have := nodTs_memA hk; omega)
    simp [hlt, hg]
    refine ⟨lexOk.mk (by kernel_rfl), ?_⟩
    refine callK.mk ent_r32_Fill hki ?_
    simp
    refine stepK_len ⟨h9, by omega⟩ ?_
    rw [List.map_take, List.map_take] at hst
    simp
    exact Again.mk ⟨i + 1, hlt⟩ (by simp [hw]; simpa using hst) (by simp; omega)
  have hie : i = l.length := by omega
  subst hie
  simp
end Go.Proofs.YtmjpdmkgmlhfaaaDoor
end

section
set_option linter.unusedVariables false
set_option linter.unusedSimpArgs false
set_option linter.unusedSectionVars false
namespace Go.Proofs.YtmjpdmkgmlhfaaaDoor
open Go Go.VM
set_option maxRecDepth 100000
set_option maxHeartbeats 16000000
variable {G : GT}
def flH (H : List Ho) (S : List So) : List (Nat × AObj) := [(100000, .cells [.d (.sl (H.map hoC))]), (100001, .cells [.d (.sl (S.map soC))])]
theorem ent_fill1 : VM.Enters Tryd.prog 71 := VM.Enters.mk Tryd.func71 rfl
theorem ent_fill2 : VM.Enters Tryd.prog 75 := VM.Enters.mk Tryd.func75 rfl
theorem ent_mapP : VM.Enters Tryd.prog 73 := VM.Enters.mk Tryd.func73 rfl
theorem ent_mapT : VM.Enters Tryd.prog 74 := VM.Enters.mk Tryd.func74 rfl
theorem fill1_ch {H : List Ho} {S : List So} (hF : FillOk H S) {p : Pr} (hp : HolOk p) : CH Tryd.prog G 71 ⟨[.d (.agg (prD p)), .ptr 100000 0, .ptr 100001 0], flH H S, []⟩ ⟨[.d (.agg (prD (fil0 p)))], flH H S, []⟩ := by
  obtain ⟨f1, f2, f3, f4, f5⟩ := hF
  have hfp := pred_Fill_cs (G := G) H S (by omega) (fun h hh => by have := f2 h hh; omega) (by omega) f4 p (hol_pow hp)
  rw [fill_hol f5 hp] at hfp
  refine CH.of_VK Tryd.func71 rfl Tryd.ntmps71 rfl (by simp) ?_
  simp [flH]
  refine callK.mk ent_pred_Fill hfp ?_
  simp
theorem mapP_ch {H : List Ho} {S : List So} (hF : FillOk H S) (l : List Pr) (hl : l.length ≤ 900000000) (ho : ∀ p ∈ l, HolOk p) : CH Tryd.prog G 73 ⟨[.d (.sl (l.map prC)), .clo 71 [.ptr 100000 0, .ptr 100001 0]], flH H S, []⟩ ⟨[.d (.sl ((l.map fil0).map prC))], flH H S, []⟩ := by
  refine CH.of_VK Tryd.func73 rfl Tryd.ntmps73 rfl (by simp) ?_
  simp [flH]
  refine SW.loopF (ι := { i : Nat // i ≤ l.length }) (fun i => [(5, .d (.sl (((l.take i.1).map fil0).map prC))), (10, .d (.int .i64 i.1))]) (fun _ => flH H S) (fun _ => [(36, [.t 5])]) (fun i => l.length - i.1) ⟨0, by simp⟩ (by simp [flH]) ?_
  rintro ⟨i, hi⟩
  by_cases hlt : i < l.length
  · have hg := prs_get hlt
    have hw := wrap64s (show i < 9223372036854775807 by omega)
    have hst : ((l.take (i + 1)).map fil0).map prC = ((l.take i).map fil0).map prC ++ [prD (fil0 l[i])] := by
      rw [List.take_succ_eq_append_getElem hlt, List.map_append, List.map_append]
      exact congrArg (fun x => _ ++ [x]) (prC_eq (fil0 _))
    have h4 : ∀ x ∈ ((l.take i).map fil0).map prC, x.length = 4 := fun x hx => by
      obtain ⟨y, _, rfl⟩ := List.mem_map.1 hx
      simp
    have hlen : (((l.take i).map fil0).map prC).length = i := by simp; omega
    obtain ⟨B, hB⟩ : ∃ B, B = ((l.take i).map fil0).map prC := ⟨_, rfl⟩
    simp only [← hB] at hst h4 hlen ⊢
    simp [hlt, hg, flH]
    refine callHK.ro ent_fill1 (fill1_ch hF (ho _ (List.getElem_mem hlt))) [(100000, 100000), (100001, 100001)] (by simp [flH]) (by simp) (by simp [flH]) (by simp) (by simp) ?_
    simp
    refine stepK_len ⟨h4, by omega⟩ ?_
    rw [List.map_take, List.map_take] at hst
    simp
    exact Again.mk ⟨i + 1, hlt⟩ (by simp [hw, flH]; simpa using hst) (by simp; omega)
  · have hie : i = l.length := by omega
    subst hie
    simp [flH]
theorem mapT_ch {H : List Ho} {S : List So} (l : List Ty) (hl : l.length ≤ 1000000) (ho : ∀ t ∈ l, CH Tryd.prog G 75 ⟨[.d (.agg (tyD t)), .ptr 100000 0, .ptr 100001 0], flH H S, []⟩ ⟨[.d (.agg (tyD (mapPT fil0 t)))], flH H S, []⟩) :
    CH Tryd.prog G 74 ⟨[.d (.sl (l.map tyC)), .clo 75 [.ptr 100000 0, .ptr 100001 0]], flH H S, []⟩ ⟨[.d (.sl ((l.map (mapPT fil0)).map tyC))], flH H S, []⟩ := by
  refine CH.of_VK Tryd.func74 rfl Tryd.ntmps74 rfl (by simp) ?_
  simp [flH]
  refine SW.loopF (ι := { i : Nat // i ≤ l.length }) (fun i => [(5, .d (.sl (((l.take i.1).map (mapPT fil0)).map tyC))), (10, .d (.int .i64 i.1))]) (fun _ => flH H S) (fun _ => [(38, [.t 5])]) (fun i => l.length - i.1) ⟨0, by simp⟩ (by simp [flH]) ?_
  rintro ⟨i, hi⟩
  by_cases hlt : i < l.length
  · have hg := tys_get hlt
    have hw := wrap64s (show i < 9223372036854775807 by omega)
    have hst : ((l.take (i + 1)).map (mapPT fil0)).map tyC = ((l.take i).map (mapPT fil0)).map tyC ++ [tyD (mapPT fil0 l[i])] := by
      rw [List.take_succ_eq_append_getElem hlt, List.map_append, List.map_append]
      exact congrArg (fun x => _ ++ [x]) (tyC_eq (mapPT fil0 l[i]))
    have h9 : ∀ x ∈ ((l.take i).map (mapPT fil0)).map tyC, x.length = 9 := fun x hx => by
      obtain ⟨y, _, rfl⟩ := List.mem_map.1 hx
      simp
    have hlen : (((l.take i).map (mapPT fil0)).map tyC).length = i := by simp; omega
    obtain ⟨B, hB⟩ : ∃ B, B = ((l.take i).map (mapPT fil0)).map tyC := ⟨_, rfl⟩
    simp only [← hB] at hst h9 hlen ⊢
    simp [hlt, hg, flH]
    refine callHK.ro ent_fill2 (ho _ (List.getElem_mem hlt)) [(100000, 100000), (100001, 100001)] (by simp [flH]) (by simp) (by simp [flH]) (by simp) (by simp) ?_
    simp
    refine stepK_len ⟨h9, by omega⟩ ?_
    rw [List.map_take, List.map_take] at hst
    simp
    exact Again.mk ⟨i + 1, hlt⟩ (by simp [hw, flH]; simpa using hst) (by simp; omega)
  · have hie : i = l.length := by omega
    subst hie
    simp [flH]
theorem ent_reftype_Fill : VM.Enters Tryd.prog 31 := VM.Enters.mk Tryd.func31 rfl
theorem fill2_ch {H : List Ho} {S : List So} {t : Ty} (h : CS Tryd.prog G 31 [.agg (tyD t), .sl (H.map hoC), .sl (S.map soC)] (.d (.agg (tyD (mapPT fil0 t)))) none) : CH Tryd.prog G 75 ⟨[.d (.agg (tyD t)), .ptr 100000 0, .ptr 100001 0], flH H S, []⟩ ⟨[.d (.agg (tyD (mapPT fil0 t)))], flH H S, []⟩ := by
  refine CH.of_VK Tryd.func75 rfl Tryd.ntmps75 rfl (by simp) ?_
  simp [flH]
  refine callK.mk ent_reftype_Fill h ?_
  simp
theorem reftype_Fill_cs {H : List Ho} {S : List So} (hF : FillOk H S) : ∀ t : Ty, HO t → WB 900000000 t → nodT t ≤ 1000000 → CS Tryd.prog G 31 [.agg (tyD t), .sl (H.map hoC), .sl (S.map soC)] (.d (.agg (tyD (mapPT fil0 t)))) none := by
  refine Ty.ind fun t ih => ?_
  obtain ⟨op, nm, l, ns, p, ps⟩ := t
  simp only at ih
  intro hO hW hN
  cases hO with
  | mk _ _ _ _ _ _ o1 o2 o3 =>
  cases hW with
  | mk _ _ _ _ _ _ w1 w2 w3 w4 w5 w6 =>
  rw [nodT] at hN
  have hl := len_le_nodTs l
  have hcl := cloneStr_cs (G := G) ns w2
  have hf1 := fill1_ch (G := G) hF o1
  have hmp := mapP_ch (G := G) hF ps w4 o2
  have hmt := mapT_ch (G := G) (H := H) (S := S) l (by omega) fun k hk => fill2_ch (ih k hk (o3 k hk) (w6 k hk) (by have := nodTs_memA hk; omega))
  rw [mapPT, mapPTs_map]
  refine CS.of_VK Tryd.func31 rfl Tryd.ntmps31 rfl ?_
  simp
  refine ⟨lexOk.mk (by kernel_rfl), ?_⟩
  refine callK.mk ent_cloneStr hcl ?_
  simp
  refine callHK.ro ent_fill1 hf1 [(100000, 4), (100001, 5)] (by simp [flH]) (by simp) (by simp [flH]) (by simp) (by simp) ?_
  simp
  refine callHK.ro ent_mapP hmp [(100000, 4), (100001, 5)] (by simp [flH]) (by simp) (by simp [flH]) (by simp) (by simp) ?_
  simp
  refine callHK.ro ent_mapT hmt [(100000, 4), (100001, 5)] (by simp [flH]) (by simp) (by simp [flH]) (by simp) (by simp) ?_
  simp
end Go.Proofs.YtmjpdmkgmlhfaaaDoor
end

section
set_option linter.unusedVariables false
set_option linter.unusedSimpArgs false
set_option linter.unusedSectionVars false
namespace Go.Proofs.YtmjpdmkgmlhfaaaDoor
open Go Go.VM
set_option maxRecDepth 100000
set_option maxHeartbeats 16000000
variable {G : GT}
theorem void_fil0 (p : Pr) : voidP (fil0 p) = true := by
  unfold fil0
  split <;> decide
theorem nod_fil0 (p : Pr) : nodP (fil0 p) ≤ 1 := by
  unfold fil0
  split <;> decide
theorem split_fil0 (p : Pr) : splitP (fil0 p) = [] := by
  unfold fil0
  split <;> decide
theorem ent_r32_same : VM.Enters Tryd.prog 77 := VM.Enters.mk Tryd.func77 rfl
theorem r32_same_cs (p : Pr) : CS Tryd.prog G 77 [.agg (prD (fil0 p)), .agg (prD (fil0 p))] (.d (.bool true)) none := by
  have hv := r7_Void_cs (G := G) (fil0 p) (by have := nod_fil0 p; omega)
  rw [void_fil0] at hv
  refine CS.of_VK Tryd.func77 rfl Tryd.ntmps77 rfl ?_
  simp
  refine callK.mk ent_r7_Void hv ?_
  simp
  refine callK.mk ent_r7_Void hv ?_
  simp
theorem ent_r32_Same : VM.Enters Tryd.prog 32 := VM.Enters.mk Tryd.func32 rfl
theorem r32_Same_cs : ∀ t : Ty, WB 900000000 t → CS Tryd.prog G 32 [.agg (tyD (mapPT fil0 t)), .agg (tyD (mapPT fil0 t))] (.d (.bool true)) none := by
  refine Ty.ind fun t ih => ?_
  obtain ⟨op, nm, l, ns, p, ps⟩ := t
  simp only at ih
  intro hW
  cases hW with
  | mk _ _ _ _ _ _ w1 w2 w3 w4 w5 w6 =>
  rw [mapPT, mapPTs_map]
  have h4 := r4_Same_cs (G := G) ns ns w2
  have hs0 := r32_same_cs (G := G) p
  obtain ⟨q, hq⟩ : ∃ q, fil0 p = q := ⟨_, rfl⟩
  obtain ⟨Q, hQ⟩ : ∃ Q, Q = ps.map fil0 := ⟨_, rfl⟩
  obtain ⟨K, hK⟩ : ∃ K, K = l.map (mapPT fil0) := ⟨_, rfl⟩
  have hQl : Q.length ≤ 900000000 := by rw [hQ, List.length_map]; exact w4
  have hKl : K.length ≤ 900000000 := by rw [hK, List.length_map]; exact w1
  have hQs : ∀ i (h : i < Q.length), CS Tryd.prog G 77 [.agg (prD Q[i]), .agg (prD Q[i])] (.d (.bool true)) none := fun i h => by
    subst hQ
    rw [List.getElem_map]
    exact r32_same_cs _
  have hKs : ∀ i (h : i < K.length), CS Tryd.prog G 32 [.agg (tyD K[i]), .agg (tyD K[i])] (.d (.bool true)) none := fun i h => by
    subst hK
    rw [List.getElem_map]
    have hm : l[i]'(by simpa using h) ∈ l := List.getElem_mem _
    exact ih _ hm (w6 _ hm)
  rw [hq] at hs0 ⊢
  rw [← hQ, ← hK]
  clear hQ hK ih
  refine CS.of_VK Tryd.func32 rfl Tryd.ntmps32 rfl ?_
  simp
  refine callK.mk ent_r4_Same h4 ?_
  simp
  refine callK.mk ent_r32_same hs0 ?_
  simp
  refine SW.loopF (ι := { i : Nat // i ≤ Q.length }) (fun i => [(56, .d (.int .i64 i.1))]) (fun _ => [(2, .cells [.d (.int .i64 op), .d (.str nm), .d (.sl (K.map tyC)), .d (.sl (strs ns)), .d (.int .i64 q.op), .d (.str q.name), .d (.int .i64 q.n), .d (.sl (q.kids.map prC)), .d (.sl (Q.map prC))]), (3, .cells [.d (.int .i64 op), .d (.str nm), .d (.sl (K.map tyC)), .d (.sl (strs ns)), .d (.int .i64 q.op), .d (.str q.name), .d (.int .i64 q.n), .d (.sl (q.kids.map prC)), .d (.sl (Q.map prC))])]) (fun _ => []) (fun i => Q.length - i.1) ⟨0, by simp⟩ (by simp) ?_
  rintro ⟨i, hi⟩
  by_cases hlt : i < Q.length
  · have hg := prs_get hlt
    have hw := wrap64s (show i < 9223372036854775807 by omega)
    simp [hlt, hg]
    refine ⟨lexOk.mk (by kernel_rfl), ?_⟩
    refine callK.mk ent_r32_same (hQs i hlt) ?_
    simp
    exact Again.mk ⟨i + 1, hlt⟩ (by simp [hw]) (by simp; omega)
  have hie : i = Q.length := by omega
  subst hie
  simp
  refine SW.loopF (ι := { i : Nat // i ≤ K.length }) (fun i => [(75, .d (.int .i64 i.1))]) (fun _ => [(2, .cells [.d (.int .i64 op), .d (.str nm), .d (.sl (K.map tyC)), .d (.sl (strs ns)), .d (.int .i64 q.op), .d (.str q.name), .d (.int .i64 q.n), .d (.sl (q.kids.map prC)), .d (.sl (Q.map prC))]), (3, .cells [.d (.int .i64 op), .d (.str nm), .d (.sl (K.map tyC)), .d (.sl (strs ns)), .d (.int .i64 q.op), .d (.str q.name), .d (.int .i64 q.n), .d (.sl (q.kids.map prC)), .d (.sl (Q.map prC))])]) (fun _ => []) (fun i => K.length - i.1) ⟨0, by simp⟩ (by simp) ?_
  rintro ⟨i, hi⟩
  by_cases hlt : i < K.length
  · have hg := tys_get hlt
    have hw := wrap64s (show i < 9223372036854775807 by omega)
    simp [hlt, hg]
    refine ⟨lexOk.mk (by kernel_rfl), ?_⟩
    refine callK.mk ent_r32_Same (hKs i hlt) ?_
    simp
    exact Again.mk ⟨i + 1, hlt⟩ (by simp [hw]) (by simp; omega)
  have hie : i = K.length := by omega
  subst hie
  simp
theorem ent_l37_trivial : VM.Enters Tryd.prog 30 := VM.Enters.mk Tryd.func30 rfl
theorem l37_trivial_cs : ∀ t : Ty, WB 900000000 t → CS Tryd.prog G 30 [.agg (tyD (mapPT fil0 t))] (.d (.bool true)) none := by
  refine Ty.ind fun t ih => ?_
  obtain ⟨op, nm, l, ns, p, ps⟩ := t
  simp only at ih
  intro hW
  cases hW with
  | mk _ _ _ _ _ _ w1 w2 w3 w4 w5 w6 =>
  rw [mapPT, mapPTs_map]
  obtain ⟨q, hq⟩ : ∃ q, fil0 p = q := ⟨_, rfl⟩
  obtain ⟨Q, hQ⟩ : ∃ Q, Q = ps.map fil0 := ⟨_, rfl⟩
  obtain ⟨K, hK⟩ : ∃ K, K = l.map (mapPT fil0) := ⟨_, rfl⟩
  obtain ⟨L, hL⟩ : ∃ L, L = q :: Q := ⟨_, rfl⟩
  have hLC : (prD q :: Q.map prC) = L.map prC := by rw [hL]; simp
  have hLl : L.length = Q.length + 1 := by rw [hL]; rfl
  have hQl : Q.length ≤ 900000000 := by rw [hQ, List.length_map]; exact w4
  have hKl : K.length ≤ 900000000 := by rw [hK, List.length_map]; exact w1
  have hLs : ∀ i (h : i < L.length), CS Tryd.prog G 70 [.agg (prD L[i])] (.d (.sl [])) (some 36) := fun i h => by
    have : ∃ x, L[i] = fil0 x := by
      subst hL hQ
      cases i with
      | zero => exact ⟨p, hq.symm⟩
      | succ i => exact ⟨_, by rw [List.getElem_cons_succ, List.getElem_map]⟩
    obtain ⟨x, hx⟩ := this
    rw [hx]
    have := r7_Split_cs (G := G) (fil0 x) (by have := nod_fil0 x; omega)
    rwa [split_fil0] at this
  have hKs : ∀ i (h : i < K.length), CS Tryd.prog G 30 [.agg (tyD K[i])] (.d (.bool true)) none := fun i h => by
    subst hK
    rw [List.getElem_map]
    have hm : l[i]'(by simpa using h) ∈ l := List.getElem_mem _
    exact ih _ hm (w6 _ hm)
  rw [hq, ← hQ, ← hK]
  clear ih
  have hLC' : ([.int .i64 q.op, .str q.name, .int .i64 q.n, .sl (q.kids.map prC)] :: Q.map prC) = L.map prC := by rw [hL]; simp
  clear hLC hL
  refine CS.of_VK Tryd.func30 rfl Tryd.ntmps30 rfl ?_
  simp
  refine stepK_len (by omega) ?_
  simp only [hLC']
  simp
  refine SW.loopF (ι := { i : Nat // i ≤ L.length }) (fun i => [(4, .d (.int .i64 i.1))]) (fun _ => [(1, .cells [.d (.int .i64 op), .d (.str nm), .d (.sl (K.map tyC)), .d (.sl (strs ns)), .d (.int .i64 q.op), .d (.str q.name), .d (.int .i64 q.n), .d (.sl (q.kids.map prC)), .d (.sl (Q.map prC))])]) (fun _ => []) (fun i => L.length - i.1) ⟨0, by simp⟩ (by simp) ?_
  rintro ⟨i, hi⟩
  by_cases hlt : i < L.length
  · have hg := prs_get hlt
    have hw := wrap64s (show i < 9223372036854775807 by omega)
    simp [hlt, hg]
    refine callK.mk ent_r7_Split (hLs i hlt) ?_
    simp
    exact Again.mk ⟨i + 1, hlt⟩ (by simp [hw]) (by simp; omega)
  have hie : i = L.length := by omega
  subst hie
  simp
  refine SW.loopF (ι := { i : Nat // i ≤ K.length }) (fun i => [(5, .d (.int .i64 i.1))]) (fun _ => [(1, .cells [.d (.int .i64 op), .d (.str nm), .d (.sl (K.map tyC)), .d (.sl (strs ns)), .d (.int .i64 q.op), .d (.str q.name), .d (.int .i64 q.n), .d (.sl (q.kids.map prC)), .d (.sl (Q.map prC))])]) (fun _ => []) (fun i => K.length - i.1) ⟨0, by simp⟩ (by simp) ?_
  rintro ⟨i, hi⟩
  by_cases hlt : i < K.length
  · have hg := tys_get hlt
    have hw := wrap64s (show i < 9223372036854775807 by omega)
    simp [hlt, hg]
    refine callK.mk ent_l37_trivial (hKs i hlt) ?_
    simp
    exact Again.mk ⟨i + 1, hlt⟩ (by simp [hw]) (by simp; omega)
  have hie : i = K.length := by omega
  subst hie
  simp
/-! ### The law -/
def solS (H : List Ho) : List So := H.map fun h => (h.1, zeroP)
theorem solS_raw (H : List Ho) : WkLL (H.map fun h => [.str h.1, .int .i64 0, .str [], .int .i64 0, .nils]) ((solS H).map soC) := by
  unfold solS
  induction H with
  | nil => simp
  | cons a r ih =>
    simp only [List.map_cons]
    rw [WkLL_cons]
    exact ⟨by simp [zeroP], ih⟩
theorem fillOk_sol {H : List Ho} (h1 : H.length ≤ 1000000) (h2 : ∀ h ∈ H, h.2.length ≤ 1000000) : FillOk H (solS H) :=
  ⟨h1, h2, by simpa [solS] using h1, fun s hs => by
    obtain ⟨h, _, rfl⟩ := List.mem_map.1 hs
    show nodP zeroP ≤ 10
    decide, fun s hs => by
    obtain ⟨h, _, rfl⟩ := List.mem_map.1 hs
    show voidP zeroP = true
    decide⟩
theorem ent_l37_TemplateFilled : VM.Enters Tryd.prog 9 := VM.Enters.mk Tryd.func9 rfl
theorem l37_Filled_cs (m : Mt) (t : Ty) (pre : Nm) (sc : List Vr) (hm : szL (mtC m) ≤ 1048576) (ht : szL (tyD t) ≤ 1048576) (hsc : sc.length ≤ 1048576) : CS Tryd.prog G0 9 [.agg (mtC m), .agg (tyD t), .agg (plC pre sc)] (.d (.bool true)) none := by
  obtain ⟨d1, d2⟩ := mt_sz m
  have ht2 := tyD_sz t
  have hli := l37_light_cs (G := G0) m t sc (by omega) (by omega) (by omega) (fun d hd => by have := d2 d hd; omega)
  refine CS.of_VK Tryd.func9 rfl Tryd.ntmps9 rfl ?_
  cases hb : lightB m t sc
  · rw [hb] at hli
    simp [mtC, plC]
    refine callK.mk ent_l37_light hli ?_
    simp
    refine callK.mk ent_l37_awake l37_awake_cs ?_
    simp
  · rw [hb] at hli
    by_cases hp : (100 : Int) < pre.length
    · simp [mtC, plC]
      refine callK.mk ent_l37_light hli ?_
      simp [hp]
      refine callK.mk ent_l37_awake l37_awake_cs ?_
      simp
    · obtain ⟨e1, e2, e3, e4, e5, e6⟩ := light_news hb pre
      have hn1 := t_New_cs G0_kw G0_pow (added_ok (G := G0)) pre m (by omega) e3 t sc e1 e2
      have hnv := nod_plainA (visT sortB pre (datN m) t sc []).1
      rw [vis_plain, nod_plainA] at hnv
      have hHO : HO (visT sortB pre (datN m) t sc []).1 := vis_HO t sc []
      generalize visT sortB pre (datN m) t sc [] = r at hn1 e4 e5 e6 hnv hHO
      obtain ⟨a, H⟩ := r
      simp only at hn1 e4 e5 e6 hnv hHO
      have hfo := fillOk_sol (H := H) (by omega) (fun h hh => by have := e6 h hh; omega)
      have hfn : FillOk H [] := ⟨hfo.h1, hfo.h2, by simp, by simp, by simp⟩
      have hF1 := reftype_Fill_cs (G := G0) hfo a hHO e4 (by omega)
      have hF2 := r32_Fill_cs (G := G0) hfn a hHO e4 (by omega)
      have htr := l37_trivial_cs (G := G0) a e4
      have hsm := r32_Same_cs (G := G0) a e4
      simp [mtC, plC]
      refine callK.mk ent_l37_light hli ?_
      simp [hp]
      refine callK.mk ent_template_New hn1 ?_
      simp
      refine SW.loopF (ι := { i : Nat // i ≤ H.length }) (fun i => [(9, .d (.sl ((H.take i.1).map fun h => [.str h.1, .int .i64 0, .str [], .int .i64 0, .nils]))), (10, .d (.int .i64 i.1))]) (fun _ => [(3, .cells ((mtC m).map .d)), (4, .cells [.d (.int .i64 t.op), .d (.str t.name), .d (.sl (t.args.map tyC)), .d (.sl (strs t.names)), .d (.int .i64 t.pred.op), .d (.str t.pred.name), .d (.int .i64 t.pred.n), .d (.sl (t.pred.kids.map prC)), .d (.sl (t.preds.map prC))]), (5, .cells [.d (.str pre), .d (.sl (sc.map vrC))]), (7, .cells [.d (.int .i64 a.op), .d (.str a.name), .d (.sl (a.args.map tyC)), .d (.sl (strs a.names)), .d (.int .i64 a.pred.op), .d (.str a.pred.name), .d (.int .i64 a.pred.n), .d (.sl (a.pred.kids.map prC)), .d (.sl (a.preds.map prC))])]) (fun _ => [(92, [.t 9])]) (fun i => H.length - i.1) ⟨0, by simp⟩ (by simp [mtC]) ?_
      rintro ⟨i, hi⟩
      by_cases hlt : i < H.length
      · have hg := hos_get hlt
        have hw := wrap64s (show i < 9223372036854775807 by omega)
        obtain ⟨X, hX⟩ : ∃ X, X = (H.take i).map fun h => ([.str h.1, .int .i64 0, .str [], .int .i64 0, .nils] : List D) := ⟨_, rfl⟩
        have hst : ((H.take (i + 1)).map fun h => ([.str h.1, .int .i64 0, .str [], .int .i64 0, .nils] : List D)) = X ++ [[.str H[i].1, .int .i64 0, .str [], .int .i64 0, .nils]] := by
          rw [List.take_succ_eq_append_getElem hlt, List.map_append, hX]
          rfl
        have h5 : ∀ x ∈ X, x.length = 5 := fun x hx => by
          rw [hX] at hx
          obtain ⟨y, _, rfl⟩ := List.mem_map.1 hx
          rfl
        have hlen : X.length ≤ 1000 := by rw [hX, List.length_map, List.length_take]; omega
        rw [List.map_take] at hst
        simp only [← hX]
        simp [hlt, hg, mtC]
        refine stepK_len ⟨h5, by omega⟩ ?_
        simp
        exact Again.mk ⟨i + 1, hlt⟩ (by simp [hw, hst, mtC]) (by simp; omega)
      · have hie : i = H.length := by omega
        subst hie
        have hraw := solS_raw H
        simp only [List.take_length]
        simp [mtC]
        refine ⟨lexOk.mk (by kernel_rfl), ?_⟩
        refine callK.mk ent_reftype_Fill (CS.args hF1 (by simp [hraw])) ?_
        simp
        refine callK.mk ent_l37_trivial htr ?_
        simp
        refine callK.mk ent_reftype_Fill (CS.args hF1 (by simp [hraw])) ?_
        simp
        refine callK.mk ent_r32_Fill (CS.args hF2 (by simp)) ?_
        simp
        refine callK.mk ent_r32_Same hsm ?_
        simp
        refine callK.mk ent_l37_awake l37_awake_cs ?_
        simp
theorem templateFilled_all (xs : List D) (h : FitsAll Tryd.prog [29, 38, 41] xs) (hsz : szL xs ≤ 1048576) : CS Tryd.prog G0 9 xs (.d (.bool true)) none := by
  match xs, h with
  | [a, b, c], ⟨h1, h2, h3, _⟩ =>
    obtain ⟨m, rfl⟩ := fitV_mt h1
    obtain ⟨t, rfl⟩ := fitV_ty h2
    obtain ⟨pre, sc, rfl⟩ := fitV_pl h3
    have z1 := agg_sz (cs := mtC m) (xs := [.agg (mtC m), .agg (tyD t), .agg (plC pre sc)]) (by simp)
    have z2 := agg_sz (cs := tyD t) (xs := [.agg (mtC m), .agg (tyD t), .agg (plC pre sc)]) (.tail _ (.head _))
    have z3 := agg_sz (cs := plC pre sc) (xs := [.agg (mtC m), .agg (tyD t), .agg (plC pre sc)]) (by simp)
    have hv := vrs_len_szA sc
    have z4 : szLL (sc.map vrC) ≤ szL (plC pre sc) := by simp only [plC, szL, szD]; omega
    exact l37_Filled_cs m t pre sc (Nat.le_trans z1 hsz) (Nat.le_trans z2 hsz) (Nat.le_trans hv (Nat.le_trans z4 (Nat.le_trans z3 hsz)))
end Go.Proofs.YtmjpdmkgmlhfaaaDoor
end
