/- Unification: from the theory to the calls; bare types; the walk of Unify. No condition. -/
import Derived.Test.YtcmpodbjhoeblaaDoorUc
import Derived.Test.YtcmpodbjhoeblaaDoorTw
set_option linter.unusedVariables false
set_option linter.unusedSimpArgs false
set_option linter.unusedSectionVars false
namespace Go.Proofs.YtcmpodbjhoeblaaDoor
open Go Go.VM
set_option maxRecDepth 100000
set_option maxHeartbeats 8000000
variable {G : GT}
def WL (m : Nat) (l : List (Tm × Tm)) : Prop := ∀ p ∈ l, WT m p.1 ∧ WT m p.2
theorem WL_zip {m : Nat} : ∀ {k k' : List Tm}, WTs m k → WTs m k' → WL m (k.zip k')
  | [], _, _, _ => by intro p hp; simp at hp
  | _ :: _, [], _, _ => by intro p hp; simp at hp
  | t :: r, t' :: r', h, h' => by
    intro p hp
    rw [List.zip_cons_cons, List.mem_cons] at hp
    rcases hp with rfl | hp
    · exact ⟨h.1, h'.1⟩
    · exact WL_zip h.2 h'.2 p hp
theorem Head.mem {all : List Nm} {b : Bd} (cb : CB all b) {t : Tm} {x : Nm} (H : Head b t (.var x)) (h : CU all t) : x ∈ all := H.cu cb h x (by simp [occ])
theorem PU.chain (m : Nat) (hm : m ≤ 900000000) (all : List Nm) {b b' : Bd} {l : List (Tm × Tm)} {ok : Bool} (h : PU (fun x => findI x all 0) b l b' ok) : WB m b → WL m l → CB all b → CL all l → Chain G all b l b' ok ∧ WB m b' ∧ CB all b' := by
  induction h with
  | nil => intro hb _ cb _; exact ⟨.nil, hb, cb⟩
  | same HA HC _ ih =>
    intro hb hw cb hc
    have wa := hw _ (List.mem_cons_self ..)
    obtain ⟨g1, g2⟩ := ih hb (fun p hp => hw p (by simp [hp])) cb fun p hp => hc p (by simp [hp])
    exact ⟨.cons (unify_same m all _ hb wa.1 wa.2 HA HC) g1, g2⟩
  | vv HA HC hxy ho _ ih =>
    intro hb hw cb hc
    have ca := hc _ (List.mem_cons_self ..)
    have wa := hw _ (List.mem_cons_self ..)
    have hx := HA.mem cb ca.1
    have hy := HC.mem cb ca.2
    obtain ⟨g1, g2⟩ := ih (WB_add (HA.unbound rfl) hb trivial) (fun p hp => hw p (by simp [hp])) (CB_add (HA.unbound rfl) cb fun z hz => by simp only [occ, decide_eq_true_eq] at hz; subst hz; exact hy) fun p hp => hc p (by simp [hp])
    exact ⟨.cons (unify_vv m all _ hb wa.1 wa.2 HA HC hxy hx hy ho) g1, g2⟩
  | ww HA HC hxy ho _ ih =>
    intro hb hw cb hc
    have ca := hc _ (List.mem_cons_self ..)
    have wa := hw _ (List.mem_cons_self ..)
    have hx := HA.mem cb ca.1
    have hy := HC.mem cb ca.2
    obtain ⟨g1, g2⟩ := ih (WB_add (HC.unbound rfl) hb trivial) (fun p hp => hw p (by simp [hp])) (CB_add (HC.unbound rfl) cb fun z hz => by simp only [occ, decide_eq_true_eq] at hz; subst hz; exact hx) fun p hp => hc p (by simp [hp])
    exact ⟨.cons (unify_ww m all _ hb wa.1 wa.2 HA HC hxy hx hy ho) g1, g2⟩
  | vn θ HA HC I ho _ ih =>
    intro hb hw cb hc
    have ca := hc _ (List.mem_cons_self ..)
    have wa := hw _ (List.mem_cons_self ..)
    have hu := unify_vn (G := G) m hm all _ θ I hb wa.1 wa.2 HA HC
    rw [ho] at hu
    obtain ⟨g1, g2⟩ := ih (WB_add (HA.unbound rfl) hb (HC.wt hb wa.2)) (fun p hp => hw p (by simp [hp])) (CB_add (HA.unbound rfl) cb (HC.cu cb ca.2)) fun p hp => hc p (by simp [hp])
    exact ⟨.cons hu g1, g2⟩
  | vf θ HA HC I ho =>
    intro hb hw cb hc
    have wa := hw _ (List.mem_cons_self ..)
    have hu := unify_vn (G := G) m hm all _ θ I hb wa.1 wa.2 HA HC
    rw [ho] at hu
    exact ⟨.stop hu, hb, cb⟩
  | nv θ HA HC I ho _ ih =>
    intro hb hw cb hc
    have ca := hc _ (List.mem_cons_self ..)
    have wa := hw _ (List.mem_cons_self ..)
    have hu := unify_nv (G := G) m hm all _ θ I hb wa.1 wa.2 HA HC
    rw [ho] at hu
    obtain ⟨g1, g2⟩ := ih (WB_add (HC.unbound rfl) hb (HA.wt hb wa.1)) (fun p hp => hw p (by simp [hp])) (CB_add (HC.unbound rfl) cb (HA.cu cb ca.1)) fun p hp => hc p (by simp [hp])
    exact ⟨.cons hu g1, g2⟩
  | nf θ HA HC I ho =>
    intro hb hw cb hc
    have wa := hw _ (List.mem_cons_self ..)
    have hu := unify_nv (G := G) m hm all _ θ I hb wa.1 wa.2 HA HC
    rw [ho] at hu
    exact ⟨.stop hu, hb, cb⟩
  | clash HA HC hq =>
    intro hb hw cb hc
    have wa := hw _ (List.mem_cons_self ..)
    exact ⟨.stop (unify_clash m all _ hb wa.1 wa.2 HA HC hq), hb, cb⟩
  | dec HA HC hk _ _ ih1 ih2 =>
    intro hb hw cb hc
    have ca := hc _ (List.mem_cons_self ..)
    have wa := hw _ (List.mem_cons_self ..)
    obtain ⟨g1, g2, g3⟩ := ih1 hb (WL_zip (HA.wt hb wa.1).2.2 (HC.wt hb wa.2).2.2) cb (CL_zip (HA.cu cb ca.1) (HC.cu cb ca.2))
    obtain ⟨g4, g5⟩ := ih2 g2 (fun p hp => hw p (by simp [hp])) g3 fun p hp => hc p (by simp [hp])
    exact ⟨.cons (unify_dec m hm all _ hb wa.1 wa.2 HA HC hk g1) g4, g5⟩
  | no HA HC hk _ ih1 =>
    intro hb hw cb hc
    have ca := hc _ (List.mem_cons_self ..)
    have wa := hw _ (List.mem_cons_self ..)
    obtain ⟨g1, g2, g3⟩ := ih1 hb (WL_zip (HA.wt hb wa.1).2.2 (HC.wt hb wa.2).2.2) cb (CL_zip (HA.cu cb ca.1) (HC.cu cb ca.2))
    exact ⟨.stop (unify_dec m hm all _ hb wa.1 wa.2 HA HC hk g1), g2, g3⟩
/-! ### Bare types -/
theorem ent_types_bare : VM.Enters Tryd.prog 26 := VM.Enters.mk Tryd.func26 rfl
theorem types_bare_cs : ∀ t : Ty, nodT t ≤ 900000000 → CS Tryd.prog G 26 [.agg (tyD t)] (.d (.agg (tyD (bareT t)))) none := by
  refine Ty.ind fun t ih => ?_
  obtain ⟨op, nm, l, ns, p, ps⟩ := t
  intro hN
  simp only at ih
  have hn := nodT_args ⟨op, nm, l, ns, p, ps⟩
  simp only at hn
  have hl := len_le_nodTs l
  have hm := bareT_eq ⟨op, nm, l, ns, p, ps⟩
  simp only at hm
  refine CS.of_VK Tryd.func26 rfl Tryd.ntmps26 rfl ?_
  by_cases h5 : op = 5
  · subst h5
    simp
    refine SW.loopF (ι := { i : Nat // i ≤ l.length }) (fun i => [(14, .d (.int .i64 i.1))]) (fun i => [(1, tyO 5 nm (.sl (l.map tyC)) (.sl (strs ns)) p (.sl (ps.map prC))), (2, tyZ), (3, .cells [.d (.int .i64 5), .d (.str nm), .d .nils, .d .nils, .d (.int .i64 0), .d (.str []), .d (.int .i64 0), .d .nils, .d .nils])]) (fun _ => []) (fun i => l.length - i.1) ⟨0, by simp⟩ (by simp) ?_
    rintro ⟨i, hi⟩
    by_cases hlt : i < l.length
    · have hg := tys_get hlt
      have hw := wrap64s (show i < 9223372036854775807 by omega)
      simp [hlt, hg]
      exact Again.mk ⟨i + 1, hlt⟩ (by simp [hw]) (by simp; omega)
    · have : i = l.length := by omega
      subst this
      simp [hm, zeroP]
  · simp [h5]
    refine SW.loopF (ι := { i : Nat // i ≤ l.length }) (fun i => [(14, .d (.int .i64 i.1))]) (fun i => [(1, tyO op nm (.sl (l.map tyC)) (.sl (strs ns)) p (.sl (ps.map prC))), (2, tyZ), (3, .cells [.d (.int .i64 op), .d (.str nm), .d (.sl ((l.take i.1).map (tyC ∘ bareT))), .d .nils, .d (.int .i64 0), .d (.str []), .d (.int .i64 0), .d .nils, .d .nils])]) (fun _ => [(30, [.c 3 2])]) (fun i => l.length - i.1) ⟨0, by simp⟩ (by simp) ?_
    rintro ⟨i, hi⟩
    by_cases hlt : i < l.length
    · have hg := tys_get hlt
      have hw := wrap64s (show i < 9223372036854775807 by omega)
      have hb2 := nodTs_step hlt
      have hb3 := nodTs_take_le l (i + 1)
      have h9 : ∀ (x : List D), x ∈ List.take i (List.map (tyC ∘ bareT) l) → x.length = 9 := len_mem (by simp)
      have hs2 := map_stepC (tyC ∘ bareT) hlt
      simp at hs2
      simp [hlt, hg, h5]
      refine ⟨.mk, ?_⟩
      refine callK.mk ent_types_bare (ih l[i] (List.getElem_mem hlt) (by omega)) ?_
      simp
      refine stepK_len ⟨h9, by omega⟩ ?_
      simp
      exact Again.mk ⟨i + 1, hlt⟩ (by simp [hw, hs2]) (by simp; omega)
    · have : i = l.length := by omega
      subst this
      simp [hm, zeroP, h5]
/-! ### The variables, each once -/
def addN (acc : List Nm) (s : Nm) : List Nm := if s ∈ acc then acc else acc ++ [s]
def addAll (acc l : List Nm) : List Nm := l.foldl addN acc
theorem addN_mem {acc : List Nm} {s x : Nm} (h : x ∈ acc) : x ∈ addN acc s := by
  unfold addN
  split
  · exact h
  · simp [h]
theorem addN_self (acc : List Nm) (s : Nm) : s ∈ addN acc s := by
  unfold addN
  split
  · assumption
  · simp
theorem addAll_mem {x : Nm} : ∀ (l acc : List Nm), x ∈ acc → x ∈ addAll acc l
  | [], acc, h => h
  | s :: r, acc, h => addAll_mem r (addN acc s) (addN_mem h)
theorem addAll_mem' {x : Nm} : ∀ (l acc : List Nm), x ∈ l → x ∈ addAll acc l
  | s :: r, acc, h => by
    rcases List.mem_cons.1 h with rfl | h
    · exact addAll_mem r _ (addN_self acc x)
    · exact addAll_mem' r _ h
theorem addAll_app (acc l k : List Nm) : addAll acc (l ++ k) = addAll (addAll acc l) k := by simp [addAll, List.foldl_append]
theorem addAll_twice : ∀ (r acc p : List Nm), addAll acc (addAll p r) = addAll (addAll acc p) r
  | [], acc, p => rfl
  | s :: r, acc, p => by
    have h1 : addAll p (s :: r) = addAll (addN p s) r := rfl
    have h2 : addAll (addAll acc p) (s :: r) = addAll (addN (addAll acc p) s) r := rfl
    rw [h1, h2, addAll_twice r acc (addN p s)]
    congr 1
    unfold addN
    by_cases hs : s ∈ p
    · rw [if_pos hs, if_pos (addAll_mem' p acc hs)]
    · rw [if_neg hs, addAll_app]
      rfl
mutual
/-- The variables as they come. -/
def rawT : Ty → List Nm
  | ⟨op, nm, l, _, _, _⟩ => (if op = 5 then [nm] else []) ++ rawTs l
def rawTs : List Ty → List Nm
  | [] => []
  | t :: r => rawT t ++ rawTs r
end
mutual
theorem vars_raw : ∀ (t : Ty) (acc : List Nm), varsT t acc = addAll acc (rawT t)
  | ⟨op, nm, l, ns, p, ps⟩, acc => by
    have h := varss_raw l
    simp only [varsT, rawT, addAll_app]
    rw [h]
    congr 1
    unfold addV
    by_cases h5 : op = 5
    · by_cases hm : nm ∈ acc <;> simp [h5, hm, addAll, addN]
    · simp [h5, addAll]
theorem varss_raw : ∀ (l : List Ty) (acc : List Nm), varsTs l acc = addAll acc (rawTs l)
  | [], acc => rfl
  | t :: r, acc => by
    simp only [varsTs, rawTs, addAll_app]
    rw [vars_raw t, varss_raw r]
end
theorem vars_join (s t : Ty) : addAll [] (varsT s [] ++ varsT t []) = varsT t (varsT s []) := by
  rw [addAll_app, vars_raw t [], addAll_twice, vars_raw t, vars_raw s []]
  congr 1
  rw [addAll_twice]
  rfl
end Go.Proofs.YtcmpodbjhoeblaaDoor
