/- Template, the reference: a function type. No condition. -/
import Derived.Test.YtmjpdmkgmlhfaaaDoorMr
import Derived.Test.YtmjpdmkgmlhfaaaDoorSm
set_option linter.unusedVariables false
set_option linter.unusedSimpArgs false
set_option linter.unusedSectionVars false
namespace Go.Proofs.YtmjpdmkgmlhfaaaDoor
open Go Go.VM
set_option maxRecDepth 100000
set_option maxHeartbeats 16000000
variable {G : GT}
/-- The names in use are the same for both. -/
def UseI (sc0 : List Vr) (x : FunI) : Prop := ∀ y, (y ∈ x.dn ∨ y ∈ x.sc.map (·.1)) ↔ (y ∈ x.dn ∨ y ∈ sc0.map (·.1))
theorem addVr_names (sc : List Vr) (n s : Nm) (y : Nm) : y ∈ (addVr sc (n, s)).map (·.1) ↔ (y ∈ sc.map (·.1) ∧ y ≠ n) ∨ y = n := by
  unfold addVr
  simp only [List.map_append, List.mem_append, List.mem_map, List.mem_filter, Bool.not_eq_true', decide_eq_false_iff_not, List.mem_singleton, List.map_cons, List.map_nil]
  constructor
  · rintro (⟨a, ⟨h1, h2⟩, rfl⟩ | h)
    · exact .inl ⟨⟨a, h1, rfl⟩, h2⟩
    · exact .inr h
  · rintro (⟨⟨a, h1, rfl⟩, h2⟩ | h)
    · exact .inl ⟨a, ⟨h1, h2⟩, rfl⟩
    · exact .inr h
theorem UseI.step {sc0 : List Vr} {i : Nat} {A : List Ty} {dn : List Nm} {sc : List Vr} {hs : List Ho} (h : UseI sc0 ⟨i, A, dn, sc, hs⟩) (i' : Nat) (A' : List Ty) (n : Nm) (a : Ty) (hs' : List Ho) : UseI sc0 ⟨i', A', dn ++ [n], scF a n sc, hs'⟩ := by
  intro y
  have hy := h y
  simp only at hy ⊢
  by_cases e : y = n
  · simp [e]
  · unfold scF
    split
    · rw [addVr_names]
      simp only [List.mem_append, List.mem_singleton, e, or_false, ne_eq, not_false_eq_true, and_true]
      exact hy
    · simp only [List.mem_append, List.mem_singleton, e, or_false]
      exact hy
theorem UseI.fresh {sc0 : List Vr} {i : Nat} {A : List Ty} {dn : List Nm} {sc : List Vr} {hs : List Ho} (h : UseI sc0 ⟨i, A, dn, sc, hs⟩) : freshN (vN :: (sc0.map (·.1) ++ dn)) = freshN (vN :: (dn ++ sc.map (·.1))) :=
  fresh_congr fun y => by
    have hy := h y
    simp only at hy
    simp only [List.mem_cons, List.mem_append]
    constructor
    · rintro (h | h | h)
      · exact .inl h
      · exact .inr (hy.2 (.inr h))
      · exact .inr (.inl h)
    · rintro (h | h | h)
      · exact .inl h
      · exact .inr (.inr h)
      · exact .inr ((hy.1 (.inr h)).symm)
def fnH (nm : Nm) (l : List Ty) (ns : List Nm) (p : Pr) (ps : List Pr) (A : List Ty) (dn : List Nm) (pre : Nm) (m : Mt) (H1 : List Ho) : List (Nat × AObj) := [(4, .cells [.d (.int .i64 6), .d (.str nm), .d (.sl (l.map tyC)), .d (.sl (strs ns)), .d (.int .i64 p.op), .d (.str p.name), .d (.int .i64 p.n), .d (.sl (p.kids.map prC)), .d (.sl (ps.map prC))]),
        (6, .cells [.d (.int .i64 0), .d (.str []), .d .nils, .d .nils, .d (.int .i64 0), .d (.str []), .d (.int .i64 0), .d .nils, .d .nils]),
        (7, .cells [.d (.int .i64 6), .d (.str nm), .d (.sl (A.map tyC)), .d (.sl (strs dn)), .d (.int .i64 0), .d (.str []), .d (.int .i64 0), .d (.sl []), .d (.sl [])])] ++ mkH pre m H1
abbrev fnW : List (TypeId × List VM.Loc) := [(9, [.t 8]), (38, [.c 7 2]), (9, [.c 7 3]), (73, [.c 100000 7])]
theorem function_ch (pre : Nm) (m : Mt) (t : Ty) (h6 : t.op = 6) (hv : ∀ a ∈ t.args, VisR G pre m a) : FunR G pre m t := by
  intro sc hs hsc hhs
  obtain ⟨op, nm, l, ns, p, ps⟩ := t
  simp only at h6 hv
  subst h6
  obtain ⟨U, hU⟩ : ∃ U : Nat → List (List D), U = fun k => strs (vN :: (sc.take k).map (·.1)) := ⟨_, rfl⟩
  have hU0 : U 0 = [[.str [118]]] := by rw [hU]; rfl
  have hUs : ∀ k (hk : k < sc.length), U (k + 1) = U k ++ [[.str sc[k].1]] := fun k hk => by
    rw [hU]
    simp only
    rw [List.take_succ_eq_append_getElem hk]
    simp only [strs, List.map_append, List.map_cons, List.map_nil, List.cons_append]
  have hUe : U sc.length = strs (vN :: sc.map (·.1)) := by rw [hU]; simp
  have hUl : ∀ k, k ≤ sc.length → (U k).length = k + 1 := fun k hk => by
    rw [hU]
    simp [strs]
    omega
  have hU1 : ∀ k, ∀ x ∈ U k, x.length = 1 := fun k x hx => by
    rw [hU] at hx
    simp only [strs] at hx
    obtain ⟨y, _, rfl⟩ := List.mem_map.1 hx
    rfl
  have hnod := nodT_args ⟨6, nm, l, ns, p, ps⟩
  simp only at hnod
  have hnl := len_le_nodTs l
  refine CH.of_SW Tryd.func84 rfl Tryd.ntmps84 rfl (by simp) ?_
  refine SW.seqq (SW.vk ?_)
  simp [mkH, mtC]
  refine SW.seqq (SW.vk ?_)
  simp
  refine SW.seqq (SW.vk ?_)
  simp
  refine SW.seqq (SW.seqq (SW.vk ?_))
  simp
  refine SW.blockq (SW.loopZ (ι := { k : Nat // k ≤ sc.length }) (fun k => [(8, .d (.sl (U k.1))), (9, .d (.int .i64 k.1))]) (fun _ => fnH nm l ns p ps [] [] pre m hs) (fun _ => fnW) (fun k => sc.length - k.1) ⟨0, by simp⟩ (by simp [hU0, fnH, mkH, mtC]) ?_)
  rintro ⟨k, hk⟩
  by_cases hkl : k < sc.length
  · have hgk := vrs_get hkl
    have hwk := wrap64s (show k < 9223372036854775807 by omega)
    have hsk := hUs k hkl
    have hlk := hUl k hk
    refine SW.vk ?_
    simp [hkl, hgk, fnH, mkH, mtC]
    refine stepK_len ⟨hU1 k, by omega⟩ ?_
    simp
    exact Again.mk ⟨k + 1, hkl⟩ (by simp [hwk, hsk, fnH, mkH, mtC]) (by simp; omega)
  have hke : k = sc.length := by omega
  subst hke
  refine SW.vk ?_
  simp [fnH, mkH, mtC]
  refine SW.seqq (SW.vk ?_)
  simp
  refine SW.seqq (SW.vk ?_)
  simp
  by_cases hl0 : l = []
  · subst hl0
    have hvis : visT sortB pre (datN m) ⟨6, nm, [], ns, p, ps⟩ sc hs = (⟨6, nm, [], [], zeroP, []⟩, hs) := by
      rw [visT, if_neg (fun h => h.2 rfl)]
      simp [logT, plainTs]
    have hw1 : IntKind.i64.wrap (-1) = -1 := wrap64 (by omega)
    simp [hw1]
    refine SW.seqq (SW.seqq (SW.vk ?_))
    simp
    refine SW.blockq (SW.loopZ (ι := Unit) (fun _ => [(12, .d (.int .i64 0))]) (fun _ => fnH nm [] ns p ps [] [] pre m hs) (fun _ => fnW) (fun _ => 0) () (by simp [fnH, mkH, mtC]) ?_)
    intro _
    refine SW.vk ?_
    simp [fnH, mkH, mtC]
    refine SW.seqq (SW.vk ?_)
    simp
    refine SW.vk ?_
    simp [hvis, zeroP]
  · have h0 : 0 < l.length := List.length_pos_iff.2 hl0
    have hw1 : IntKind.i64.wrap ((l.length : Int) - 1) = (l.length : Int) - 1 := wrap64 (by omega)
    rw [hw1]
    refine SW.seqq (SW.seqq (SW.vk ?_))
    simp
    have hcnt : cntT sortB (datN m) ⟨6, nm, l, ns, p, ps⟩ = cntTs sortB (datN m) l := by
      rw [cntT]
      simp [hl0]
    have hvis : visT sortB pre (datN m) ⟨6, nm, l, ns, p, ps⟩ sc hs = (⟨6, nm, (funT sortB pre (datN m) l (decide (ns.length + 1 = l.length)) ns [] sc hs).1, (funT sortB pre (datN m) l (decide (ns.length + 1 = l.length)) ns [] sc hs).2.1, zeroP, []⟩, (funT sortB pre (datN m) l (decide (ns.length + 1 = l.length)) ns [] sc hs).2.2) := by
      rw [visT, if_pos ⟨rfl, hl0⟩]
    have hok0 : FunI.Ok pre m l ns sc hs ⟨0, [], [], sc, hs⟩ := ⟨h0, rfl, rfl, by simp, by simp, by simp⟩
    refine SW.blockq (SW.loopZ (ι := { x : FunI // x.Ok pre m l ns sc hs ∧ UseI sc x }) (fun x => [(8, .d (.sl (strs (vN :: (sc.map (·.1) ++ x.1.dn))))), (10, .d (.sl (x.1.sc.map vrC))), (12, .d (.int .i64 x.1.i))]) (fun x => fnH nm l ns p ps x.1.A x.1.dn pre m x.1.hs) (fun _ => fnW) (fun x => l.length - x.1.i) ⟨⟨0, [], [], sc, hs⟩, hok0, fun y => Iff.rfl⟩ (by simp [hUe, fnH, mkH, mtC]) ?_)
    rintro ⟨⟨i, A, dn, sc1, hs1⟩, hok, huse⟩
    have hi : i < l.length := hok.1
    have hg := tys_get hi
    have hAl : A.length = i := hok.2.1
    have hdl : dn.length = i := hok.2.2.1
    have hsz1 : sc1.length + nodTs (l.drop i) ≤ sc.length + nodTs l := hok.2.2.2.1
    have hsz2 : hs1.length + cntTs sortB (datN m) (l.drop i) ≤ hs.length + cntTs sortB (datN m) l := hok.2.2.2.2.1
    rw [List.drop_eq_getElem_cons hi] at hsz1 hsz2
    simp only [nodTs, cntTs] at hsz1 hsz2
    have hvi := hv l[i] (List.getElem_mem hi) sc1 hs1 (by omega) (by omega)
    have hvl := vis_len (srt := sortB) (pre := pre) (dat := datN m) l[i] sc1 hs1
    by_cases hl : i + 1 = l.length
    · have heq : (l.length : Int) - 1 = i := by omega
      have hlast := FunI.last hok hi hl
      rw [heq]
      refine SW.vk ?_
      simp [fnH, mkH, mtC]
      refine SW.cutF [] (fnH nm l ns p ps (A ++ [(visT sortB pre (datN m) l[i] sc1 hs1).1]) dn pre m (visT sortB pre (datN m) l[i] sc1 hs1).2) fnW (SW.seqq (SW.vk ?_)) ?_
      · simp
        refine SW.condT (by simp) (SW_imp 9 [2, 3, 4, 5, 6, 7, 8] (stdOrd 0 1 [10, 11, 12, 13]) (by kernel_rfl) (by kernel_rfl) ?_)
        simp [hi, hg]
        refine ⟨⟨?_, ?_⟩, ?_⟩
        all_goals
          refine callHK.mk ent_typ hvi [(100000, 100000)] (by simp [mkH, mtC]) (by simp) (by simp [mkH, mtC]) (by simp; rfl) (by simp) ?_
          simp [mkH, mtC]
          refine stepK_len (by omega) ?_
          simp [fnH, mkH, mtC]
      · refine SW.vk ?_
        simp [fnH, mkH, mtC, hvis, hlast, zeroP]
    · have hlt : i + 1 < l.length := by omega
      have hlti : (i : Int) < (l.length : Int) - 1 := by omega
      have hstep := FunI.step hok hlt
      simp only at hstep
      have hlog := r37_logical_cs (G := G) l[i]
      have hw2 := wrap64s (show i < 9223372036854775807 by omega)
      obtain ⟨nm1, hnm⟩ : ∃ n, nameF (decide (ns.length + 1 = l.length)) ns dn sc1 i = n := ⟨_, rfl⟩
      rw [hnm] at hstep
      have huse2 := huse.step (i + 1) (A ++ [(visT sortB pre (datN m) l[i] sc1 hs1).1]) nm1 l[i] (visT sortB pre (datN m) l[i] sc1 hs1).2
      have hfr := r4_Fresh_cs (G := G) (vN :: (sc.map (·.1) ++ dn)) (by simp; omega)
      rw [huse.fresh] at hfr
      have hst : strs (vN :: (sc.map (·.1) ++ (dn ++ [nm1]))) = strs (vN :: (sc.map (·.1) ++ dn)) ++ [[.str nm1]] := by simp [strs]
      have hgv : decide ((ns.length : Int) = (l.length : Int) - 1) = decide (ns.length + 1 = l.length) := decide_eq_decide.2 (by omega)
      refine SW.seqq (SW.vk ?_)
      simp [hlti, fnH, mkH, mtC]
      refine SW.seqq (SW.blockq (SW.seqq (SW.vk ?_)))
      simp
      refine callK.mk ent_r4_Fresh hfr ?_
      simp
      refine SW.cutF [(13, .d (.str nm1))] (fnH nm l ns p ps A dn pre m hs1) fnW (SW.vk ?_) ?_
      · by_cases hgq : ns.length + 1 = l.length
        · have hin : i < ns.length := by omega
          have hgn := strs_get hin
          have hni : (ns.length : Int) = (l.length : Int) - 1 := by omega
          have : nm1 = ns[i] := by
            rw [← hnm, nameF, if_pos (by simpa using hgq), List.drop_eq_getElem_cons hin]
            rfl
          subst this
          simp [hni, hlti, hin, hgn, fnH, mkH, mtC]
        · have hni : ¬ (ns.length : Int) = (l.length : Int) - 1 := by omega
          have hf : freshN (vN :: (dn ++ sc1.map (·.1))) = nm1 := by
            rw [← hnm, nameF, if_neg (by simpa using hgq)]
          rw [hf]
          simp [hni, fnH, mkH, mtC]
      · refine SW.seqq (SW.vk ?_)
        simp [fnH, mkH, mtC]
        refine stepK_len (by omega) ?_
        simp
        refine SW.seqq (SW.vk ?_)
        simp
        refine stepK_len (by omega) ?_
        simp
        refine SW.cutF [] (fnH nm l ns p ps (A ++ [(visT sortB pre (datN m) l[i] sc1 hs1).1]) (dn ++ [nm1]) pre m (visT sortB pre (datN m) l[i] sc1 hs1).2) fnW (SW_imp 9 [2, 3, 4, 5, 6, 7, 8] (stdOrd 0 1 [10, 11, 12, 13]) (by kernel_rfl) (by kernel_rfl) ?_) ?_
        · simp [hi, hg]
          refine ⟨⟨?_, ?_⟩, ?_⟩
          all_goals
            refine callHK.mk ent_typ hvi [(100000, 100000)] (by simp [mkH, mtC]) (by simp) (by simp [mkH, mtC]) (by simp; rfl) (by simp) ?_
            simp [mkH, mtC]
            refine stepK_len (by omega) ?_
            simp [fnH, mkH, mtC]
        · refine SW.seqq (SW.vk ?_)
          simp [hi, hg, fnH, mkH, mtC]
          cases hb : logT sortB l[i] with
          | none =>
            rw [hb] at hlog
            have hscf : scF l[i] nm1 sc1 = sc1 := by rw [scF, hb]
            rw [hscf] at hstep huse2
            refine callK.mk ent_r37_logical hlog ?_
            simp [logC]
            refine SW.vk ?_
            simp
            refine SW.vk ?_
            simp
            exact Again.mk ⟨⟨i + 1, _, _, _, _⟩, hstep, huse2⟩ (by simp [hw2, hst, fnH, mkH, mtC]) (by simp; omega)
          | some s =>
            rw [hb] at hlog
            have hscf : scF l[i] nm1 sc1 = addVr sc1 (nm1, s) := by rw [scF, hb]
            rw [hscf] at hstep huse2
            have hadd : CS Tryd.prog G 110 [.sl (sc1.map vrC), .agg (vrC (nm1, s))] (.d (.sl ((addVr sc1 (nm1, s)).map vrC))) none := r6_Add_cs sc1 (nm1, s) (by omega)
            refine callK.mk ent_r37_logical hlog ?_
            simp [logC]
            refine SW.vk ?_
            simp
            refine callK.mk ent_r6_Add hadd ?_
            simp
            refine SW.vk ?_
            simp
            exact Again.mk ⟨⟨i + 1, _, _, _, _⟩, hstep, huse2⟩ (by simp [hw2, hst, fnH, mkH, mtC]) (by simp; omega)
end Go.Proofs.YtmjpdmkgmlhfaaaDoor
