/- Template: the closure that goes through a function type: its walk. No condition. -/
import Derived.Test.YtmjpdmkgmlhfaaaDoorMg
set_option linter.unusedVariables false
set_option linter.unusedSimpArgs false
set_option linter.unusedSectionVars false
namespace Go.Proofs.YtmjpdmkgmlhfaaaDoor
open Go Go.VM
set_option maxRecDepth 100000
set_option maxHeartbeats 16000000
variable {G : GT}
def v2H (op : Int) (nm : Nm) (l : List Ty) (ns : List Nm) (p : Pr) (ps : List Pr) (A : List Ty) (dn : List Nm) (pre : Nm) (m : Mt) (H1 : List Ho) : List (Nat × AObj) := [(3, .cells [.d (.int .i64 op), .d (.str nm), .d (.sl (l.map tyC)), .d (.sl (strs ns)), .d (.int .i64 p.op), .d (.str p.name), .d (.int .i64 p.n), .d (.sl (p.kids.map prC)), .d (.sl (ps.map prC))]),
        (5, .cells [.d (.int .i64 0), .d (.str []), .d .nils, .d .nils, .d (.int .i64 0), .d (.str []), .d (.int .i64 0), .d .nils, .d .nils]),
        (7, .cells [.d (.int .i64 op), .d (.str nm), .d (.sl (A.map tyC)), .d (.sl (strs dn)), .d (.int .i64 0), .d (.str []), .d (.int .i64 0), .d (.sl []), .d (.sl [])])] ++ nwH pre m H1
abbrev v2W : List (TypeId × List VM.Loc) := [(38, [.c 7 2]), (9, [.c 7 3]), (73, [.c 100001 0])]
theorem new2_ch (hG : G 0 = some kwCells) (hP : G 1 = some powCells) (hadd : AddC G) (pre : Nm) (m : Mt) (t : Ty) (h6 : t.op = 6) (hne : t.args ≠ [])
    (hv : ∀ a ∈ t.args, VisC G pre m a) : FunC G pre m t := by
  intro sc hs hsc hhs
  obtain ⟨op, nm, l, ns, p, ps⟩ := t
  simp only at h6 hne hv
  subst h6
  have h0 : 0 < l.length := List.length_pos_iff.2 hne
  have hnl := len_le_nodTs l
  have hnod := nodT_args ⟨6, nm, l, ns, p, ps⟩
  simp only at hnod
  have hcnt : cntT sortB (datN m) ⟨6, nm, l, ns, p, ps⟩ = cntTs sortB (datN m) l := by
    rw [cntT]
    simp [hne]
  have hw1 : IntKind.i64.wrap ((l.length : Int) - 1) = (l.length : Int) - 1 := wrap64 (by omega)
  have hvis : visT sortB pre (datN m) ⟨6, nm, l, ns, p, ps⟩ sc hs = (⟨6, nm, (funT sortB pre (datN m) l (decide (ns.length + 1 = l.length)) ns [] sc hs).1, (funT sortB pre (datN m) l (decide (ns.length + 1 = l.length)) ns [] sc hs).2.1, zeroP, []⟩, (funT sortB pre (datN m) l (decide (ns.length + 1 = l.length)) ns [] sc hs).2.2) := by
    rw [visT, if_pos ⟨rfl, hne⟩]
  have hgv : (decide ((ns.length : Int) = (l.length : Int) - 1)) = decide (ns.length + 1 = l.length) := by
    apply decide_eq_decide.2
    omega
  refine CH.of_SW Tryd.func40 rfl Tryd.ntmps40 rfl (by simp) ?_
  refine SW.seqq (SW.vk ?_)
  simp [nwH, mtC]
  refine SW.seqq (SW.vk ?_)
  simp [hw1]
  refine SW.seqq (SW.vk ?_)
  simp
  refine SW.seqq (SW.vk ?_)
  simp [hgv]
  refine SW.seqq (SW.seqq (SW.vk ?_))
  simp
  have hok0 : FunI.Ok pre m l ns sc hs ⟨0, [], [], sc, hs⟩ := ⟨h0, rfl, rfl, by simp, by simp, by simp⟩
  refine SW.blockq (SW.loopZ (ι := { x : FunI // x.Ok pre m l ns sc hs }) (fun x => [(1, .d (.sl (x.1.sc.map vrC))), (34, .d (.int .i64 x.1.i))]) (fun x => v2H 6 nm l ns p ps x.1.A x.1.dn pre m x.1.hs) (fun _ => v2W) (fun x => l.length - x.1.i) ⟨⟨0, [], [], sc, hs⟩, hok0⟩ (by simp [v2H, nwH, mtC]) ?_)
  rintro ⟨⟨i, A, dn, sc1, hs1⟩, hok⟩
  have hi : i < l.length := hok.1
  have hg := tys_get hi
  have hAl : A.length = i := hok.2.1
  have hdl : dn.length = i := hok.2.2.1
  have hsz1 : sc1.length + nodTs (l.drop i) ≤ sc.length + nodTs l := hok.2.2.2.1
  have hsz2 : hs1.length + cntTs sortB (datN m) (l.drop i) ≤ hs.length + cntTs sortB (datN m) l := hok.2.2.2.2.1
  rw [List.drop_eq_getElem_cons hi] at hsz1 hsz2
  simp only [nodTs, cntTs] at hsz1 hsz2
  have hvi := hv l[i] (List.getElem_mem hi) sc1 hs1 (by omega) (by omega)
  have hvl := vis_len (srt := sortB) (pre := pre) (dat := datN m) l[i] sc1 hs1
  refine SW.seqq (SW.vk ?_)
  simp [hi, v2H, nwH, mtC]
  refine SW.seqq (SW.vk ?_)
  simp
  by_cases hl : i + 1 = l.length
  · have heq : (i : Int) = l.length - 1 := by omega
    have hlast := FunI.last hok hi hl
    refine SW.seqq (SW.blockq (SW.seqq (SW.vk ?_)))
    simp [hi, hg]
    refine SW.seqq (SW.seqq (SW.vk ?_))
    simp [heq]
    refine SW.condT (by simp) (SW.cutF [] (v2H 6 nm l ns p ps (A ++ [(visT sortB pre (datN m) l[i] sc1 hs1).1]) dn pre m (visT sortB pre (datN m) l[i] sc1 hs1).2) v2W (SW_imp 5 [2, 3, 4] (stdOrd 0 1 [6, 7, 8, 9]) (by kernel_rfl) (by kernel_rfl) ?_) ?_)
    · simp
      refine ⟨⟨?_, ?_⟩, ?_⟩
      all_goals
        refine callHK.mk ent_new3 hvi keyW (by simp [nwH, mtC]) (by simp) (by simp [nwH, mtC]) (by simp; rfl) (by simp) ?_
        simp [nwH, mtC]
        refine stepK_len (by omega) ?_
        simp [v2H, nwH, mtC]
    · refine SW.vk ?_
      simp [v2H, nwH, mtC]
      refine SW.vk ?_
      simp [hvis, hlast, zeroP]
  · have hlt : i + 1 < l.length := by omega
    have hne' : ¬ (i : Int) = l.length - 1 := by omega
    have hstep := FunI.step hok hlt
    simp only at hstep
    have hlog := t_logical_cs (G := G) hG l[i]
    have hlq : logT sortB l[i] = if (logR l[i]).2 = true then some (logR l[i]).1 else none := logR_eq l[i]
    have hw2 := wrap64s (show i < 9223372036854775807 by omega)
    obtain ⟨nm1, hnm⟩ : ∃ n, nameF (decide (ns.length + 1 = l.length)) ns dn sc1 i = n := ⟨_, rfl⟩
    rw [hnm] at hstep
    refine SW.seqq (SW.blockq (SW.seqq (SW.vk ?_)))
    simp [hi, hg]
    refine SW.seqq (SW.seqq (SW.vk ?_))
    simp [hne']
    refine SW.condF (by simp) (SW.vk ?_)
    simp
    refine SW.seqq (SW.vk ?_)
    simp
    refine SW.cutF [(11, .d (.str nm1))] ((10, .cells [.d (.int .i64 l[i].op), .d (.str l[i].name), .d (.sl (l[i].args.map tyC)), .d (.sl (strs l[i].names)), .d (.int .i64 l[i].pred.op), .d (.str l[i].pred.name), .d (.int .i64 l[i].pred.n), .d (.sl (l[i].pred.kids.map prC)), .d (.sl (l[i].preds.map prC))]) :: v2H 6 nm l ns p ps A dn pre m hs1) v2W (SW.vk ?_) ?_
    · simp
      by_cases hgq : ns.length + 1 = l.length
      · have hin : i < ns.length := by omega
        have hgn := strs_get hin
        have : nm1 = ns[i] := by
          rw [← hnm, nameF, if_pos (by simpa using hgq), List.drop_eq_getElem_cons hin]
          rfl
        subst this
        simp [hgq, hin, hgn, v2H, nwH, mtC]
      · have hf : nm1 = freshN (vN :: (dn ++ sc1.map (·.1))) := by
          rw [← hnm, nameF, if_neg (by simpa using hgq)]
        obtain ⟨U, hU⟩ : ∃ U : Nat → List (List D), U = fun k => strs (dn ++ (sc1.take k).map (·.1)) := ⟨_, rfl⟩
        have hU0 : U 0 = strs dn := by rw [hU]; simp
        have hUs : ∀ k (hk : k < sc1.length), U (k + 1) = U k ++ [[.str sc1[k].1]] := fun k hk => by
          rw [hU]
          simp only
          rw [List.take_succ_eq_append_getElem hk]
          simp only [strs, List.map_append, List.map_cons, List.map_nil, List.append_assoc]
        have hUe : U sc1.length = strs (dn ++ sc1.map (·.1)) := by rw [hU]; simp
        have hUl : ∀ k, k ≤ sc1.length → (U k).length = dn.length + k := fun k hk => by
          rw [hU]
          simp [strs]
          omega
        have hU1 : ∀ k, ∀ x ∈ U k, x.length = 1 := fun k x hx => by
          rw [hU] at hx
          simp only [strs] at hx
          obtain ⟨y, _, rfl⟩ := List.mem_map.1 hx
          rfl
        have hfr : CS Tryd.prog G 41 [.sl ([.str [118]] :: U sc1.length), .str [120]] (.d (.str nm1)) none := by
          rw [hUe, hf]
          exact t_Fresh_cs hP (vN :: (dn ++ sc1.map (·.1))) (by simp; omega)
        simp [hgq]
        refine stepK_len (by omega) ?_
        simp
        refine SW.loopF (ι := { k : Nat // k ≤ sc1.length }) (fun k => [(12, .d (.sl ([.str [118]] :: U k.1))), (63, .d (.int .i64 k.1))]) (fun _ => (10, .cells [.d (.int .i64 l[i].op), .d (.str l[i].name), .d (.sl (l[i].args.map tyC)), .d (.sl (strs l[i].names)), .d (.int .i64 l[i].pred.op), .d (.str l[i].pred.name), .d (.int .i64 l[i].pred.n), .d (.sl (l[i].pred.kids.map prC)), .d (.sl (l[i].preds.map prC))]) :: v2H 6 nm l ns p ps A dn pre m hs1) (fun _ => (9, [.t 12]) :: v2W) (fun k => sc1.length - k.1) ⟨0, by simp⟩ (by simp [hU0, v2H, nwH, mtC]) ?_
        rintro ⟨k, hk⟩
        by_cases hkl : k < sc1.length
        · have hgk := vrs_get hkl
          have hwk := wrap64s (show k < 9223372036854775807 by omega)
          have hsk := hUs k hkl
          have hlk := hUl k hk
          simp [hkl, hgk, v2H, nwH, mtC]
          refine stepK_len ⟨hU1 k, by omega⟩ ?_
          simp
          exact Again.mk ⟨k + 1, hkl⟩ (by simp [hwk, hsk, v2H, nwH, mtC]) (by simp; omega)
        · have hke : k = sc1.length := by omega
          subst hke
          simp [v2H, nwH, mtC]
          refine callK.mk ent_names_Fresh hfr ?_
          simp
    · refine SW.seqq (SW.vk ?_)
      simp [v2H, nwH, mtC]
      refine stepK_len (by omega) ?_
      simp
      refine SW.cutF [] ((10, .cells [.d (.int .i64 l[i].op), .d (.str l[i].name), .d (.sl (l[i].args.map tyC)), .d (.sl (strs l[i].names)), .d (.int .i64 l[i].pred.op), .d (.str l[i].pred.name), .d (.int .i64 l[i].pred.n), .d (.sl (l[i].pred.kids.map prC)), .d (.sl (l[i].preds.map prC))]) :: v2H 6 nm l ns p ps (A ++ [(visT sortB pre (datN m) l[i] sc1 hs1).1]) (dn ++ [nm1]) pre m (visT sortB pre (datN m) l[i] sc1 hs1).2) v2W (SW_imp 5 [2, 3, 4] (stdOrd 0 1 [6, 7, 8, 9]) (by kernel_rfl) (by kernel_rfl) ?_) ?_
      · simp
        refine ⟨⟨?_, ?_⟩, ?_⟩
        all_goals
          refine callHK.mk ent_new3 hvi keyW (by simp [nwH, mtC]) (by simp) (by simp [nwH, mtC]) (by simp; rfl) (by simp) ?_
          simp [nwH, mtC]
          refine stepK_len (by omega) ?_
          simp [v2H, nwH, mtC]
      · cases hb : (logR l[i]).2
        · rw [hb] at hlog hlq
          have hscf : scF l[i] nm1 sc1 = sc1 := by rw [scF, hlq]; rfl
          rw [hscf] at hstep
          refine SW.vk ?_
          simp [v2H, nwH, mtC]
          refine callK.mk ent_template_logical hlog ?_
          simp
          refine SW.vk ?_
          simp
          exact Again.mk ⟨⟨i + 1, _, _, _, _⟩, hstep⟩ (by simp [hw2, v2H, nwH, mtC]) (by simp; omega)
        · rw [hb] at hlog hlq
          have hscf : scF l[i] nm1 sc1 = addVr sc1 (nm1, (logR l[i]).1) := by rw [scF, hlq]; rfl
          rw [hscf] at hstep
          refine SW.vk ?_
          simp [v2H, nwH, mtC]
          refine callK.mk ent_template_logical hlog ?_
          simp
          refine callK.mk ent_template_added (hadd sc1 (nm1, (logR l[i]).1) (by omega)) ?_
          simp
          refine SW.vk ?_
          simp
          exact Again.mk ⟨⟨i + 1, _, _, _, _⟩, hstep⟩ (by simp [hw2, v2H, nwH, mtC]) (by simp; omega)
end Go.Proofs.YtmjpdmkgmlhfaaaDoor
