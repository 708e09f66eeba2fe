/- Template: Sig, of the program and of the reference. No condition. -/
import Derived.Test.YtmjpdmkgmlhfaaaDoorMu
set_option linter.unusedVariables false
set_option linter.unusedSimpArgs false
set_option linter.unusedSectionVars false
namespace Go.Proofs.YtmjpdmkgmlhfaaaDoor
open Go Go.VM
set_option maxRecDepth 100000
set_option maxHeartbeats 16000000
variable {G : GT}
/-- A signature: what is only counted stays as it is. -/
structure Sx where
  vars : List (List D)
  needs : List (List D)
  abs : List (List D)
  bounds : List (List D)
  typ : Ty
  metric : List (List D)
def sxC (s : Sx) : List D := [.sl s.vars, .sl s.needs, .sl s.abs, .sl s.bounds, .int .i64 s.typ.op, .str s.typ.name, .sl (s.typ.args.map tyC), .sl (strs s.typ.names), .int .i64 s.typ.pred.op, .str s.typ.pred.name, .int .i64 s.typ.pred.n, .sl (s.typ.pred.kids.map prC), .sl (s.typ.preds.map prC), .sl s.metric]
def sx0 (t : Ty) : Sx := ⟨[], [], [], [], t, []⟩
/-- A definition. -/
structure Dx where
  name : Nm
  params : List Nm
  b0 : D
  b1 : D
  b2 : D
  b3 : D
  b4 : D
  b5 : D
  b6 : D
  mode : D
  typed : Bool
  sg : Sx
def dxC (d : Dx) : List D := [.str d.name, .sl (strs d.params), d.b0, d.b1, d.b2, d.b3, d.b4, d.b5, d.b6, d.mode, .bool d.typed, .sl d.sg.vars, .sl d.sg.needs, .sl d.sg.abs, .sl d.sg.bounds, .int .i64 d.sg.typ.op, .str d.sg.typ.name, .sl (d.sg.typ.args.map tyC), .sl (strs d.sg.typ.names), .int .i64 d.sg.typ.pred.op, .str d.sg.typ.pred.name, .int .i64 d.sg.typ.pred.n, .sl (d.sg.typ.pred.kids.map prC), .sl (d.sg.typ.preds.map prC), .sl d.sg.metric]
/-- The parameters with logical sorts. -/
def sigS : List Nm → List Ty → List Vr
  | x :: r, a :: s => (match logT sortB a with
    | some q => [(x, q)]
    | none => []) ++ sigS r s
  | _, _ => []
theorem sigS_step : ∀ {l : List Nm} {k : List Ty} {i : Nat} (h : i < l.length) (h' : i < k.length), sigS (l.take (i + 1)) (k.take (i + 1)) = sigS (l.take i) (k.take i) ++ (match logT sortB k[i] with
    | some q => [(l[i], q)]
    | none => [])
  | x :: r, a :: s, 0, _, _ => by simp [sigS]
  | x :: r, a :: s, i + 1, h, h' => by
    have := sigS_step (l := r) (k := s) (i := i) (by simpa using h) (by simpa using h')
    simp only [List.take_succ_cons, sigS, List.getElem_cons_succ]
    rw [this, List.append_assoc]
theorem sigS_len : ∀ (l : List Nm) (k : List Ty), (sigS l k).length ≤ l.length
  | x :: r, a :: s => by
    have := sigS_len r s
    simp only [sigS, List.length_append, List.length_cons]
    split <;> simp <;> omega
  | [], _ => by simp [sigS]
  | _ :: _, [] => by simp [sigS]
theorem sigS_take : ∀ (l : List Nm) (k : List Ty), sigS l (k.take l.length) = sigS l k
  | x :: r, a :: s => by
    simp only [List.length_cons, List.take_succ_cons, sigS, sigS_take r s]
  | [], _ => by simp [sigS]
  | _ :: _, [] => by simp [sigS]
/-- The signature of a definition, and its holes. -/
def sigM (m : Mt) (d : Dx) : Sx × List Ho :=
  if d.typed = true then (d.sg, []) else
  if d.params = [] then (sx0 (visT sortB d.name (datN m) d.sg.typ [] []).1, (visT sortB d.name (datN m) d.sg.typ [] []).2) else
  let t := plainT d.sg.typ
  if h : t.op = 6 ∧ t.args.length = d.params.length + 1 then
    let r := visT sortB d.name (datN m) (t.args[d.params.length]'(by rw [h.2]; omega)) (sigS d.params t.args) []
    (sx0 ⟨6, t.name, t.args.take d.params.length ++ [r.1], d.params, zeroP, []⟩, r.2)
  else (sx0 t, [])
theorem nod_plainA : ∀ t : Ty, nodT (plainT t) = nodT t := by
  refine Ty.ind fun t ih => ?_
  obtain ⟨op, nm, l, ns, p, ps⟩ := t
  simp only at ih
  have hl : nodTs (plainTs l) = nodTs l := by
    induction l with
    | nil => rfl
    | cons a r ihr => rw [plainTs, nodTs, nodTs, ih a (by simp), ihr fun k hk => ih k (.tail _ hk)]
  rw [plainT, nodT, nodT, hl]
theorem cntTs_get : ∀ {l : List Ty} {i : Nat} {srt : Nm → Bool} {dat : Nm → List Nm} (h : i < l.length), cntT srt dat l[i] ≤ cntTs srt dat l
  | a :: r, 0, _, _, _ => by simp [cntTs]
  | a :: r, i + 1, srt, dat, h => by
    have := cntTs_get (l := r) (i := i) (srt := srt) (dat := dat) (by simpa using h)
    simp only [cntTs, List.getElem_cons_succ]
    omega
theorem nodTs_get : ∀ {l : List Ty} {i : Nat} (h : i < l.length), nodT l[i] ≤ nodTs l
  | a :: r, 0, _ => by simp [nodTs]
  | a :: r, i + 1, h => by
    have := nodTs_get (l := r) (i := i) (by simpa using h)
    simp only [nodTs, List.getElem_cons_succ]
    omega
theorem ent_cloneStr : VM.Enters Tryd.prog 56 := VM.Enters.mk Tryd.func56 rfl
theorem cloneStr_cs (l : List Nm) (hl : l.length ≤ 900000000) : CS Tryd.prog G 56 [.sl (strs l)] (.d (.sl (strs l))) (some 9) := by
  refine CS.of_VK Tryd.func56 rfl Tryd.ntmps56 rfl ?_
  have hsz : l.length * 17 ≤ 140737488355328 := by omega
  by_cases h0 : l = []
  · subst h0
    simp
  · have h1 : ¬ l.length = 0 := fun h => h0 (List.eq_nil_of_length_eq_zero h)
    simp [h0, h1, hsz]
theorem ent_cloneTy : VM.Enters Tryd.prog 57 := VM.Enters.mk Tryd.func57 rfl
theorem cloneTy_cs (l : List Ty) (hl : l.length ≤ 900000000) : CS Tryd.prog G 57 [.sl (l.map tyC)] (.d (.sl (l.map tyC))) (some 38) := by
  refine CS.of_VK Tryd.func57 rfl Tryd.ntmps57 rfl ?_
  have hsz : l.length * 153 ≤ 140737488355328 := by omega
  by_cases h0 : l = []
  · subst h0
    simp
  · have h1 : ¬ l.length = 0 := fun h => h0 (List.eq_nil_of_length_eq_zero h)
    simp [h0, h1, hsz]
/-- The frame of the loop over the parameters. -/
def sigH (kt : Nat) (m : Mt) (d : Dx) (t : Ty) : List (Nat × AObj) := [(2, .cells ((mtC m).map .d)), (3, .cells ((dxC d).map .d)), (4, .cells [.d .nils, .d .nils, .d .nils, .d .nils, .d (.int .i64 0), .d (.str []), .d .nils, .d .nils, .d (.int .i64 0), .d (.str []), .d (.int .i64 0), .d .nils, .d .nils, .d .nils]),
  (kt, .cells [.d (.int .i64 6), .d (.str t.name), .d (.sl (t.args.map tyC)), .d (.sl []), .d (.int .i64 0), .d (.str []), .d (.int .i64 0), .d (.sl []), .d (.sl [])])]
theorem ent_template_Sig : VM.Enters Tryd.prog 19 := VM.Enters.mk Tryd.func19 rfl
theorem t_Sig_cs (hG : G 0 = some kwCells) (hP : G 1 = some powCells) (m : Mt) (d : Dx) (hpre : d.name.length ≤ 2000000) (hml : m.datas.length ≤ 1000000) (h1 : d.params.length + nodT d.sg.typ ≤ 500000) (h2 : cntT sortB (datN m) d.sg.typ ≤ 1000000) :
    CS Tryd.prog G 19 [.agg (mtC m), .agg (dxC d)] (.tup [.agg (sxC (sigM m d).1), .sl ((sigM m d).2.map hoC)]) none := by
  have hnew0 := t_New_cs hG hP (added_ok (G := G)) d.name m hpre hml d.sg.typ [] (by simp; omega) h2
  have hpl := types_Plain_cs (G := G) d.sg.typ (by omega)
  have hnp := nod_plainA d.sg.typ
  have hcp := cnt_plain (srt := sortB) (dat := datN m) d.sg.typ
  obtain ⟨nm, ps, b0, b1, b2, b3, b4, b5, b6, mode, typed, ⟨sv, sn, sa, sb, ty, sm⟩⟩ := d
  simp only at hpre h1 h2 hnew0 hpl hnp hcp
  refine CS.of_VK Tryd.func19 rfl Tryd.ntmps19 rfl ?_
  cases typed
  · by_cases hps : ps = []
    · subst hps
      have hM : sigM m ⟨nm, [], b0, b1, b2, b3, b4, b5, b6, mode, false, ⟨sv, sn, sa, sb, ty, sm⟩⟩ = (sx0 (visT sortB nm (datN m) ty [] []).1, (visT sortB nm (datN m) ty [] []).2) := rfl
      rw [hM]
      simp [mtC, dxC]
      refine callK.mk ent_template_New (CS.args hnew0 (by simp [mtC])) ?_
      simp [sxC, sx0]
    · have hpl0 : ps.length ≠ 0 := fun h => hps (List.eq_nil_of_length_eq_zero h)
      obtain ⟨t, ht⟩ : ∃ t, plainT ty = t := ⟨_, rfl⟩
      rw [ht] at hpl hnp hcp
      by_cases hop : t.op = 6 ∧ t.args.length = ps.length + 1
      · obtain ⟨h6, hal⟩ := hop
        have hi0 : ps.length < t.args.length := by omega
        obtain ⟨u, hu⟩ : ∃ u, t.args[ps.length] = u := ⟨_, rfl⟩
        have hM : sigM m ⟨nm, ps, b0, b1, b2, b3, b4, b5, b6, mode, false, ⟨sv, sn, sa, sb, ty, sm⟩⟩ = (sx0 ⟨6, t.name, t.args.take ps.length ++ [(visT sortB nm (datN m) u (sigS ps t.args) []).1], ps, zeroP, []⟩, (visT sortB nm (datN m) u (sigS ps t.args) []).2) := by
          simp only [sigM, ht, hps, if_false, Bool.false_eq_true]
          rw [dif_pos ⟨h6, hal⟩, hu]
        rw [hM]
        have hss := sigS_len ps t.args
        have hun : nodT u ≤ nodT t := by
          have := nodTs_get hi0
          rw [hu] at this
          have := nodT_args t
          omega
        have huc : cntT sortB (datN m) u ≤ cntT sortB (datN m) t := by
          have h1 := cntTs_get (srt := sortB) (dat := datN m) hi0
          rw [hu] at h1
          have h2 : cntT sortB (datN m) t = cntTs sortB (datN m) t.args := by
            obtain ⟨op, nm, l, ns, p, ps⟩ := t
            simp only at h6 hi0 ⊢
            rw [cntT, if_pos ⟨h6, fun h => by subst h; simp at hi0⟩]
          omega
        have hnew := t_New_cs hG hP (added_ok (G := G)) nm m hpre hml u (sigS ps t.args) (by omega) (by omega)
        have hcs := cloneStr_cs (G := G) ps (by omega)
        have hct := cloneTy_cs (G := G) (t.args.take ps.length) (by simp; omega)
        have hw1 := wrap64s (show ps.length < 9223372036854775807 by omega)
        have hpE : t.pred = zeroP ∧ t.preds = [] ∧ t.names = [] := by
          rw [← ht]
          cases ty
          exact ⟨rfl, rfl, rfl⟩
        obtain ⟨e1, e2, e3⟩ := hpE
        simp [mtC, dxC, hpl0]
        refine callK.mk ent_types_Plain hpl ?_
        simp [h6, hw1, hal, e1, e2, e3, zeroP]
        refine SW.loopF (ι := { i : Nat // i ≤ ps.length }) (fun i => [(10, .d (.sl ((sigS (ps.take i.1) (t.args.take i.1)).map vrC))), (61, .d (.int .i64 i.1))]) (fun _ => sigH 8 m ⟨nm, ps, b0, b1, b2, b3, b4, b5, b6, mode, false, ⟨sv, sn, sa, sb, ty, sm⟩⟩ t) (fun _ => [(76, [.t 10])]) (fun i => ps.length - i.1) ⟨0, by simp⟩ (by simp [sigH, mtC, dxC, sigS]) ?_
        rintro ⟨i, hi⟩
        have hsl := sigS_len (ps.take i) (t.args.take i)
        rw [List.length_take] at hsl
        by_cases hlt : i < ps.length
        · have hlt2 : i < t.args.length := by omega
          have hg := strs_get hlt
          have hg2 := tys_get hlt2
          have hw := wrap64s (show i < 9223372036854775807 by omega)
          have hst := sigS_step hlt hlt2
          have hlog := t_logical_cs hG t.args[i]
          have hlq : logT sortB t.args[i] = if (logR t.args[i]).2 = true then some (logR t.args[i]).1 else none := logR_eq t.args[i]
          simp [hlt, hlt2, hg, hg2, sigH, mtC, dxC]
          refine callK.mk ent_template_logical hlog ?_
          cases hb : (logR t.args[i]).2
          · rw [hlq, hb] at hst
            simp only [Bool.false_eq_true, if_false, List.append_nil] at hst
            simp
            exact Again.mk ⟨i + 1, hlt⟩ (by simp [hw, hst, sigH, mtC, dxC]) (by simp; omega)
          · rw [hlq, hb] at hst
            simp only [if_true] at hst
            simp
            refine stepK_len (by omega) ?_
            simp
            exact Again.mk ⟨i + 1, hlt⟩ (by simp [hw, hst, sigH, mtC, dxC]) (by simp; omega)
        · have hie : i = ps.length := by omega
          subst hie
          have hS : sigS ps (t.args.take ps.length) = sigS ps t.args := sigS_take ps t.args
          have hg2 := tys_get hi0
          rw [hu] at hg2
          simp [hS, hi0, hg2, sigH, mtC, dxC]
          refine ⟨lexOk.mk (by kernel_rfl), ?_⟩
          refine callK.mk ent_template_New (CS.args hnew (by simp [mtC, hu])) ?_
          simp
          refine callK.mk ent_cloneStr hcs ?_
          have hle : ps.length ≤ t.args.length := by omega
          simp [hle]
          refine ⟨lexOk.mk (by kernel_rfl), ?_⟩
          rw [List.map_take] at hct
          refine callK.mk ent_cloneTy hct ?_
          have h9 : ∀ x ∈ List.take ps.length (List.map tyC t.args), x.length = 9 := fun x hx => by
            obtain ⟨y, _, rfl⟩ := List.mem_map.1 (List.mem_of_mem_take hx)
            simp
          simp
          refine stepK_len ⟨h9, by omega⟩ ?_
          simp [sxC, sx0]
      · have hM : sigM m ⟨nm, ps, b0, b1, b2, b3, b4, b5, b6, mode, false, ⟨sv, sn, sa, sb, ty, sm⟩⟩ = (sx0 t, []) := by
          simp [sigM, hps, ht, hop]
        rw [hM]
        simp [mtC, dxC, hpl0]
        refine callK.mk ent_types_Plain hpl ?_
        simp
        have hw1 := wrap64s (show ps.length < 9223372036854775807 by omega)
        by_cases h6 : t.op = 6
        · have hne : ¬ (t.args.length : Int) = ((ps.length + 1 : Nat) : Int) := fun h => hop ⟨h6, by omega⟩
          simp [h6, hw1]
          simp only [Int.natCast_add, Int.cast_ofNat_Int] at hne
          simp [hne, sxC, sx0, h6]
        · simp [h6, sxC, sx0]
  · have hM : sigM m ⟨nm, ps, b0, b1, b2, b3, b4, b5, b6, mode, true, ⟨sv, sn, sa, sb, ty, sm⟩⟩ = (⟨sv, sn, sa, sb, ty, sm⟩, []) := rfl
    rw [hM]
    simp [mtC, dxC, sxC]
end Go.Proofs.YtmjpdmkgmlhfaaaDoor
