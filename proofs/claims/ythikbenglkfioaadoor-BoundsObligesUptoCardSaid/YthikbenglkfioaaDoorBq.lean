/- The statement BoundsObliges. No condition. -/
import Derived.Test.YthikbenglkfioaaDoorBo
set_option linter.unusedVariables false
set_option linter.unusedSimpArgs false
set_option linter.unusedSectionVars false
namespace Go.Proofs.YthikbenglkfioaaDoor
open Go Go.VM
set_option maxRecDepth 100000
set_option maxHeartbeats 4000000
theorem nodPs_vars : ∀ l : List Vr, nodPs (l.map varP) = l.length
  | [] => rfl
  | v :: r => by
    simp only [List.map_cons, nodPs, nodPs_vars r, List.length_cons, varP, nodP]
    omega
theorem node_nod {abs : List Vr} {hs : List Ho} {M : Nat} (h : ∀ h ∈ hs, h.2.length ≤ M) (op : Int) (nm : Nm) (n : Int) (l : List Pr) : nodP (nodeA abs hs op nm n l) ≤ 1 + M + nodPs l := by
  unfold nodeA
  split
  · split
    · rename_i ho hat
      have hm : ho ∈ hs := by
        unfold holeAt at hat
        split at hat
        · exact List.mem_of_getElem? hat
        · cases hat
      have := h ho hm
      simp only [nodP, nodPs_app, nodPs_vars, List.length_drop]
      omega
    · simp only [nodP]; omega
  · simp only [nodP]; omega
mutual
theorem abs_nod {abs : List Vr} {hs : List Ho} {M : Nat} (h : ∀ h ∈ hs, h.2.length ≤ M) : ∀ p : Pr, nodP (absP abs hs p) ≤ (1 + M) * nodP p
  | ⟨op, nm, n, l⟩ => by
    rw [absP]
    have h1 := node_nod (abs := abs) h op nm n (absPs abs hs l)
    have h2 := abss_nod (abs := abs) h l
    simp only [nodP, Nat.mul_add, Nat.mul_one]
    omega
theorem abss_nod {abs : List Vr} {hs : List Ho} {M : Nat} (h : ∀ h ∈ hs, h.2.length ≤ M) : ∀ l : List Pr, nodPs (absPs abs hs l) ≤ (1 + M) * nodPs l
  | [] => by simp [absPs, nodPs]
  | t :: r => by
    have h1 := abs_nod (abs := abs) h t
    have h2 := abss_nod (abs := abs) h r
    simp only [absPs, nodPs, Nat.mul_add]
    omega
end
theorem okC_wrap (b : Bd) {c : Cn} (h : okC c) : ∀ l : List Vr, okC (wrapC b c l)
  | [] => h
  | v :: r => by
    rw [wrapC, okC_eq]
    exact ⟨by simp [zerP, nodP, nodPs], by simp, fun k hk => by simp at hk; rw [hk]; exact okC_wrap b h r⟩
theorem put_nod (b : Bd) {abs : List Vr} {hs : List Ho} (h : ∀ h ∈ hs, h.2.length ≤ 30) {p : Pr} (hp : nodP p ≤ 1048576) : nodP (putP b abs hs p) ≤ 900000000 := by
  have h1 := abs_nod (abs := abs) h (substP (bdN b) (byP b) p)
  have h2 := subst_nod (ns := bdN b) (by_leaf b) p
  unfold putP
  omega
theorem okC_obl (b : Bd) {abs : List Vr} {hs : List Ho} (h : ∀ h ∈ hs, h.2.length ≤ 30) (tag : Int) (h1 : nodP b.hyp ≤ 1048576) (h2 : nodP b.goal ≤ 1048576) : okC (oblC b abs hs tag) := by
  refine okC_wrap b ?_ _
  rw [okC_eq]
  refine ⟨put_nod b h h1, by simp, fun k hk => ?_⟩
  simp at hk
  rw [hk, okC_eq]
  exact ⟨put_nod b h h2, by simp, by simp⟩
theorem small_parts {b : Bd} (h : smallD b = true) : b.vars.length ≤ 10 ∧ b.name.length ≤ 100 ∧ ∀ v ∈ b.vars, v.1.length ≤ 100 := by
  unfold smallD at h
  split at h
  · cases h
  rename_i c1
  split at h
  · cases h
  rename_i c2
  have c2' : (b.vars.all fun x => decide (x.1.length ≤ 100)) = true := by simpa using c2
  exact ⟨by omega, by omega, fun v hv => by simpa using List.all_eq_true.1 c2' v hv⟩
theorem take_snoc {α : Type} {p : α → Prop} {l : List α} {i : Nat} (h : i < l.length) (ha : ∀ x ∈ l.take i, p x) (hx : p l[i]) : ∀ x ∈ l.take (i + 1), p x := fun x hm => by
  rw [List.take_succ_eq_append_getElem h, List.mem_append] at hm
  rcases hm with hm | hm
  · exact ha x hm
  · simp at hm
    rw [hm]; exact hx
theorem ent_l36_BoundsObliges : VM.Enters Tryd.prog 3 := VM.Enters.mk Tryd.func3 rfl
theorem l36_BoundsObliges_cs (s : Sg) (H : List Ho) (tag : Int) (hsz : szLL (s.bs.map bdC) + szLL (H.map hoC) ≤ 1048576) : CS Tryd.prog G0 3 [.agg (sgC s), .sl (H.map hoC), .int .i64 tag] (.d (.bool true)) none := by
  have hbl : s.bs.length ≤ szLL (s.bs.map bdC) := len_szLL (fun x => by simp [szL, szD]; omega) _
  have hsb : ∀ b ∈ s.bs, szL (bdC b) ≤ 1048576 := fun b hb => by have := mem_szLL (f := bdC) hb; omega
  have hnb : ∀ b ∈ s.bs, nodP b.hyp ≤ 1048576 ∧ nodP b.goal ≤ 1048576 ∧ szL (prC b.hyp) + szL (prC b.goal) ≤ 1048576 := fun b hb => by
    have q1 := hsb b hb
    have q2 := bd_sz b
    have q3 := nod_sz b.hyp
    have q4 := nod_sz b.goal
    omega
  refine CS.of_VK Tryd.func3 rfl Tryd.ntmps3 rfl ?_
  by_cases c1 : 10 < s.abs.length
  · have c2 : 10 < (s.abs.length : Int) := by omega
    simp [c1, c2]
    refine callK.mk ent_l36_awake (l36_awake_cs ) ?_
    simp
  have c1' : ¬ 10 < (s.abs.length : Int) := by omega
  by_cases c3 : 10 < H.length
  · have c4 : 10 < (H.length : Int) := by omega
    simp [c1, c1', c3, c4]
    refine callK.mk ent_l36_awake (l36_awake_cs ) ?_
    simp
  have c3' : ¬ 10 < (H.length : Int) := by omega
  by_cases c5 : 5 < s.bs.length
  · have c6 : 5 < (s.bs.length : Int) := by omega
    simp [c1, c1', c3, c3', c5, c6]
    refine callK.mk ent_l36_awake (l36_awake_cs ) ?_
    simp
  have c5' : ¬ 5 < (s.bs.length : Int) := by omega
  simp [c1, c1', c3, c3', c5, c5']
  refine SW.loopF (ι := { i : Nat // i ≤ H.length ∧ ∀ h ∈ H.take i, h.2.length ≤ 30 }) (fun i => [(7, .d (.int .i64 i.1))]) (fun _ => [(3, sgO s)]) (fun _ => []) (fun i => H.length - i.1) ⟨0, by simp⟩ (by simp) ?_
  rintro ⟨i, hi, hP⟩
  try simp only at hi hP
  by_cases hlt : i < H.length
  · have hg := hos_get hlt
    have hw := wrap64s (show i < 9223372036854775807 by omega)
    by_cases hp : 30 < H[i].2.length
    · have hp2 : 30 < (H[i].2.length : Int) := by omega
      simp [hlt, hg, hp, hp2]
      refine callK.mk ent_l36_awake (l36_awake_cs ) ?_
      simp
    · have hp2 : ¬ 30 < (H[i].2.length : Int) := by omega
      simp [hlt, hg, hp, hp2]
      exact Again.mk ⟨i + 1, hlt, take_snoc hlt hP (by omega)⟩ (by simp [hw]) (by simp; omega)
  have : i = H.length := by omega
  subst this
  rw [List.take_length] at hP
  simp
  refine SW.loopF (ι := { i : Nat // i ≤ s.bs.length ∧ ∀ b ∈ s.bs.take i, smallD b = true }) (fun i => [(8, .d (.int .i64 i.1))]) (fun _ => [(3, sgO s)]) (fun _ => []) (fun i => s.bs.length - i.1) ⟨0, by simp⟩ (by simp) ?_
  rintro ⟨i, hi, hS⟩
  try simp only at hi hS
  by_cases hlt : i < s.bs.length
  · have hg := bds_get hlt
    have hw := wrap64s (show i < 9223372036854775807 by omega)
    have hc := l36_small_cs (G := G0) s.bs[i] (hnb _ (List.getElem_mem hlt)).2.2
    simp [hlt, hg]
    refine callK.mk ent_l36_small hc ?_
    cases hb : smallD s.bs[i]
    · simp
      refine callK.mk ent_l36_awake (l36_awake_cs ) ?_
      simp
    · simp
      exact Again.mk ⟨i + 1, hlt, take_snoc hlt hS hb⟩ (by simp [hw]) (by simp; omega)
  have : i = s.bs.length := by omega
  subst this
  rw [List.take_length] at hS
  have hsame : ∀ nm, CS Tryd.prog G0 15 [.agg (bdC (bdF nm s.bs).1), .agg (bdC (bdF nm s.bs).1)] (.d (.bool true)) none := fun nm => by
    rcases bdF_mem (nm := nm) s.bs with h | h
    · rw [h]
      exact r36_Same_cs zeroB (by decide) (by decide) (by decide)
    · obtain ⟨q1, q2, _⟩ := hnb _ h
      obtain ⟨q3, _, _⟩ := small_parts (hS _ h)
      exact r36_Same_cs _ (by omega) (by omega) (by omega)
  simp
  refine SW.loopF (ι := { i : Nat // i ≤ s.bs.length }) (fun i => [(9, .d (.int .i64 i.1))]) (fun _ => [(3, sgO s)]) (fun _ => []) (fun i => s.bs.length - i.1) ⟨0, by simp⟩ (by simp) ?_
  rintro ⟨i, hi⟩
  by_cases hlt : i < s.bs.length
  · have hg := bds_get hlt
    have hw := wrap64s (show i < 9223372036854775807 by omega)
    have hmem := List.getElem_mem hlt
    obtain ⟨b, hb⟩ : ∃ b, s.bs[i] = b := ⟨_, rfl⟩
    rw [hb] at hg hmem
    obtain ⟨q1, q2, _⟩ := hnb _ hmem
    obtain ⟨q3, q4, q5⟩ := small_parts (hS _ hmem)
    have o1 := bounds_Obligation_cs (G := G0) b s.abs H tag (by omega) (by omega) (by omega) (fun h hh => by have := hP h hh; omega) (by omega) (by omega) (by omega) (fun v hv => by have := q5 v hv; omega)
    have o2 := r36_Obligation_cs (G := G0) b s.abs H tag (by omega) (by omega) (by omega) (fun h hh => by have := hP h hh; omega) (by omega) (by omega) (by omega) (fun v hv => by have := q5 v hv; omega)
    have o3 := r36_SameCons_cs (G := G0) (oblC b s.abs H tag) (okC_obl b hP tag q1 q2)
    have f1 := bounds_Find_cs (G := G0) s b.name (by omega)
    have f2 := r36_Find_cs (G := G0) s b.name (by omega)
    have f3 := hsame b.name
    generalize oblC b s.abs H tag = cc at o1 o2 o3
    generalize bdF b.name s.bs = ff at f1 f2 f3
    simp [hlt, hb]
    refine ⟨lexOk.mk (by kernel_rfl), ?_⟩
    refine callK.mk ent_bounds_Obligation o1 ?_
    simp [hlt, hb]
    refine ⟨lexOk.mk (by kernel_rfl), ?_⟩
    refine callK.mk ent_r36_Obligation o2 ?_
    simp
    refine callK.mk ent_r36_SameCons o3 ?_
    simp [hlt, hb]
    refine ⟨lexOk.mk (by kernel_rfl), ?_⟩
    refine callK.mk ent_bounds_Find f1 ?_
    simp [hlt, hb]
    refine ⟨lexOk.mk (by kernel_rfl), ?_⟩
    refine callK.mk ent_r36_Find f2 ?_
    simp
    refine callK.mk ent_r36_Same f3 ?_
    simp
    exact Again.mk ⟨i + 1, hlt⟩ (by simp [hw]) (by simp; omega)
  have : i = s.bs.length := by omega
  subst this
  have f1 := bounds_Find_cs (G := G0) s [] (by omega)
  have f2 := r36_Find_cs (G := G0) s [] (by omega)
  have f3 := hsame []
  generalize bdF [] s.bs = ff at f1 f2 f3
  simp
  refine callK.mk ent_bounds_Find f1 ?_
  simp
  refine callK.mk ent_r36_Find f2 ?_
  simp
  refine callK.mk ent_r36_Same f3 ?_
  simp
  refine callK.mk ent_l36_awake (l36_awake_cs ) ?_
  simp
theorem fits_sg {ds : List D} (h : FitsT Tryd.prog 35 ds) : ∃ s : Sg, ds = sgC s := by
  obtain ⟨x0, x1, x2, x3, x4, x5, x6, x7, x8, x9, x10, x11, x12, x13, rfl, h0, h1, h2, h3, h4, h5⟩ := inv35 h
  obtain ⟨e2, q2, _, hes2⟩ := fits_sl ty_elem24 h2
  obtain ⟨e3, q3, _, hes3⟩ := fits_sl ty_elem25 h3
  obtain ⟨la, rfl⟩ := ex_map (f := vrC) fun x hx => by
    obtain ⟨y0, y1, rfl, p0, p1⟩ := inv151 (hes2 x hx)
    obtain ⟨a, r0, _⟩ := fits_str tu9 p0
    obtain ⟨b, r1, _⟩ := fits_str tu45 p1
    cases r0; cases r1
    exact ⟨(a, b), rfl⟩
  obtain ⟨lb, rfl⟩ := ex_map (f := bdC) fun x hx => fits_bd (hes3 x hx)
  cases q2; cases q3
  exact ⟨⟨fun i => match i with
    | 0 => x0 | 1 => x1 | 4 => x4 | 5 => x5 | 6 => x6 | 7 => x7 | 8 => x8 | 9 => x9 | 10 => x10 | 11 => x11 | 12 => x12 | _ => x13, la, lb⟩, rfl⟩
theorem fitV_sg {d : D} (h : FitsV Tryd.prog 35 d) : ∃ s : Sg, d = .agg (sgC s) := by
  obtain ⟨cs, rfl, hb⟩ := fitsV_agg ty_field35_0 h
  obtain ⟨s, rfl⟩ := fits_sg hb
  exact ⟨s, rfl⟩
theorem boundsObliges_all (xs : List D) (h : FitsAll Tryd.prog [35, 36, 3] xs) (hsz : szL xs ≤ 1048576) : CS Tryd.prog G0 3 xs (.d (.bool true)) none := by
  match xs, h with
  | [a, b, c], ⟨h1, h2, h3, _⟩ =>
    obtain ⟨s, rfl⟩ := fitV_sg h1
    obtain ⟨H, rfl⟩ := fitV_hos h2
    obtain ⟨n, rfl, _⟩ := fitsV_int tu3 h3
    simp only [szL, szD] at hsz
    exact l36_BoundsObliges_cs s H n (by omega)
end Go.Proofs.YthikbenglkfioaaDoor
