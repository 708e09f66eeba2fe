/- Bounds: what holds for holes; the walks of obligations. No condition. -/
import Derived.Test.YthikbenglkfioaaDoorBh
import Derived.Test.YthikbenglkfioaaDoorVmU
set_option linter.unusedVariables false
set_option linter.unusedSimpArgs false
set_option linter.unusedSectionVars false
namespace Go.VM
open Go
theorem SW.dropOwn {P : Program} {G : GT} {st : St} {Q : Exit → St → Prop} {c : Code} (hH : WkH st.H st.H) (h : SW P G c ⟨st.tmps, st.H, []⟩ Q) : SW P G c st Q := SW.weak (st' := ⟨st.tmps, st.H, []⟩) ⟨by
  show WkT st.tmps st.tmps
  generalize st.tmps = l
  induction l with
  | nil => trivial
  | cons d r ih => exact ⟨.inr (.inl rfl), ih⟩, hH, by cases st.own <;> rfl, rfl⟩ h
end Go.VM
namespace Go.Proofs.YthikbenglkfioaaDoor
open Go Go.VM
set_option maxRecDepth 100000
set_option maxHeartbeats 8000000
variable {G : GT}
def byP (b : Bd) : List Pr := b.vars.map fun v => ⟨3, b.name ++ [46] ++ v.1, 0, []⟩
def putP (b : Bd) (abs : List Vr) (hs : List Ho) (p : Pr) : Pr := absP abs hs (substP (bdN b) (byP b) p)
def wrapC (b : Bd) (c : Cn) : List Vr → Cn
  | [] => c
  | v :: r => ⟨2, b.name ++ [46] ++ v.1, v.2, zerP, 0, [wrapC b c r]⟩
/-- The constraint that a bound holds for holes. -/
def oblC (b : Bd) (abs : List Vr) (hs : List Ho) (tag : Int) : Cn := wrapC b ⟨2, [], [], putP b abs hs b.hyp, 0, [⟨3, [], [], putP b abs hs b.goal, tag, []⟩]⟩ b.vars
theorem byP_len (b : Bd) : (byP b).length = b.vars.length := by simp [byP]
theorem by_leaf (b : Bd) : ∀ u ∈ byP b, nodP u = 1 := fun u hu => by
  obtain ⟨v, _, rfl⟩ := List.mem_map.1 hu
  rfl
mutual
theorem subst_nod {ns : List Nm} {bys : List Pr} (h : ∀ u ∈ bys, nodP u = 1) : ∀ p : Pr, nodP (substP ns bys p) ≤ nodP p
  | ⟨op, nm, n, l⟩ => by
    rw [substP]
    split
    · rename_i u hu
      have hm : u ∈ bys := by
        unfold pickP at hu
        split at hu
        · exact List.mem_of_getElem? hu
        · cases hu
      rw [h u hm]
      exact nodP_pos _
    · have := substs_nod (ns := ns) h l
      simp only [nodP]
      omega
theorem substs_nod {ns : List Nm} {bys : List Pr} (h : ∀ u ∈ bys, nodP u = 1) : ∀ l : List Pr, nodPs (substPs ns bys l) ≤ nodPs l
  | [] => by simp [substPs]
  | t :: r => by
    have h1 := subst_nod (ns := ns) h t
    have h2 := substs_nod (ns := ns) h r
    simp only [substPs, nodPs]
    omega
end
def byD (b : Bd) : List (List D) := b.vars.map fun v => [.int .i64 3, .str (b.name ++ [46] ++ v.1), .int .i64 0, .nils]
theorem byD_wk (b : Bd) : WkLL (byD b) ((byP b).map prC) := by
  unfold byD byP
  generalize b.vars = l
  induction l with
  | nil => simp
  | cons v r ih => 
    simp only [List.map_cons, WkLL_cons]
    exact ⟨by simp, ih⟩
theorem byD_len (b : Bd) : (byD b).length = b.vars.length := by simp [byD]
theorem byD_four (b : Bd) (i : Nat) : ∀ c : List D, c ∈ List.take i (byD b) → c.length = 4 := fun c hc => by
  obtain ⟨v, _, rfl⟩ := List.mem_map.1 (List.mem_of_mem_take hc)
  rfl
theorem byD_step (b : Bd) {i : Nat} (h : i < b.vars.length) : List.take (i + 1) (byD b) = List.take i (byD b) ++ [[.int .i64 3, .str (b.name ++ 46 :: b.vars[i].1), .int .i64 0, .nils]] := by
  rw [List.take_succ_eq_append_getElem (by rw [byD_len]; exact h)]
  simp [byD]
theorem byD_get (b : Bd) {i : Nat} (h : i < b.vars.length) : (byD b)[i]? = some [.int .i64 3, .str (b.name ++ 46 :: b.vars[i].1), .int .i64 0, .nils] := by
  simp [byD, h]
theorem byD_getE (b : Bd) {i : Nat} (h : i < (byD b).length) : (byD b)[i] = [.int .i64 3, .str (b.name ++ 46 :: (b.vars[i]'(by rw [← byD_len]; exact h)).1), .int .i64 0, .nils] := by simp [byD]
abbrev byO (l : List (List D)) : AObj := .cells [.d (.sl l)]
abbrev namO (l : List Nm) : AObj := .cells [.d (.sl (strs l))]
abbrev prsO (l : List Pr) : AObj := .cells [.d (.sl (l.map prC))]
theorem ent_obl1 : Enters Tryd.prog 44 := Enters.mk Tryd.func44 rfl
theorem obl1_ch (b : Bd) (abs : List Vr) (hs : List Ho) (h0 : b.vars.length ≤ 900000000) (hl : abs.length ≤ 900000000) (hh : hs.length ≤ 900000000) (hpp : ∀ h ∈ hs, h.2.length ≤ 900000000) (p : Pr) (hp : nodP p ≤ 900000000) :
    CH Tryd.prog G 44 ⟨[.d (.agg (prD p)), .ptr 100000 0, .ptr 100001 0, .ptr 100002 0, .ptr 100003 0], [(100000, namO (bdN b)), (100001, byO (byD b)), (100002, absO abs), (100003, holO hs)], []⟩
      ⟨[.d (.agg (prD (putP b abs hs p)))], [(100000, namO (bdN b)), (100001, byO (byD b)), (100002, absO abs), (100003, holO hs)], []⟩ := by
  have hs1 := pred_SubstAll_cs (G := G) (bdN b) (byP b) (by simpa using h0) (by rw [byP_len]; exact h0) (fun u hu => by rw [by_leaf b u hu]; omega) p hp
  have hs2 := abstract_Pred_cs (G := G) abs hs hl hh hpp (substP (bdN b) (byP b) p) (Nat.le_trans (subst_nod (by_leaf b) p) hp)
  refine CH.of_VK Tryd.func44 rfl Tryd.ntmps44 rfl (by simp) ?_
  simp
  refine ⟨lexOk.mk (by kernel_rfl), ?_⟩
  refine callK.mk ent_pred_SubstAll (CS.args hs1 (by simp [byD_wk])) ?_
  simp
  refine callK.mk ent_abstract_Pred hs2 ?_
  simp [putP]
/-! The constraint, cell by cell -/
def rwN (b : Bd) : List Vr → Nm
  | [] => []
  | v :: _ => b.name ++ 46 :: v.1
def rwS : List Vr → Nm
  | [] => []
  | v :: _ => v.2
def rwP (q : Pr) : List Vr → Pr
  | [] => q
  | _ :: _ => zerP
def rwK (q : Pr) : List Vr → D
  | [] => .sl (q.kids.map prC)
  | _ :: _ => .nils
def rwL (b : Bd) (q : Pr) (e : D) : List Vr → D
  | [] => e
  | _ :: r => .sl [[.int .i64 2, .str (rwN b r), .str (rwS r), .int .i64 (rwP q r).op, .str (rwP q r).name, .int .i64 (rwP q r).n, rwK q r, .int .i64 0, rwL b q e r]]
abbrev rwC (b : Bd) (q : Pr) (e : D) (r : List Vr) : List D := [.int .i64 2, .str (rwN b r), .str (rwS r), .int .i64 (rwP q r).op, .str (rwP q r).name, .int .i64 (rwP q r).n, rwK q r, .int .i64 0, rwL b q e r]
abbrev rwO (b : Bd) (q : Pr) (e : D) (r : List Vr) : AObj := .cells [.d (.int .i64 2), .d (.str (rwN b r)), .d (.str (rwS r)), .d (.int .i64 (rwP q r).op), .d (.str (rwP q r).name), .d (.int .i64 (rwP q r).n), .d (rwK q r), .d (.int .i64 0), .d (rwL b q e r)]
theorem rw_wk (b : Bd) (q : Pr) (e : D) (ks : List Cn) (he : WkD e (.sl (ks.map cnC))) : ∀ r : List Vr, WkL (rwC b q e r) (cnC (wrapC b ⟨2, [], [], q, 0, ks⟩ r))
  | [] => by
    simp [rwN, rwS, rwP, rwK, rwL, wrapC, he]
  | v :: r => by
    have ih := rw_wk b q e ks he r
    rw [cnC_eq] at ih
    simp only [rwC, rwN, rwS, rwP, rwK, rwL, wrapC, cnC_eq, List.map_cons, List.map_nil, WkL_cons, WkL_nil, WkD_int, WkD_str, WkD_sl, WkLL_cons, WkLL_nil, zerP, WkD_nils, and_true] at ih ⊢
    simpa using ih
theorem wrap_step (b : Bd) (c : Cn) {l : List Vr} {i : Nat} (h : i < l.length) : wrapC b c (l.drop i) = ⟨2, b.name ++ [46] ++ l[i].1, l[i].2, zerP, 0, [wrapC b c (l.drop (i + 1))]⟩ := by
  rw [List.drop_eq_getElem_cons h, wrapC]
theorem ent_bounds_Obligation : VM.Enters Tryd.prog 10 := VM.Enters.mk Tryd.func10 rfl
theorem bounds_Obligation_cs (b : Bd) (abs : List Vr) (hs : List Ho) (tag : Int) (h0 : b.vars.length ≤ 900000000) (hl : abs.length ≤ 900000000) (hh : hs.length ≤ 900000000) (hpp : ∀ h ∈ hs, h.2.length ≤ 900000000) (h1 : nodP b.hyp ≤ 900000000) (h2 : nodP b.goal ≤ 900000000)
    (hn : b.name.length ≤ 900000000) (hv : ∀ v ∈ b.vars, v.1.length ≤ 900000000) :
    CS Tryd.prog G 10 [.agg (bdC b), .sl (abs.map vrC), .sl (hs.map hoC), .int .i64 tag] (.d (.agg (cnD (oblC b abs hs tag)))) none := by
  have hva := bounds_variables_cs (G := G) b h0
  have c1 := obl1_ch (G := G) b abs hs h0 hl hh hpp b.hyp h1
  have c2 := obl1_ch (G := G) b abs hs h0 hl hh hpp b.goal h2
  refine CS.of_SWK Tryd.func10 rfl Tryd.ntmps10 rfl ?_
  refine SW.seqq (SW.vk ?_)
  simp
  refine SW.seqq (SW.vk ?_)
  simp
  refine SW.seqq (SW.seqq (SW.vk ?_))
  simp
  refine SW.blockq ?_
  refine SW.loopW (ι := { i : Nat // i ≤ b.vars.length }) (fun i => [(19, .d (.int .i64 i.1))]) (fun i => [(4, bdO b), (5, absO abs), (6, holO hs), (8, .cells [.d (.int .i64 0), .d (.str []), .d (.str []), .d (.int .i64 0), .d (.str []), .d (.int .i64 0), .d .nils, .d (.int .i64 0), .d .nils]), (9, byO ((byD b).take i.1))]) (fun _ => [(31, [.c 9 0])]) (fun i => b.vars.length - i.1) ⟨0, by simp⟩ (by simp) ?_
  · rintro ⟨i, hi⟩
    by_cases hlt : i < b.vars.length
    · have hg := vrs_get hlt
      have hw := wrap64s (show i < 9223372036854775807 by omega)
      have hvl := hv b.vars[i] (List.getElem_mem hlt)
      refine SW.seqq (SW.vk ?_)
      simp [hlt]
      refine SW.seqq (SW.vk ?_)
      simp
      refine SW.seqq ?_
      refine SW.blockq ?_
      refine SW.seqq (SW.vk ?_)
      simp [hlt, hg]
      refine region_append_ok (m := 10) (t := 29) (e := 31) (s := 23) (z := 32) (r := 33) (p := 34) (q := 31) (x := 30) (b := 9) rfl rfl rfl rfl (by kernel_rfl) (by kernel_rfl) rfl (by simp) ?_
      have s1 : b.name.length ≤ 9223372036854775806 := by omega
      have s2 : b.name.length + 1 + b.vars[i].1.length ≤ 9223372036854775807 := by omega
      simp [s1, s2]
      repeat (refine stepK_len (by omega) ?_; simp)
      refine ⟨_, _, _, _, _, by simp, rfl, rfl, ?_, rfl, rfl, ?_, ?_, rfl, rfl, rfl, ?_⟩
      · exact byD_four b i
      · simp [byD_len]; omega
      · simp [byD_len, hi]
      refine SW.vk ?_
      simp
      exact Again.mk ⟨i + 1, hlt⟩ (by simp [hw, byD_step b hlt]) (by simp; omega)
    · have : i = b.vars.length := by omega
      subst this
      have hby : List.take b.vars.length (byD b) = byD b := List.take_of_length_le (by rw [byD_len]; exact Nat.le_refl _)
      refine SW.seqq (SW.vk ?_)
      simp
      refine SW.seqq (SW.vk ?_)
      simp [hby]
      refine SW.seqq (SW.vk ?_)
      simp
      refine callK.mk ent_bounds_variables hva ?_
      simp
      refine SW.seqq (SW.vk ?_)
      simp
      refine SW.dropOwn (by simp) ?_
      refine SW.vk ?_
      simp
      refine ⟨lexOk.mk (by kernel_rfl), ?_⟩
      refine callHK.ro ent_obl1 c1 [(100000, 12), (100001, 9), (100002, 5), (100003, 6)] (by simp) (by simp) (by simp) (by simp) (by simp) ?_
      simp
      refine callHK.ro ent_obl1 c2 [(100000, 12), (100001, 9), (100002, 5), (100003, 6)] (by simp) (by simp) (by simp) (by simp) (by simp) ?_
      simp
      have hw0 : IntKind.i64.wrap ((b.vars.length : Int) - 1) = (b.vars.length : Int) - 1 := wrap64 (by omega)
      refine SW.loopF (ι := { i : Nat // i ≤ b.vars.length }) (fun i => [(15, .d (.int .i64 ((i.1 : Int) - 1)))]) (fun i => [(4, bdO b), (8, .cells [.d (.int .i64 0), .d (.str []), .d (.str []), .d (.int .i64 0), .d (.str []), .d (.int .i64 0), .d .nils, .d (.int .i64 0), .d .nils]), (9, byO (byD b)), (14, rwO b (putP b abs hs b.hyp) (.sl [[.int .i64 3, .str [], .str [], .int .i64 (putP b abs hs b.goal).op, .str (putP b abs hs b.goal).name, .int .i64 (putP b abs hs b.goal).n, .sl ((putP b abs hs b.goal).kids.map prC), .int .i64 tag, .nils]]) (b.vars.drop i.1))]) (fun _ => []) (fun i => i.1) ⟨b.vars.length, Nat.le_refl _⟩ (by simp [hw0, rwN, rwS, rwP, rwK, rwL]) ?_
      rintro ⟨k, hk⟩
      cases k with
      | succ j =>
        have hlt : j < b.vars.length := hk
        have hg := vrs_get hlt
        have hg2 := byD_get b hlt
        have hw1 : IntKind.i64.wrap ((j : Int) - 1) = (j : Int) - 1 := wrap64 (by omega)
        have hd : b.vars.drop j = b.vars[j] :: b.vars.drop (j + 1) := List.drop_eq_getElem_cons hlt
        have e1 : rwN b (b.vars.drop j) = b.name ++ 46 :: b.vars[j].1 := by rw [hd]; rfl
        have e2 : rwS (b.vars.drop j) = b.vars[j].2 := by rw [hd]; rfl
        have e3 : ∀ q, rwP q (b.vars.drop j) = zerP := fun q => by rw [hd]; rfl
        have e4 : ∀ q, rwK q (b.vars.drop j) = .nils := fun q => by rw [hd]; rfl
        have e5 : ∀ q e, rwL b q e (b.vars.drop j) = .sl [rwC b q e (b.vars.drop (j + 1))] := fun q e => by rw [hd]; rfl
        clear hd
        simp [hg, byD_getE, hlt, byD_len]
        refine ⟨lexOk.mk (by kernel_rfl), ?_⟩
        exact Again.mk ⟨j, by omega⟩ (by simp [hw1, e1, e2, e3, e4, e5, zerP]) (by simp)
      | zero =>
        have hfin := rw_wk b (putP b abs hs b.hyp) (.sl [[.int .i64 3, .str [], .str [], .int .i64 (putP b abs hs b.goal).op, .str (putP b abs hs b.goal).name, .int .i64 (putP b abs hs b.goal).n, .sl ((putP b abs hs b.goal).kids.map prC), .int .i64 tag, .nils]]) [⟨3, [], [], putP b abs hs b.goal, tag, []⟩] (by simp) b.vars
        rw [cnC_eq] at hfin
        simp [oblC] at hfin ⊢
        exact hfin
end Go.Proofs.YthikbenglkfioaaDoor
