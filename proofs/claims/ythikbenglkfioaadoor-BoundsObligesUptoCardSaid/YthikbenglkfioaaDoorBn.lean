/- Bounds: the walks of the reference's obligations. No condition. -/
import Derived.Test.YthikbenglkfioaaDoorBf
import Derived.Test.YthikbenglkfioaaDoorVmW
set_option linter.unusedVariables false
set_option linter.unusedSimpArgs false
set_option linter.unusedSectionVars false
namespace Go.Proofs.YthikbenglkfioaaDoor
open Go Go.VM
set_option maxRecDepth 100000
set_option maxHeartbeats 2000000
variable {G : GT}
theorem ent_r35_place : VM.Enters Tryd.prog 86 := VM.Enters.mk Tryd.func86 rfl
theorem r35_place_cs (l : List Vr) (nm : Nm) (hl : l.length ≤ 900000000) : CS Tryd.prog G 86 [.sl (l.map vrC), .str nm] (.d (.int .i64 (absI l nm))) none := by
  refine CS.of_VK Tryd.func86 rfl Tryd.ntmps86 rfl ?_
  simp
  refine SW.loopF (ι := { i : Nat // i ≤ l.length ∧ findI nm ((l.map (·.1)).drop i) i = absI l nm }) (fun i => [(9, .d (.int .i64 i.1))]) (fun _ => []) (fun _ => []) (fun i => l.length - i.1) ⟨0, by simp [absI]⟩ (by simp) ?_
  rintro ⟨i, hi, hR⟩
  try simp only at hi hR
  by_cases hlt : i < l.length
  · have hg := vrs_get hlt
    have hw := wrap64s (show i < 9223372036854775807 by omega)
    rw [absI_step hlt] at hR
    by_cases he : l[i].1 = nm
    · rw [if_pos he] at hR
      have hR2 := hR.symm
      simp [hlt, hg, he, hR2]
    · rw [if_neg he] at hR
      simp [hlt, hg, he]
      exact Again.mk ⟨i + 1, hlt, hR⟩ (by simp [hw]) (by simp; omega)
  · have : i = l.length := by omega
    subst this
    have hd : (l.map (·.1)).drop l.length = [] := by simp
    rw [hd] at hR
    simp [findI] at hR
    simp [hR]
theorem absI_lt (l : List Vr) (nm : Nm) : absI l nm < l.length := by
  have : ∀ (l : List Nm) (j : Nat), findI nm l j < ((j + l.length : Nat) : Int) ∨ findI nm l j = -1 := by
    intro l
    induction l with
    | nil => intro j; right; rfl
    | cons a r ih =>
      intro j
      unfold findI
      split
      · left; simp; omega
      · rcases ih (j + 1) with h | h
        · left; simp at h ⊢; omega
        · right; exact h
  have := this (l.map (·.1)) 0
  unfold absI
  simp at this
  omega
def rawVs (l : List Vr) : List (List D) := l.map fun v => [.int .i64 3, .str v.1, .int .i64 0, .nils]
theorem rawVs_wk (l : List Vr) : WkLL (rawVs l) ((l.map varP).map prC) := by
  unfold rawVs
  induction l with
  | nil => simp
  | cons v r ih =>
    simp only [List.map_cons, WkLL_cons]
    exact ⟨by simp [varP], ih⟩
theorem WkLL_app {a b c d : List (List D)} (h1 : WkLL a b) (h2 : WkLL c d) : WkLL (a ++ c) (b ++ d) := by
  refine ⟨by simp [h1.1, h2.1], fun i x y hx hy => ?_⟩
  by_cases hi : i < a.length
  · rw [List.getElem?_append_left hi] at hx
    rw [List.getElem?_append_left (by rw [← h1.1]; exact hi)] at hy
    exact h1.2 i x y hx hy
  · rw [List.getElem?_append_right (by omega)] at hx
    rw [List.getElem?_append_right (by rw [← h1.1]; omega)] at hy
    rw [← h1.1] at hy
    exact h2.2 _ x y hx hy
theorem rawVs_four (l : List Vr) : ∀ c : List D, c ∈ rawVs l → c.length = 4 := fun c hc => by
  obtain ⟨v, _, rfl⟩ := List.mem_map.1 hc
  rfl
theorem rawVs_step {l : List Vr} {i : Nat} (h : i < l.length) : rawVs (l.take (i + 1)) = rawVs (l.take i) ++ [[.int .i64 3, .str l[i].1, .int .i64 0, .nils]] := by
  simp [rawVs, take_map_step _ h]
theorem build_run {a : Act} {w : World} {nm ks : Operand} {o : Oper} (ho : o.op = .build 31 #[(0, .const (.int .i64 5)), (1, nm), (3, ks)]) (hns : ∃ s, a.eval nm = .string s) (hks : ∃ ao n c, a.eval ks = .slice ao n c) : ∃ cs : Array Value, (execOp a.eval o).run Tryd.prog w = .ok (.value (.agg cs)) w ∧ cs[3]? = some (a.eval ks) ∧ cs.size = Tryd.prog.cellsOf 31 := by
  obtain ⟨s, hs⟩ := hns
  obtain ⟨ao, n, c, hk⟩ := hks
  have hz : (Tryd.prog.info? 31).bind (·.zero) = some (.agg #[.int .i64 0, .string ⟨#[]⟩, .int .i64 0, .slice none 0 0]) := by kernel_rfl
  obtain ⟨i, hi, hz⟩ := Option.bind_eq_some_iff.1 hz
  refine ⟨#[.int .i64 5, .string s, .int .i64 0, .slice ao n c], ?_, by rw [hk]; rfl, by kernel_rfl⟩
  simp [execOp, ho, Instr.build, zeroValue, typeInfo, hi, hz]
  rw [hs, hk]
  rfl
theorem tail_lt {α : Type} {l : List α} {j : Nat} (h : j < l.tail.length) : j + 1 < l.length := by simp at h; omega
theorem tail_ge {α : Type} {l : List α} : ¬ l.length - 1 + 1 < l.length := by omega
theorem tail_wrap {j n : Nat} (h : j < n) (hn : n ≤ 900000000) : IntKind.i64.wrap ((j : Int) + 1 + 1) = ((j + 1 : Nat) : Int) + 1 := by rw [wrap64 (by omega)]; omega
theorem tail_size {j n : Nat} (h : j < n) (hn : n ≤ 900000000) : (1 + j + 1) * 57 ≤ 140737488355328 ∧ (j + 1 + 1) * 57 ≤ 140737488355328 := by omega
theorem rawVs_len {l : List Vr} {j : Nat} (h : j ≤ l.length) : (rawVs (l.take j)).length = j := by simp [rawVs]; omega
theorem ent_r35_Pred : VM.Enters Tryd.prog 47 := VM.Enters.mk Tryd.func47 rfl
theorem r35_Pred_cs (abs : List Vr) (hs : List Ho) (hl : abs.length ≤ 900000000) (hh : hs.length ≤ 900000000) (hpp : ∀ h ∈ hs, h.2.length ≤ 900000000) : ∀ p : Pr, nodP p ≤ 900000000 →
    CS Tryd.prog G 47 [.agg (prD p), .sl (abs.map vrC), .sl (hs.map hoC)] (.d (.agg (prD (absP abs hs p)))) none := by
  refine Pr.ind fun p ih => ?_
  intro hN
  obtain ⟨op, nm, n, l⟩ := p
  simp only at ih
  have hn := nodP_kids ⟨op, nm, n, l⟩
  have hm := absP_eq abs hs ⟨op, nm, n, l⟩
  simp only at hn hm
  have hll := len_le_nodPs l
  have hpl := r35_place_cs (G := G) abs nm hl
  refine CS.of_SWK Tryd.func47 rfl Tryd.ntmps47 rfl ?_
  refine SW.seqq (SW.vk ?_)
  simp
  refine SW.seqq (SW.vk ?_)
  simp
  refine SW.seqq (SW.vk ?_)
  simp
  refine SW.loopF (ι := { i : Nat // i ≤ l.length }) (fun i => [(22, .d (.int .i64 i.1))]) (fun i => [(3, prO op nm n (.sl (l.map prC))), (6, prO 0 [] 0 .nils), (7, prO op nm n (.sl (((l.take i.1).map (absP abs hs)).map prC)))]) (fun _ => [(31, [.c 7 3])]) (fun i => l.length - i.1) ⟨0, by simp⟩ (by simp) ?_
  rintro ⟨i, hi⟩
  by_cases hlt : i < l.length
  · have hg := prs_get hlt
    have hw := wrap64s (show i < 9223372036854775807 by omega)
    have hsz : (i + 1) * 57 ≤ 140737488355328 := by omega
    have hc := ih l[i] (List.getElem_mem hlt) (by have := nodPs_mem (List.getElem_mem hlt); omega)
    simp [hlt, hg]
    refine ⟨lexOk.mk (by kernel_rfl), ?_⟩
    refine callK.mk ent_r35_Pred hc ?_
    simp [hsz, hi]
    exact Again.mk ⟨i + 1, hlt⟩ (by simp [hw, take_map_step _ hlt]) (by simp; omega)
  have : i = l.length := by omega
  subst this
  have htk : List.take l.length (List.map (absP abs hs) l) = List.map (absP abs hs) l := List.take_of_length_le (by simp)
  simp
  refine SW.seqq (SW.vk ?_)
  simp
  refine callK.mk ent_r35_place hpl ?_
  simp
  unfold nodeA holeAt at hm
  generalize absI abs nm = ix at hm
  by_cases h4 : op = 4
  rotate_left
  · rw [if_neg (fun h => h4 h.1)] at hm
    refine SW.vk ?_
    rw [hm]
    simp [h4]
  subst h4
  by_cases h1 : l.length = 1
  rotate_left
  · rw [if_neg (fun h => h1 (by simpa using h.2))] at hm
    have h1' : ¬ ((l.length : Int) = 1) := by omega
    refine SW.vk ?_
    rw [hm]
    simp [h1, h1']
  obtain ⟨k0, rfl⟩ := List.length_eq_one_iff.1 h1
  rw [if_pos ⟨rfl, rfl⟩] at hm
  by_cases hx : 0 ≤ ix
  rotate_left
  · rw [if_neg hx] at hm
    have hx2 : ix < 0 := by omega
    refine SW.vk ?_
    rw [hm]
    simp [hx2]
  obtain ⟨k, rfl⟩ := Int.eq_ofNat_of_zero_le hx
  rw [if_pos hx] at hm
  by_cases hk : k < hs.length
  rotate_left
  · have hk2 : hs.length ≤ k := by omega
    simp [hk2] at hm
    refine SW.vk ?_
    rw [hm]
    simp [hk2]
  have hk2 : ¬ hs.length ≤ k := by omega
  have hgh := hos_get hk
  obtain ⟨h, hh'⟩ : ∃ h, hs[k] = h := ⟨_, rfl⟩
  have hpl2 := hpp h (hh' ▸ List.getElem_mem hk)
  simp [hk, hh'] at hm
  rw [hh'] at hgh
  rw [hm]
  refine SW.seqq (SW.vk ?_)
  simp [hk2]
  refine SW.seqq ?_
  refine region_build (m := 7) 66 3 rfl rfl (by kernel_rfl) (by simp [fakeOps]) (by decide) (by decide +kernel) ?_
  simp [fakeOps, hk, hgh, hh']
  refine ⟨_, _, _, _, by simp, rfl, rfl, rfl, rfl, ⟨_, rfl⟩, ?_, rfl, ?_⟩
  · intro o ho base R μ a w hr
    refine build_run ho ?_ ?_
    · exact ⟨_, hr.evalStr (s := h.1) rfl⟩
    · obtain ⟨ao, cap, h1, _⟩ := asSl_spec (ys := [[.int .i64 (absP abs hs k0).op, .str (absP abs hs k0).name, .int .i64 (absP abs hs k0).n, .sl ((absP abs hs k0).kids.map prC)]]) hr (x := .tmp 66) rfl
      exact ⟨_, _, _, h1⟩
  simp
  generalize absP abs hs k0 = q0
  refine SW.vk ?_
  simp
  refine SW.loopF (ι := { j : Nat // j ≤ h.2.tail.length }) (fun j => [(11, .d (.int .i64 ((j.1 : Int) + 1)))]) (fun j => [(6, prO 0 [] 0 .nils), (7, prO 5 h.1 0 (.sl ([prD q0] ++ rawVs (h.2.tail.take j.1))))]) (fun _ => [(31, [.c 7 3])]) (fun j => h.2.tail.length - j.1) ⟨0, by simp⟩ (by simp [rawVs]) ?_
  rintro ⟨j, hj⟩
  have htl2 := rawVs_len hj
  have hle : h.2.tail.length ≤ 900000000 := Nat.le_trans (by simp) hpl2
  by_cases hjl : j < h.2.tail.length
  · have hj1 := tail_lt hjl
    have hgj := vrs_get hj1
    have hw1 := tail_wrap hjl hle
    have hfo := eq_true (rawVs_four (h.2.tail.take j))
    obtain ⟨hsz, hsz2⟩ := tail_size hjl hle
    have hst := rawVs_step hjl
    have hte : h.2.tail[j] = h.2[j + 1] := by simp
    rw [hte] at hst
    simp [hk, hgh, hh', hj1, hgj]
    refine ⟨lexOk.mk (by kernel_rfl), ?_⟩
    simp [hfo, htl2, hsz, hsz2]
    exact Again.mk ⟨j + 1, hjl⟩ (by simp [hw1, hst]) (by simp; omega)
  · have : j = h.2.tail.length := Nat.le_antisymm hj (Nat.le_of_not_lt hjl)
    subst this
    have hj1 := tail_ge (l := h.2)
    have hfin := rawVs_wk h.2.tail
    have hta : List.take (h.2.length - 1) h.2.tail = h.2.tail := List.take_of_length_le (by simp)
    simp at hfin
    simp [hk, hgh, hh', hj1, hfin, hta]
/-! ### Obligations -/
theorem ent_r36_Obligation : VM.Enters Tryd.prog 12 := VM.Enters.mk Tryd.func12 rfl
theorem r36_Obligation_cs (b : Bd) (abs : List Vr) (hs : List Ho) (tag : Int) (h0 : b.vars.length ≤ 1000000) (hl : abs.length ≤ 900000000) (hh : hs.length ≤ 900000000) (hpp : ∀ h ∈ hs, h.2.length ≤ 900000000) (h1 : nodP b.hyp ≤ 900000000) (h2 : nodP b.goal ≤ 900000000)
    (hn : b.name.length ≤ 900000000) (hv : ∀ v ∈ b.vars, v.1.length ≤ 900000000) :
    CS Tryd.prog G 12 [.agg (bdC b), .sl (abs.map vrC), .sl (hs.map hoC), .int .i64 tag] (.d (.agg (cnD (oblC b abs hs tag)))) none := by
  have hva := r36_names_cs (G := G) b.vars (by omega)
  have sub : ∀ p : Pr, nodP p ≤ 900000000 → CS Tryd.prog G 48 [.agg (prD p), .sl (strs (bdN b)), .sl (byD b)] (.d (.agg (prD (substP (bdN b) (byP b) p)))) none ∧ CS Tryd.prog G 47 [.agg (prD (substP (bdN b) (byP b) p)), .sl (abs.map vrC), .sl (hs.map hoC)] (.d (.agg (prD (putP b abs hs p)))) none := fun p hp => by
    have hs1 := r7_SubstAll_cs (G := G) (bdN b) (byP b) (by simpa using h0) (by rw [byP_len]; omega) p hp
    have hs2 := r35_Pred_cs (G := G) abs hs hl hh hpp (substP (bdN b) (byP b) p) (Nat.le_trans (subst_nod (by_leaf b) p) hp)
    exact ⟨CS.args hs1 (by simp [byD_wk]), hs2⟩
  obtain ⟨a1, a2⟩ := sub b.hyp h1
  obtain ⟨a3, a4⟩ := sub b.goal h2
  refine CS.of_VK Tryd.func12 rfl Tryd.ntmps12 rfl ?_
  simp
  refine SW.loopF (ι := { i : Nat // i ≤ b.vars.length }) (fun i => [(9, .d (.sl ((byD b).take i.1))), (10, .d (.int .i64 i.1))]) (fun _ => [(4, bdO b), (8, .cells [.d (.int .i64 0), .d (.str []), .d (.str []), .d (.int .i64 0), .d (.str []), .d (.int .i64 0), .d .nils, .d (.int .i64 0), .d .nils])]) (fun _ => [(31, [.t 9])]) (fun i => b.vars.length - i.1) ⟨0, by simp⟩ (by simp) ?_
  rintro ⟨i, hi⟩
  by_cases hlt : i < b.vars.length
  · have hg := vrs_get hlt
    have hw := wrap64s (show i < 9223372036854775807 by omega)
    have hvl := hv b.vars[i] (List.getElem_mem hlt)
    have s1 : b.name.length ≤ 9223372036854775806 := by omega
    have hfo := eq_true (byD_four b i)
    have hsz : (i + 1) * 57 ≤ 140737488355328 := by omega
    simp [hlt, hg, s1]
    refine ⟨lexOk.mk (by kernel_rfl), ?_⟩
    refine stepK_len (by omega) ?_
    simp [hfo, byD_len, hi, hsz]
    exact Again.mk ⟨i + 1, hlt⟩ (by simp [hw, byD_step b hlt]) (by simp; omega)
  have : i = b.vars.length := by omega
  subst this
  have hby : List.take b.vars.length (byD b) = byD b := List.take_of_length_le (by rw [byD_len]; exact Nat.le_refl _)
  simp [hby]
  refine ⟨lexOk.mk (by kernel_rfl), ?_⟩
  refine callK.mk ent_r36_names hva ?_
  simp
  refine callK.mk ent_r7_SubstAll a1 ?_
  simp
  refine callK.mk ent_r35_Pred a2 ?_
  simp
  refine ⟨lexOk.mk (by kernel_rfl), ?_⟩
  refine callK.mk ent_r36_names hva ?_
  simp
  refine callK.mk ent_r7_SubstAll a3 ?_
  simp
  refine callK.mk ent_r35_Pred a4 ?_
  simp
  have hw0 : IntKind.i64.wrap ((b.vars.length : Int) - 1) = (b.vars.length : Int) - 1 := wrap64 (by omega)
  refine SW.loopF (ι := { i : Nat // i ≤ b.vars.length }) (fun i => [(14, .d (.int .i64 ((i.1 : Int) - 1)))]) (fun i => [(4, bdO b), (8, .cells [.d (.int .i64 0), .d (.str []), .d (.str []), .d (.int .i64 0), .d (.str []), .d (.int .i64 0), .d .nils, .d (.int .i64 0), .d .nils]), (13, rwO b (putP b abs hs b.hyp) (.sl [[.int .i64 3, .str [], .str [], .int .i64 (putP b abs hs b.goal).op, .str (putP b abs hs b.goal).name, .int .i64 (putP b abs hs b.goal).n, .sl ((putP b abs hs b.goal).kids.map prC), .int .i64 tag, .nils]]) (b.vars.drop i.1))]) (fun _ => []) (fun i => i.1) ⟨b.vars.length, Nat.le_refl _⟩ (by simp [hw0, rwN, rwS, rwP, rwK, rwL]) ?_
  rintro ⟨k, hk⟩
  cases k with
  | succ j =>
    have hlt : j < b.vars.length := hk
    have hg := vrs_get hlt
    have hw1 : IntKind.i64.wrap ((j : Int) - 1) = (j : Int) - 1 := wrap64 (by omega)
    have hd : b.vars.drop j = b.vars[j] :: b.vars.drop (j + 1) := List.drop_eq_getElem_cons hlt
    have e1 : rwN b (b.vars.drop j) = b.name ++ 46 :: b.vars[j].1 := by rw [hd]; rfl
    have e2 : rwS (b.vars.drop j) = b.vars[j].2 := by rw [hd]; rfl
    have e3 : ∀ q, rwP q (b.vars.drop j) = zerP := fun q => by rw [hd]; rfl
    have e4 : ∀ q, rwK q (b.vars.drop j) = .nils := fun q => by rw [hd]; rfl
    have e5 : ∀ q e, rwL b q e (b.vars.drop j) = .sl [rwC b q e (b.vars.drop (j + 1))] := fun q e => by rw [hd]; rfl
    clear hd
    simp [hg, byD_getE, hlt, byD_len]
    refine ⟨lexOk.mk (by kernel_rfl), ?_⟩
    exact Again.mk ⟨j, by omega⟩ (by simp [hw1, e1, e2, e3, e4, e5, zerP]) (by simp)
  | zero =>
    have hfin := rw_wk b (putP b abs hs b.hyp) (.sl [[.int .i64 3, .str [], .str [], .int .i64 (putP b abs hs b.goal).op, .str (putP b abs hs b.goal).name, .int .i64 (putP b abs hs b.goal).n, .sl ((putP b abs hs b.goal).kids.map prC), .int .i64 tag, .nils]]) [⟨3, [], [], putP b abs hs b.goal, tag, []⟩] (by simp) b.vars
    rw [cnC_eq] at hfin
    simp [oblC] at hfin ⊢
    exact hfin
end Go.Proofs.YthikbenglkfioaaDoor
