/- The statement PredtextRoundTrip: its function gives true. No condition. -/
import Derived.Test.YtlglfkdjlbcpjaaGreatDoorQn
import Derived.Test.YtlglfkdjlbcpjaaGreatDoorZE
set_option linter.unusedVariables false
set_option linter.unusedSimpArgs false
set_option linter.unusedSectionVars false
namespace Go.Proofs.YtlglfkdjlbcpjaaGreatDoor
open Go Go.VM
set_option maxRecDepth 100000
set_option maxHeartbeats 8000000
variable {G : GT}
/-! ### Numbers in names -/
/-- How many digits stand behind a place, if a point stands there. -/
def dgAt (nm : List UInt8) (i : Nat) : Nat := if nm[i]? = some 46 then ((nm.drop (i + 1)).takeWhile dgU).length else 0
theorem dots_drop {nm : List UInt8} {i : Nat} (h : i < nm.length) : dots (nm.drop i) = (decide (12 < dgAt nm i) || dots (nm.drop (i + 1))) := by
  rw [List.drop_eq_getElem_cons h, dots]
  unfold dgAt
  rw [List.getElem?_eq_getElem h]
  by_cases hc : nm[i] = 46
  · simp [hc]
  · simp [hc]
theorem tw_lt {f : UInt8 → Bool} : ∀ {l : List UInt8} {n : Nat}, n < (l.takeWhile f).length → ∃ h : n < l.length, f l[n] = true
  | c :: l, n, h => by
    rw [List.takeWhile_cons] at h
    split at h
    · rename_i hc
      cases n with
      | zero => exact ⟨by simp, hc⟩
      | succ n =>
        obtain ⟨h1, h2⟩ := tw_lt (l := l) (n := n) (by simpa using h)
        exact ⟨by simpa using h1, by simpa using h2⟩
    · simp at h
theorem tw_at {f : UInt8 → Bool} : ∀ {l : List UInt8}, (h : (l.takeWhile f).length < l.length) → f l[(l.takeWhile f).length] = false
  | c :: l, h => by
    by_cases hc : f c = true
    · have e : (c :: l).takeWhile f = c :: l.takeWhile f := takeWhile_head hc
      simp only [e, List.length_cons, List.getElem_cons_succ]
      exact tw_at (l := l) _
    · have e : (c :: l).takeWhile f = [] := by rw [List.takeWhile_cons, if_neg hc]
      simp only [e, List.length_nil, List.getElem_cons_zero]
      simpa using hc
theorem dgAt_lt {nm : List UInt8} {i n : Nat} (h : n < dgAt nm i) : nm[i]? = some 46 ∧ ∃ h : i + 1 + n < nm.length, 48 ≤ (nm[i + 1 + n]).toNat ∧ (nm[i + 1 + n]).toNat ≤ 57 := by
  unfold dgAt at h
  split at h
  · rename_i hc
    obtain ⟨h1, h2⟩ := tw_lt h
    rw [List.length_drop] at h1
    rw [List.getElem_drop] at h2
    exact ⟨hc, by omega, by simpa [dgU] using h2⟩
  · omega
theorem dgAt_end {nm : List UInt8} {i : Nat} (hi : i < nm.length) : nm.length ≤ i + 1 + dgAt nm i ∨ nm[i] ≠ 46 ∨ ∃ h : i + 1 + dgAt nm i < nm.length, ((nm[i + 1 + dgAt nm i]).toNat < 48 ∨ 57 < (nm[i + 1 + dgAt nm i]).toNat) := by
  by_cases hc : nm[i] = 46
  · have e : dgAt nm i = ((nm.drop (i + 1)).takeWhile dgU).length := by
      unfold dgAt
      rw [List.getElem?_eq_getElem hi, hc, if_pos rfl]
    by_cases hlt : i + 1 + dgAt nm i < nm.length
    · have h1 := tw_at (f := dgU) (l := nm.drop (i + 1)) (by rw [List.length_drop]; omega)
      rw [List.getElem_drop] at h1
      simp only [← e] at h1
      refine .inr (.inr ⟨hlt, ?_⟩)
      simp only [dgU, decide_eq_false_iff_not] at h1
      omega
    · exact .inl (by omega)
  · exact .inr (.inl hc)
theorem largeBs_drop {l : List Pr} {i : Nat} (h : i < l.length) : largeBs (l.drop i) = (largeB l[i] || largeBs (l.drop (i + 1))) := by
  rw [List.drop_eq_getElem_cons h, largeBs]
theorem ent_l8_large : VM.Enters Tryz.prog 20 := VM.Enters.mk Tryz.func20 rfl
theorem l8_large_cs (p : Pr) : wgP p ≤ 100000000 → CS Tryz.prog G 20 [.agg (prD p)] (.d (.bool (largeB p))) none := by
  revert p
  refine Pr.ind fun p ih => ?_
  obtain ⟨op, nm, n, ks⟩ := p
  intro hw0
  simp only at ih
  simp only [wgP] at hw0
  have hlen := len_le_wg ks
  obtain ⟨T, hT⟩ : ∃ T, largeB ⟨op, nm, n, ks⟩ = T := ⟨_, rfl⟩
  rw [hT]
  rw [largeB] at hT
  refine CS.of_VK Tryz.func20 rfl Tryz.ntmps20 rfl ?_
  simp
  refine SW.loopF (ι := { i : Nat // i ≤ nm.length ∧ (dots (nm.drop i) || largeBs ks) = T }) (fun i => [(3, .d (.int .i64 i.1))]) (fun _ => [(1, .cells [.d (.int .i64 op), .d (.str nm), .d (.int .i64 n), .d (.sl (ks.map prC))])]) (fun _ => []) (fun i => nm.length - i.1) ⟨0, by simpa using hT⟩ (by simp) ?_
  rintro ⟨i, hi, hR⟩
  try simp only at hi hR
  by_cases hlt : i < nm.length
  · have hw := wrap64s (show i < 9223372036854775807 by omega)
    rw [dots_drop hlt] at hR
    have hend := dgAt_end hlt
    have hlim : i + 1 + dgAt nm i ≤ nm.length ∨ dgAt nm i = 0 := by
      by_cases h0 : dgAt nm i = 0
      · exact .inr h0
      · obtain ⟨_, h1, _⟩ := dgAt_lt (nm := nm) (i := i) (n := dgAt nm i - 1) (by omega)
        exact .inl (by omega)
    have hsm : dgAt nm i ≤ nm.length := by omega
    obtain ⟨W, hW⟩ : ∃ W, dgAt nm i = W := ⟨_, rfl⟩
    simp [hlt]
    refine SW.loopF (ι := { m : Nat // m ≤ dgAt nm i }) (fun m => [(4, .d (.int .i64 m.1))]) (fun _ => [(1, .cells [.d (.int .i64 op), .d (.str nm), .d (.int .i64 n), .d (.sl (ks.map prC))])]) (fun _ => []) (fun m => dgAt nm i - m.1) ⟨0, by omega⟩ (by simp) ?_
    rintro ⟨m, hm⟩
    have hwm := wrap64s (show m < 9223372036854775807 by omega)
    have hwi : IntKind.i64.wrap ((i : Int) + 1 + m) = ((i + 1 + m : Nat) : Int) := by rw [wrap64 (by omega)]; simp
    by_cases hml : m < dgAt nm i
    · obtain ⟨h46, h1, h2, h3⟩ := dgAt_lt hml
      rw [List.getElem?_eq_getElem hlt, Option.some.injEq] at h46
      have g1 : (i : Int) + 1 + m < nm.length := by omega
      have g2 : (48 : Int) ≤ (nm[i + 1 + m]).toNat := by omega
      have g3 : ((nm[i + 1 + m]).toNat : Int) ≤ 57 := by omega
      have g0 : (0 : Int) ≤ (i : Int) + 1 + m := by omega
      have gn : ((i : Int) + 1 + m).toNat = i + 1 + m := by omega
      have n46 : (nm[i]).toNat = 46 := by rw [h46]; rfl
      simp [hw, hwi, hlt, h46, n46, h1, g0, g1, gn, g2, g3, h2, h3]
      exact Again.mk ⟨m + 1, hml⟩ (by simp [hwm]) (by simp; omega)
    · have hme : m = dgAt nm i := by omega
      rw [← hme] at hend hR
      by_cases c1 : nm.length ≤ i + 1 + m
      · have g1 : ¬ (i : Int) + 1 + m < nm.length := by omega
        simp [hw, hwi, hlt, g1]
        by_cases h12 : 12 < m
        · have h12' : (12 : Int) < m := by omega
          simp [h12] at hR
          subst hR
          simp [h12, h12']
        · have h12' : ¬ (12 : Int) < m := by omega
          simp [h12] at hR
          simp [h12, h12']
          exact Again.mk ⟨i + 1, hlt, by simpa using hR⟩ (by simp [hw]) (by simp; omega)
      have h1 : i + 1 + m < nm.length := by omega
      have g1 : (i : Int) + 1 + m < nm.length := by omega
      have g0 : (0 : Int) ≤ (i : Int) + 1 + m := by omega
      have gn : ((i : Int) + 1 + m).toNat = i + 1 + m := by omega
      by_cases c2 : nm[i] = 46
      · have n46 : (nm[i]).toNat = 46 := by rw [c2]; rfl
        have hd : (nm[i + 1 + m]).toNat < 48 ∨ 57 < (nm[i + 1 + m]).toNat := by
          rcases hend with h | h | ⟨_, h⟩
          · exact absurd h c1
          · exact absurd c2 h
          · exact h
        rcases hd with hd | hd
        · have g2 : ¬ (48 : Int) ≤ (nm[i + 1 + m]).toNat := by omega
          have g2' : ¬ 48 ≤ (nm[i + 1 + m]).toNat := by omega
          simp [hw, hwi, hlt, c2, n46, h1, g0, g1, gn, g2, g2']
          by_cases h12 : 12 < m
          · have h12' : (12 : Int) < m := by omega
            simp [h12] at hR
            subst hR
            simp [h12, h12']
          · have h12' : ¬ (12 : Int) < m := by omega
            simp [h12] at hR
            simp [h12, h12']
            exact Again.mk ⟨i + 1, hlt, by simpa using hR⟩ (by simp [hw]) (by simp; omega)
        · have g2 : (48 : Int) ≤ (nm[i + 1 + m]).toNat := by omega
          have g2' : 48 ≤ (nm[i + 1 + m]).toNat := by omega
          have g3 : ¬ ((nm[i + 1 + m]).toNat : Int) ≤ 57 := by omega
          have g3' : ¬ (nm[i + 1 + m]).toNat ≤ 57 := by omega
          simp [hw, hwi, hlt, c2, n46, h1, g0, g1, gn, g2, g2', g3, g3']
          by_cases h12 : 12 < m
          · have h12' : (12 : Int) < m := by omega
            simp [h12] at hR
            subst hR
            simp [h12, h12']
          · have h12' : ¬ (12 : Int) < m := by omega
            simp [h12] at hR
            simp [h12, h12']
            exact Again.mk ⟨i + 1, hlt, by simpa using hR⟩ (by simp [hw]) (by simp; omega)
      · have n46 : ¬ (nm[i]).toNat = 46 := fun e => c2 (UInt8.toNat_inj.1 e)
        have n46' : ¬ ((nm[i]).toNat : Int) = 46 := by omega
        simp [hw, hwi, hlt, g1, c2, n46, n46']
        by_cases h12 : 12 < m
        · have h12' : (12 : Int) < m := by omega
          simp [h12] at hR
          subst hR
          simp [h12, h12']
        · have h12' : ¬ (12 : Int) < m := by omega
          simp [h12] at hR
          simp [h12, h12']
          exact Again.mk ⟨i + 1, hlt, by simpa using hR⟩ (by simp [hw]) (by simp; omega)
  · have hie : i = nm.length := by omega
    subst hie
    rw [List.drop_length, dots, Bool.false_or] at hR
    simp
    refine SW.loopF (ι := { i : Nat // i ≤ ks.length ∧ largeBs (ks.drop i) = T }) (fun i => [(5, .d (.int .i64 i.1))]) (fun _ => [(1, .cells [.d (.int .i64 op), .d (.str nm), .d (.int .i64 n), .d (.sl (ks.map prC))])]) (fun _ => []) (fun i => ks.length - i.1) ⟨0, by simpa using hR⟩ (by simp) ?_
    rintro ⟨i, hi, hR⟩
    try simp only at hi hR
    by_cases hlt : i < ks.length
    · have hg := prs_get hlt
      have hw := wrap64s (show i < 9223372036854775807 by omega)
      have hk := wgPs_mem (List.getElem_mem hlt)
      have hc := ih ks[i] (List.getElem_mem hlt) (by omega)
      rw [largeBs_drop hlt] at hR
      simp [hlt, hg]
      refine callK.mk ent_l8_large hc ?_
      cases hb : largeB ks[i] with
      | true =>
        rw [hb] at hR
        simp at hR
        subst hR
        simp
      | false =>
        rw [hb, Bool.false_or] at hR
        simp
        exact Again.mk ⟨i + 1, hlt, hR⟩ (by simp [hw]) (by simp; omega)
    · have hie : i = ks.length := by omega
      subst hie
      rw [List.drop_length, largeBs] at hR
      subst hR
      simp
theorem ent_l8_PredtextRoundTrip : VM.Enters Tryz.prog 7 := VM.Enters.mk Tryz.func7 rfl
theorem l8_PredtextRoundTrip_cs (p : Pr) (hw : wgP p ≤ 100000000) (hn : nodP p ≤ 1000000) : CS Tryz.prog G0 7 [.agg (prD p)] (.d (.bool true)) none := by
  have h0 := l8_size_cs (G := G0) p 2000 hw (by omega) (by omega)
  have hlg := l8_large_cs (G := G0) p hw
  have h1 := predtext_Text_cs (G := G0) G0_kw G0_pw p hn
  refine CS.of_VK Tryz.func7 rfl Tryz.ntmps7 rfl ?_
  simp
  refine callK.mk ent_l8_size h0 ?_
  by_cases hz : 2000 < szP p 2000
  · simp [hz]
    refine callK.mk ent_l8_awake l8_awake_cs ?_
    simp
  simp [hz]
  refine callK.mk ent_l8_large hlg ?_
  cases hL : largeB p with
  | true =>
    simp
    refine callK.mk ent_l8_awake l8_awake_cs ?_
    simp
  | false =>
    simp
    unfold txtR at h1
    by_cases hc : chkE p = 0
    · rw [if_pos hc] at h1
      have hwf := wf_large (wf_chk hc) hL
      obtain ⟨s, hs⟩ : ∃ s, bdO oT p = s := ⟨_, rfl⟩
      obtain ⟨k, hk⟩ : ∃ k, bdO oK p = k := ⟨_, rfl⟩
      rw [hs] at h1
      refine callK.mk ent_predtext_Text h1 ?_
      by_cases hlong : 40000 < s.length
      · have e1 : (40000 : Int) < s.length := by omega
        simp [hlong, e1]
        refine callK.mk ent_l8_awake l8_awake_cs ?_
        simp
      have e1 : ¬ (40000 : Int) < s.length := by omega
      have hp := rt_parse hwf hc (by rw [hs]; omega)
      have hlx := rt_lex hwf
      have hrr := rt_readR hwf hc
      have hnod := fun (q : Pr) (n : Nat) (h : readT (k ++ [endT 1]) = some (q, n)) => readT_nod h
      rw [hs] at hp hlx
      rw [hk] at hlx hrr
      obtain ⟨hok, hpos⟩ := okTs_lex hlx (by omega)
      have hkl := hok.1
      have h2 := predtext_Parse_cs (G := G0) G0_kw G0_sg s (by omega)
      have h3 := lex_Tokens_cs (G := G0) G0_sg s (by omega)
      have h4 := predtext_Read_cs (G := G0) G0_kw (k ++ [endT 1]) hok (fun q n h => Nat.le_trans (hnod q n h) (by omega))
      have h5 := r7_Same_cs (G := G0) p p (by omega)
      rw [hp] at h2
      rw [if_neg hlong, hlx] at h3
      rw [hrr] at h4
      rw [samP_refl] at h5
      simp only [tokD, tokN, tokF, toks] at h3
      have hkk : k.length ≤ 50000 := by simp at hkl; omega
      have hw1 : IntKind.i64.wrap ((((k ++ [endT 1]).length : Nat) : Int) - 1) = (k.length : Int) := by rw [wrap64 (by simp; omega)]; simp
      have hw2 : IntKind.i64.wrap ((k.length : Int) + 1 - 1) = (k.length : Int) := by rw [wrap64 (by omega)]; omega
      have hw3 : IntKind.i64.wrap (k.length : Int) = (k.length : Int) := wrap64 (by omega)
      simp [hlong, e1]
      refine callK.mk ent_predtext_Parse h2 ?_
      simp
      refine callK.mk ent_lex_Tokens h3 ?_
      simp
      simp at h4
      refine callK.mk ent_predtext_Read h4 ?_
      simp
      refine callK.mk ent_r7_Same h5 ?_
      simp
      refine callK.mk ent_r7_Same h5 ?_
      simp [hw1, hw2, hw3]
      refine callK.mk ent_l8_awake l8_awake_cs ?_
      simp
    · rw [if_neg hc] at h1
      refine callK.mk ent_predtext_Text h1 ?_
      simp [hc]
      refine callK.mk ent_l8_awake l8_awake_cs ?_
      simp
theorem predtextRoundTrip_all (xs : List D) (h : FitsAll Tryz.prog [25] xs) (hsz : szL xs ≤ 1048576) : CS Tryz.prog G0 7 xs (.d (.bool true)) none := by
  match xs, h with
  | [a], ⟨h1, _⟩ =>
    obtain ⟨p, rfl⟩ := fitV_pr h1
    simp only [szL, szD] at hsz
    have e1 := wgP_sz p
    have e2 := nod4_sz p
    have := l8_PredtextRoundTrip_cs p (by omega) (by omega)
    rw [prC_eq]
    exact this
end Go.Proofs.YtlglfkdjlbcpjaaGreatDoor
