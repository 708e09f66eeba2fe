/- Joined texts. The reader of predicates: comparisons, primaries; the walks. The reader of predicates: a level; the walk. The reader of predicates: primaries; the walk. No condition. -/
import Derived.Test.YtlglfkdjlbcpjaaGreatDoorZS
section
set_option linter.unusedVariables false
set_option linter.unusedSimpArgs false
set_option linter.unusedSectionVars false
namespace Go.Proofs.YtlglfkdjlbcpjaaGreatDoor
open Go Go.VM
set_option maxRecDepth 100000
set_option maxHeartbeats 8000000
variable {G : GT}
section
variable {l : List Tok} {f : Nat}
theorem ent_compared : VM.Enters Tryz.prog 64 := VM.Enters.mk Tryz.func64 rfl
def cmpT (s : List UInt8) : Option (Int × Bool) := (cmpL.find? fun p => decide (s = p.1)).map (·.2)
theorem cmpAt_at {n : Nat} (h : n < l.length) : cmpAt l n = if l[n].kind = 4 then cmpT l[n].text else none := by
  unfold cmpAt cmpT
  by_cases hk : l[n].kind = 4
  · simp [sgB_at h, hk]
  · simp [sgB_at h, hk]
theorem cmpAt_no {n : Nat} (h : ¬ n < l.length) : cmpAt l n = none := by
  unfold cmpAt
  simp [sgB_no h]
/-- The frame behind the switch. -/
def cmSt (l : List Tok) (a : Pr) (n : Nat) (op : Int) (ex : Bool) : St := ⟨[.undef, .undef, .ptr 2 0, .undef, .ptr 4 0, .d (.int .i64 0), .ptr 6 0, .d (.int .i64 n), .d (.int .i64 op), .d (.bool ex)] ++ List.replicate 79 .undef, [(2, .cells [.d (.sl (l.map tokE))]), (4, .cells [.d (.int .i64 0), .d (.str []), .d (.int .i64 0), .d .nils]), (6, .cells ((prD a).map .d))], []⟩
theorem compared_cs (hl : okTs l) (hA : AtC G l f) (i : Nat) (hi : i ≤ l.length) (hf : mu l.length i 6 ≤ f + 1) :
    ∃ j, CS Tryz.prog G 64 [rdD l, .int .i64 i] (resA (cmpG (atF kwB l f) l i) j) none := by
  have hll := hl.1
  obtain ⟨ja, hat⟩ := hA i 7 (by omega) (by omega) (by omega) hi (by unfold mu at hf ⊢; omega)
  refine ⟨ja, ?_⟩
  obtain ⟨o, ho⟩ : ∃ o, cmpG (atF kwB l f) l i = o := ⟨_, rfl⟩
  rw [ho]
  unfold cmpG at ho
  refine CS.of_SWK Tryz.func64 rfl Tryz.ntmps64 rfl ?_
  refine SW.seqq (SW.vk ?_)
  simp
  refine SW.seqq (SW.vk ?_)
  simp
  refine callK.mk (hkl := resA_keyless _ _) ent_at hat ?_
  cases hr : atF kwB l f i 7 with
  | none =>
    rw [hr] at ho
    subst ho
    simp [resA]
    refine SW.vk ?_
    simp
  | some q =>
    obtain ⟨a, n⟩ := q
    have hadv := atF_adv kwB l f _ _ _ _ hr
    rw [hr] at ho
    simp only at ho
    simp [resA]
    by_cases hlt : n < l.length
    rotate_left
    · rw [cmpAt_no hlt] at ho
      subst ho
      have hge : l.length ≤ n := Nat.le_of_not_lt hlt
      refine SW.vk ?_
      simp [hge, resA]
    have hge : ¬ l.length ≤ n := by omega
    rw [cmpAt_at hlt] at ho
    obtain ⟨t, ht⟩ : ∃ t, l[n] = t := ⟨_, rfl⟩
    rw [ht] at ho
    by_cases hk : t.kind = 4
    rotate_left
    · rw [if_neg hk] at ho
      subst ho
      refine SW.vk ?_
      simp [hge, hlt, ht, tokE]
      simp [hk, resA]
    rw [if_pos hk] at ho
    refine SW.seqq (SW.vk ?_)
    simp [hge, hlt, ht, tokE]
    simp [hk]
    refine SW.seqq (SW.vk ?_)
    simp
    cases hc : cmpT t.text with
    | none =>
      rw [hc] at ho
      simp only at ho
      subst ho
      simp [cmpT, cmpL] at hc
      obtain ⟨e1, e2, e3, e4, e5, e6⟩ := hc
      refine SW.seqq (SW.vk ?_)
      simp [hlt, ht, tokE, e1, e2, e3, e4, e5, e6, resA]
    | some c =>
      obtain ⟨op, ex⟩ := c
      rw [hc] at ho
      simp only at ho
      refine SW_cut (cmSt l a n op ex) (SW.vk ?_) ?_
      · simp [hlt, ht, tokE]
        by_cases e1 : t.text = [61]
        · obtain ⟨rfl, rfl⟩ : 10 = op ∧ false = ex := by simpa [cmpT, cmpL, e1] using hc
          simp [e1, cmSt, List.replicate]
        by_cases e2 : t.text = [33, 61]
        · obtain ⟨rfl, rfl⟩ : 11 = op ∧ false = ex := by simpa [cmpT, cmpL, e2] using hc
          simp [e2, cmSt, List.replicate]
        by_cases e3 : t.text = [60]
        · obtain ⟨rfl, rfl⟩ : 12 = op ∧ false = ex := by simpa [cmpT, cmpL, e3] using hc
          simp [e3, hlt, ht, tokE]
          refine ⟨lexOk.mk (by kernel_rfl), ?_⟩
          simp [e3, hlt, ht, tokE, cmSt, List.replicate]
        by_cases e4 : t.text = [62]
        · obtain ⟨rfl, rfl⟩ : 12 = op ∧ true = ex := by simpa [cmpT, cmpL, e4] using hc
          simp [e4, hlt, ht, tokE]
          refine ⟨lexOk.mk (by kernel_rfl), ?_⟩
          simp [e4, hlt, ht, tokE, cmSt, List.replicate]
        by_cases e5 : t.text = [60, 61]
        · obtain ⟨rfl, rfl⟩ : 13 = op ∧ false = ex := by simpa [cmpT, cmpL, e5] using hc
          simp [e5, hlt, ht, tokE]
          refine ⟨lexOk.mk (by kernel_rfl), ?_⟩
          simp [e5, hlt, ht, tokE, cmSt, List.replicate]
        by_cases e6 : t.text = [62, 61]
        · obtain ⟨rfl, rfl⟩ : 13 = op ∧ true = ex := by simpa [cmpT, cmpL, e6] using hc
          simp [e6, hlt, ht, tokE]
          refine ⟨lexOk.mk (by kernel_rfl), ?_⟩
          simp [e6, hlt, ht, tokE, cmSt, List.replicate]
        simp [cmpT, cmpL, e1, e2, e3, e4, e5, e6] at hc
      have hn1 := wrap64s (show n < 9223372036854775807 by omega)
      obtain ⟨jb, hat2⟩ := hA (n + 1) 7 (by omega) (by omega) (by omega) hlt (by
        have := mu_next (L := l.length) (i := i) (i' := n + 1) (k := 6) (k' := 7) (by omega) hlt (by omega) (by omega)
        omega)
      refine SW.vk ?_
      simp [cmSt, List.replicate, hn1]
      refine callK.mk (hkl := resA_keyless _ _) ent_at hat2 ?_
      cases hr2 : atF kwB l f (n + 1) 7 with
      | none =>
        rw [hr2] at ho
        simp only at ho
        subst ho
        simp [resA]
      | some z =>
        obtain ⟨b, m⟩ := z
        rw [hr2] at ho
        simp only at ho
        subst ho
        cases ex with
        | false =>
          simp [resA]
          refine callK.mk ent_predtext_two (predtext_two_cs op a b) ?_
          simp
        | true =>
          simp [resA]
          refine callK.mk ent_predtext_two (predtext_two_cs op b a) ?_
          simp
end
end Go.Proofs.YtlglfkdjlbcpjaaGreatDoor
end

section
set_option linter.unusedVariables false
set_option linter.unusedSimpArgs false
set_option linter.unusedSectionVars false
namespace Go.Proofs.YtlglfkdjlbcpjaaGreatDoor
open Go Go.VM
set_option maxRecDepth 100000
set_option maxHeartbeats 8000000
variable {G : GT}
section
variable {l : List Tok} {f : Nat}
theorem mu_up {L i k f : Nat} (h : mu L i k ≤ f + 1) (hk : k + 1 ≤ 10) : mu L i (k + 1) ≤ f := by
  have := mu_level (L := L) (i := i) (show k < k + 1 by omega) hk
  omega
theorem ent_primary : VM.Enters Tryz.prog 65 := VM.Enters.mk Tryz.func65 rfl
theorem at_cs (hl : okTs l) (hA : AtC G l f) (hC : CmC G l f) (hP : PrC G l f) : AtC G l (f + 1) := by
  have hll := hl.1
  intro i k h1 h9 h6 hi hf
  obtain rfl | rfl | rfl | rfl | rfl | rfl | rfl | rfl : k = 1 ∨ k = 2 ∨ k = 3 ∨ k = 4 ∨ k = 5 ∨ k = 7 ∨ k = 8 ∨ k = 9 := by omega
  · skip
    obtain ⟨j, hc⟩ := chain_cs hl hA i 1 (by omega) hi hf
    refine ⟨j, ?_⟩
    have he : atF kwB l (f + 1) i 1 = (atF kwB l f i (1 + 1)).map fun q => chainG (atF kwB l f) l 1 l.length q.1 q.2 := rfl
    rw [he]
    refine CS.of_VK Tryz.func40 rfl Tryz.ntmps40 rfl ?_
    simp
    refine callK.mk (hkl := resA_keyless _ _) ent_chain hc ?_
    cases (atF kwB l f i (1 + 1)).map fun q => chainG (atF kwB l f) l 1 l.length q.1 q.2 with
    | none => simp [resA]
    | some q => obtain ⟨p, n⟩ := q; simp [resA]
  · obtain ⟨ja, hat⟩ := hA i 3 (by omega) (by omega) (by omega) hi (by unfold mu at hf ⊢; omega)
    refine ⟨ja, ?_⟩
    obtain ⟨o, ho⟩ : ∃ o, impG (atF kwB l f) l i = o := ⟨_, rfl⟩
    have he : atF kwB l (f + 1) i 2 = o := ho
    rw [he]
    unfold impG at ho
    refine CS.of_VK Tryz.func40 rfl Tryz.ntmps40 rfl ?_
    simp
    refine callK.mk (hkl := resA_keyless _ _) ent_at hat ?_
    cases hr : atF kwB l f i 3 with
    | none =>
      rw [hr] at ho
      subst ho
      simp [resA]
    | some q =>
      obtain ⟨a, n⟩ := q
      have hadv := atF_adv kwB l f _ _ _ _ hr
      rw [hr] at ho
      simp only at ho
      have hsg := rsign_cs (G := G) l n [61, 62] (by omega)
      simp [resA]
      refine callK.mk ent_rsign hsg ?_
      cases hd : sgB l n [61, 62] with
      | false =>
        rw [if_neg (by simp [hd])] at ho
        subst ho
        simp [resA]
      | true =>
        rw [if_pos hd] at ho
        have hnl := sgB_lt hd
        have hn1 := wrap64s (show n < 9223372036854775807 by omega)
        obtain ⟨jb, hat2⟩ := hA (n + 1) 2 (by omega) (by omega) (by omega) hnl (by
          have := mu_next (L := l.length) (i := i) (i' := n + 1) (k := 2) (k' := 2) (by omega) hnl (by omega) (by omega)
          omega)
        simp [hn1]
        refine callK.mk (hkl := resA_keyless _ _) ent_at hat2 ?_
        cases hr2 : atF kwB l f (n + 1) 2 with
        | none =>
          rw [hr2] at ho
          subst ho
          simp [resA]
        | some z =>
          obtain ⟨b, m⟩ := z
          rw [hr2] at ho
          subst ho
          simp [resA]
          refine callK.mk ent_predtext_two (predtext_two_cs 17 a b) ?_
          simp
  · skip
    obtain ⟨j, hc⟩ := chain_cs hl hA i 3 (by omega) hi hf
    refine ⟨j, ?_⟩
    have he : atF kwB l (f + 1) i 3 = (atF kwB l f i (3 + 1)).map fun q => chainG (atF kwB l f) l 3 l.length q.1 q.2 := rfl
    rw [he]
    refine CS.of_VK Tryz.func40 rfl Tryz.ntmps40 rfl ?_
    simp
    refine callK.mk (hkl := resA_keyless _ _) ent_chain hc ?_
    cases (atF kwB l f i (3 + 1)).map fun q => chainG (atF kwB l f) l 3 l.length q.1 q.2 with
    | none => simp [resA]
    | some q => obtain ⟨p, n⟩ := q; simp [resA]
  · skip
    obtain ⟨j, hc⟩ := chain_cs hl hA i 4 (by omega) hi hf
    refine ⟨j, ?_⟩
    have he : atF kwB l (f + 1) i 4 = (atF kwB l f i (4 + 1)).map fun q => chainG (atF kwB l f) l 4 l.length q.1 q.2 := rfl
    rw [he]
    refine CS.of_VK Tryz.func40 rfl Tryz.ntmps40 rfl ?_
    simp
    refine callK.mk (hkl := resA_keyless _ _) ent_chain hc ?_
    cases (atF kwB l f i (4 + 1)).map fun q => chainG (atF kwB l f) l 4 l.length q.1 q.2 with
    | none => simp [resA]
    | some q => obtain ⟨p, n⟩ := q; simp [resA]
  · skip
    have hsg := rsign_cs (G := G) l i [33] (by omega)
    cases hd : sgB l i [33] with
    | true =>
      have hil := sgB_lt hd
      have hi1 := wrap64s (show i < 9223372036854775807 by omega)
      obtain ⟨ja, hat⟩ := hA (i + 1) 5 (by omega) (by omega) (by omega) hil (by
        have := mu_next (L := l.length) (i := i) (i' := i + 1) (k := 5) (k' := 5) (by omega) hil (by omega) (by omega)
        omega)
      refine ⟨⟨0, [], 0, []⟩, ?_⟩
      have he : atF kwB l (f + 1) i 5 = (atF kwB l f (i + 1) 5).map fun q => ((⟨14, [], 0, [q.1]⟩ : Pr), q.2) := by
        show (if sgB l i [33] = true then _ else _) = _
        rw [if_pos hd]
      rw [he]
      rw [hd] at hsg
      refine CS.of_VK Tryz.func40 rfl Tryz.ntmps40 rfl ?_
      simp
      refine callK.mk ent_rsign hsg ?_
      simp [hi1]
      refine callK.mk (hkl := resA_keyless _ _) ent_at hat ?_
      cases atF kwB l f (i + 1) 5 with
      | none => simp [resA]
      | some q => obtain ⟨p, n⟩ := q; simp [resA, rg1, prC_eq]
    | false =>
      obtain ⟨j, hc⟩ := hC i hi (mu_up hf (by omega))
      refine ⟨j, ?_⟩
      have he : atF kwB l (f + 1) i 5 = atF kwB l f i (5 + 1) := by
        show (if sgB l i [33] = true then _ else _) = _
        rw [if_neg (by simp [hd])]
      rw [he]
      rw [hd] at hsg
      refine CS.of_VK Tryz.func40 rfl Tryz.ntmps40 rfl ?_
      simp
      refine callK.mk ent_rsign hsg ?_
      simp
      refine callK.mk (hkl := resA_keyless _ _) ent_compared hc ?_
      cases atF kwB l f i (5 + 1) with
      | none => simp [resA]
      | some q => obtain ⟨p, n⟩ := q; simp [resA]
  · skip
    obtain ⟨j, hc⟩ := chain_cs hl hA i 7 (by omega) hi hf
    refine ⟨j, ?_⟩
    have he : atF kwB l (f + 1) i 7 = (atF kwB l f i (7 + 1)).map fun q => chainG (atF kwB l f) l 7 l.length q.1 q.2 := rfl
    rw [he]
    refine CS.of_VK Tryz.func40 rfl Tryz.ntmps40 rfl ?_
    simp
    refine callK.mk (hkl := resA_keyless _ _) ent_chain hc ?_
    cases (atF kwB l f i (7 + 1)).map fun q => chainG (atF kwB l f) l 7 l.length q.1 q.2 with
    | none => simp [resA]
    | some q => obtain ⟨p, n⟩ := q; simp [resA]
  · skip
    obtain ⟨j, hc⟩ := chain_cs hl hA i 8 (by omega) hi hf
    refine ⟨j, ?_⟩
    have he : atF kwB l (f + 1) i 8 = (atF kwB l f i (8 + 1)).map fun q => chainG (atF kwB l f) l 8 l.length q.1 q.2 := rfl
    rw [he]
    refine CS.of_VK Tryz.func40 rfl Tryz.ntmps40 rfl ?_
    simp
    refine callK.mk (hkl := resA_keyless _ _) ent_chain hc ?_
    cases (atF kwB l f i (8 + 1)).map fun q => chainG (atF kwB l f) l 8 l.length q.1 q.2 with
    | none => simp [resA]
    | some q => obtain ⟨p, n⟩ := q; simp [resA]
  · skip
    have hsg := rsign_cs (G := G) l i [45] (by omega)
    cases hd : sgB l i [45] with
    | true =>
      have hil := sgB_lt hd
      have hi1 := wrap64s (show i < 9223372036854775807 by omega)
      obtain ⟨ja, hat⟩ := hA (i + 1) 9 (by omega) (by omega) (by omega) hil (by
        have := mu_next (L := l.length) (i := i) (i' := i + 1) (k := 9) (k' := 9) (by omega) hil (by omega) (by omega)
        omega)
      refine ⟨⟨0, [], 0, []⟩, ?_⟩
      have he : atF kwB l (f + 1) i 9 = (atF kwB l f (i + 1) 9).map fun q => ((⟨9, [], 0, [q.1]⟩ : Pr), q.2) := by
        show (if sgB l i [45] = true then _ else _) = _
        rw [if_pos hd]
      rw [he]
      rw [hd] at hsg
      refine CS.of_VK Tryz.func40 rfl Tryz.ntmps40 rfl ?_
      simp
      refine callK.mk ent_rsign hsg ?_
      simp [hi1]
      refine callK.mk (hkl := resA_keyless _ _) ent_at hat ?_
      cases atF kwB l f (i + 1) 9 with
      | none => simp [resA]
      | some q => obtain ⟨p, n⟩ := q; simp [resA, rg1, prC_eq]
    | false =>
      obtain ⟨j, hc⟩ := hP i hi (mu_up hf (by omega))
      refine ⟨j, ?_⟩
      have he : atF kwB l (f + 1) i 9 = atF kwB l f i (9 + 1) := by
        show (if sgB l i [45] = true then _ else _) = _
        rw [if_neg (by simp [hd])]
      rw [he]
      rw [hd] at hsg
      refine CS.of_VK Tryz.func40 rfl Tryz.ntmps40 rfl ?_
      simp
      refine callK.mk ent_rsign hsg ?_
      simp
      refine callK.mk (hkl := resA_keyless _ _) ent_primary hc ?_
      cases atF kwB l f i (9 + 1) with
      | none => simp [resA]
      | some q => obtain ⟨p, n⟩ := q; simp [resA]
end
end Go.Proofs.YtlglfkdjlbcpjaaGreatDoor
end

section
set_option linter.unusedVariables false
set_option linter.unusedSimpArgs false
set_option linter.unusedSectionVars false
namespace Go.Proofs.YtlglfkdjlbcpjaaGreatDoor
open Go Go.VM
set_option maxRecDepth 100000
set_option maxHeartbeats 8000000
variable {G : GT}
section
variable {l : List Tok} {f : Nat}
def namedG (rd : Nat → Nat → Option (Pr × Nat)) (l : List Tok) (i : Nat) : Option (Pr × Nat) := match nameR kwB l i with
  | none => none
  | some (s, n) => (match listG rd l n with
    | some (ks, m) => some (⟨4, s, 0, ks⟩, m)
    | none => some (⟨3, s, 0, []⟩, n))
theorem prim_room {L i n f : Nat} (hf : mu L i 10 ≤ f + 1) (hn : i < n) (hl : n ≤ L) : (L - n) * 12 + 10 ≤ f := by
  unfold mu at hf
  omega
theorem ent_named : VM.Enters Tryz.prog 94 := VM.Enters.mk Tryz.func94 rfl
theorem rnamed_cs (hG : G 3 = some kwCells) (hl : okTs l) (hA : AtC G l f) (i : Nat) (hi : i ≤ l.length) (hf : mu l.length i 10 ≤ f + 1) :
    CS Tryz.prog G 94 [rdD l, .int .i64 i] (resA (namedG (atF kwB l f) l i) ⟨0, [], 0, []⟩) none := by
  have hll := hl.1
  have hnm := rname_cs (G := G) hG l i hl hi
  obtain ⟨o, ho⟩ : ∃ o, namedG (atF kwB l f) l i = o := ⟨_, rfl⟩
  rw [ho]
  unfold namedG at ho
  refine CS.of_VK Tryz.func94 rfl Tryz.ntmps94 rfl ?_
  simp
  refine callK.mk (hkl := namR_keyless _) ent_rname hnm ?_
  cases hn : nameR kwB l i with
  | none =>
    rw [hn] at ho
    subst ho
    simp [namR, resA]
  | some q =>
    obtain ⟨s, n⟩ := q
    have hadv := name_adv hn
    rw [hn] at ho
    simp only at ho
    have hli := rlist_cs (G := G) hl hA n (prim_room hf hadv.1 hadv.2)
    simp [namR]
    refine callK.mk (hkl := resL_keyless _) ent_rlist hli ?_
    cases hL : listG (atF kwB l f) l n with
    | none =>
      rw [hL] at ho
      subst ho
      simp [resL, resA]
    | some z =>
      obtain ⟨ks, m⟩ := z
      rw [hL] at ho
      subst ho
      simp [resL, resA]
theorem primary_cs (hG : G 3 = some kwCells) (hl : okTs l) (hA : AtC G l f) : PrC G l (f + 1) := by
  have hll := hl.1
  intro i hi hf
  obtain ⟨o, ho⟩ : ∃ o, primG kwB (atF kwB l f) l i = o := ⟨_, rfl⟩
  have he : atF kwB l (f + 1) i 10 = o := ho
  rw [he]
  unfold primG at ho
  by_cases hlt : i < l.length
  rotate_left
  · rw [List.getElem?_eq_none (by omega)] at ho
    subst ho
    have hge : l.length ≤ i := Nat.le_of_not_lt hlt
    refine ⟨⟨0, [], 0, []⟩, ?_⟩
    refine CS.of_VK Tryz.func65 rfl Tryz.ntmps65 rfl ?_
    simp [hge, resA]
  have hge : ¬ l.length ≤ i := by omega
  rw [List.getElem?_eq_getElem hlt] at ho
  obtain ⟨t, ht⟩ : ∃ t, l[i] = t := ⟨_, rfl⟩
  rw [ht] at ho
  simp only at ho
  have hi1 := wrap64s (show i < 9223372036854775807 by omega)
  have hi2 : IntKind.i64.wrap ((i : Int) + 2) = ((i + 2 : Nat) : Int) := by rw [wrap64 (by omega)]; simp
  have hi3 : IntKind.i64.wrap ((i : Int) + 3) = ((i + 3 : Nat) : Int) := by rw [wrap64 (by omega)]; simp
  have hi4 : IntKind.i64.wrap ((i : Int) + 4) = ((i + 4 : Nat) : Int) := by rw [wrap64 (by omega)]; simp
  by_cases k3 : t.kind = 3
  · rw [if_pos k3] at ho
    subst ho
    refine ⟨⟨0, [], 0, []⟩, ?_⟩
    refine CS.of_VK Tryz.func65 rfl Tryz.ntmps65 rfl ?_
    simp [hge, hlt, ht, tokE]
    simp [k3, hi1, resA]
  rw [if_neg k3] at ho
  by_cases kt : t.kind = 1 ∧ t.text = [116, 114, 117, 101]
  · rw [if_pos kt] at ho
    subst ho
    refine ⟨⟨0, [], 0, []⟩, ?_⟩
    refine CS.of_VK Tryz.func65 rfl Tryz.ntmps65 rfl ?_
    simp [hge, hlt, ht, tokE]
    simp [kt.1, kt.2, hi1, resA]
  rw [if_neg kt] at ho
  by_cases kf : t.kind = 1 ∧ t.text = [102, 97, 108, 115, 101]
  · rw [if_pos kf] at ho
    subst ho
    refine ⟨⟨0, [], 0, []⟩, ?_⟩
    refine CS.of_VK Tryz.func65 rfl Tryz.ntmps65 rfl ?_
    simp [hge, hlt, ht, tokE]
    simp [kf.1, kf.2, hi1, resA]
  rw [if_neg kf] at ho
  have hk : t.kind = 1 → ¬ t.text = [116, 114, 117, 101] ∧ ¬ t.text = [102, 97, 108, 115, 101] := fun h => ⟨fun e => kt ⟨h, e⟩, fun e => kf ⟨h, e⟩⟩
  have hsq := rsign_cs (G := G) l i [63] (by omega)
  have hsp := rsign_cs (G := G) l i [40] (by omega)
  cases hq : sgB l i [63] with
  | true =>
    rw [if_pos hq] at ho
    rw [hq] at hsq
    have hnm := rname_cs (G := G) hG l (i + 1) hl hlt
    cases hn : nameR kwB l (i + 1) with
    | none =>
      rw [hn] at ho hnm
      subst ho
      refine ⟨⟨0, [], 0, []⟩, ?_⟩
      refine CS.of_VK Tryz.func65 rfl Tryz.ntmps65 rfl ?_
      simp [hge, hlt, ht, tokE]
      simp [k3]
      rcases Classical.em (t.kind = 1) with k1 | k1
      case' inl => simp [k1, (hk k1).1, (hk k1).2]
      case' inr => simp [k1]
      all_goals
        refine callK.mk ent_rsign hsq ?_
        simp [hi1]
        refine callK.mk (hkl := namR_keyless _) ent_rname hnm ?_
        simp [namR, resA]
    | some q =>
      obtain ⟨s, n⟩ := q
      have hadv := name_adv hn
      rw [hn] at ho hnm
      simp only at ho
      have hli := rlist_cs (G := G) hl hA n (prim_room hf (by omega) hadv.2)
      cases hL : listG (atF kwB l f) l n with
      | none =>
        rw [hL] at ho hli
        subst ho
        refine ⟨⟨5, s, 0, []⟩, ?_⟩
        refine CS.of_VK Tryz.func65 rfl Tryz.ntmps65 rfl ?_
        simp [hge, hlt, ht, tokE]
        simp [k3]
        rcases Classical.em (t.kind = 1) with k1 | k1
        case' inl => simp [k1, (hk k1).1, (hk k1).2]
        case' inr => simp [k1]
        all_goals
          refine callK.mk ent_rsign hsq ?_
          simp [hi1]
          refine callK.mk (hkl := namR_keyless _) ent_rname hnm ?_
          simp [namR]
          refine callK.mk (hkl := resL_keyless _) ent_rlist hli ?_
          simp [resL, resA]
      | some z =>
        obtain ⟨ks, m⟩ := z
        rw [hL] at ho hli
        subst ho
        refine ⟨⟨0, [], 0, []⟩, ?_⟩
        refine CS.of_VK Tryz.func65 rfl Tryz.ntmps65 rfl ?_
        simp [hge, hlt, ht, tokE]
        simp [k3]
        rcases Classical.em (t.kind = 1) with k1 | k1
        case' inl => simp [k1, (hk k1).1, (hk k1).2]
        case' inr => simp [k1]
        all_goals
          refine callK.mk ent_rsign hsq ?_
          simp [hi1]
          refine callK.mk (hkl := namR_keyless _) ent_rname hnm ?_
          simp [namR]
          refine callK.mk (hkl := resL_keyless _) ent_rlist hli ?_
          simp [resL, resA]
  | false =>
  rw [if_neg (by simp [hq])] at ho
  rw [hq] at hsq
  cases hp : sgB l i [40] with
  | false =>
    rw [if_neg (by simp [hp])] at ho
    rw [hp] at hsp
    have hnd := rnamed_cs hG hl hA i hi hf
    have hx : namedG (atF kwB l f) l i = o := ho
    rw [hx] at hnd
    refine ⟨⟨0, [], 0, []⟩, ?_⟩
    refine CS.of_VK Tryz.func65 rfl Tryz.ntmps65 rfl ?_
    simp [hge, hlt, ht, tokE]
    simp [k3]
    rcases Classical.em (t.kind = 1) with k1 | k1
    case' inl => simp [k1, (hk k1).1, (hk k1).2]
    case' inr => simp [k1]
    all_goals
      refine callK.mk ent_rsign hsq ?_
      simp
      refine callK.mk ent_rsign hsp ?_
      simp
      refine callK.mk (hkl := resA_keyless _ _) ent_named hnd ?_
      cases o with
      | none => simp [resA]
      | some q => obtain ⟨p, n⟩ := q; simp [resA]
  | true =>
  rw [if_pos hp] at ho
  rw [hp] at hsp
  have hsm := rsign_cs (G := G) l (i + 1) [45] (by omega)
  have hsc := rsign_cs (G := G) l (i + 3) [41] (by omega)
  by_cases hneg : sgB l (i + 1) [45] = true ∧ kdB l (i + 2) 3 = true ∧ sgB l (i + 3) [41] = true
  · rw [if_pos hneg] at ho
    subst ho
    obtain ⟨n1, n2, n3⟩ := hneg
    have h2 := kdB_lt n2
    rw [kdB_at h2] at n2
    rw [nmA_at h2]
    obtain ⟨u, hu⟩ : ∃ u, l[i + 2] = u := ⟨_, rfl⟩
    rw [hu] at n2 ⊢
    have ku : u.kind = 3 := of_decide_eq_true n2
    rw [n1] at hsm
    rw [n3] at hsc
    have h2' : (i : Int) + 2 < (l.length : Int) := by omega
    have hnn : (0 : Int) ≤ (i : Int) + 2 := by omega
    have htn : ((i : Int) + 2).toNat = i + 2 := by omega
    refine ⟨⟨0, [], 0, []⟩, ?_⟩
    refine CS.of_VK Tryz.func65 rfl Tryz.ntmps65 rfl ?_
    simp [hge, hlt, ht, tokE]
    simp [k3]
    rcases Classical.em (t.kind = 1) with k1 | k1
    case' inl => simp [k1, (hk k1).1, (hk k1).2]
    case' inr => simp [k1]
    all_goals
      refine callK.mk ent_rsign hsq ?_
      simp
      refine callK.mk ent_rsign hsp ?_
      simp [hi1]
      refine callK.mk ent_rsign hsm ?_
      simp [hi2, h2, h2', hnn, htn, hu, ku, tokE, hi3]
      refine callK.mk ent_rsign hsc ?_
      simp [hi2, h2, h2', hnn, htn, hu, ku, tokE, hi4, resA]
  · rw [if_neg hneg] at ho
    obtain ⟨jp, hat⟩ := hA (i + 1) 1 (by omega) (by omega) (by omega) hlt (by
      have := mu_next (L := l.length) (i := i) (i' := i + 1) (k := 10) (k' := 1) (by omega) hlt (by omega) (by omega)
      omega)
    refine ⟨⟨0, [], 0, []⟩, ?_⟩
    have tail : ∀ n : Nat, CS Tryz.prog G 62 [rdD l, .int .i64 n, .str [41]] (.d (.bool (sgB l n [41]))) none := fun n => rsign_cs (G := G) l n [41] (by omega)
    cases n1 : sgB l (i + 1) [45] with
    | false =>
      rw [n1] at hsm
      refine CS.of_VK Tryz.func65 rfl Tryz.ntmps65 rfl ?_
      simp [hge, hlt, ht, tokE]
      simp [k3]
      rcases Classical.em (t.kind = 1) with k1 | k1
      case' inl => simp [k1, (hk k1).1, (hk k1).2]
      case' inr => simp [k1]
      all_goals
        refine callK.mk ent_rsign hsq ?_
        simp
        refine callK.mk ent_rsign hsp ?_
        simp [hi1]
        refine callK.mk ent_rsign hsm ?_
        simp [hi1]
        refine callK.mk (hkl := resA_keyless _ _) ent_at hat ?_
        cases hr : atF kwB l f (i + 1) 1 with
        | none =>
          rw [hr] at ho
          subst ho
          simp [resA]
        | some q =>
          obtain ⟨p, n⟩ := q
          have hadv := atF_adv kwB l f _ _ _ _ hr
          have hcs := tail n
          rw [hr] at ho
          simp only at ho
          simp [resA]
          refine callK.mk ent_rsign hcs ?_
          cases hc : sgB l n [41] with
          | false =>
            rw [if_neg (by simp [hc])] at ho
            subst ho
            simp [resA]
          | true =>
            rw [if_pos hc] at ho
            subst ho
            have hn1 := wrap64s (show n < 9223372036854775807 by omega)
            simp [hn1, resA]
    | true =>
    rw [n1] at hsm
    have hnn : (0 : Int) ≤ (i : Int) + 2 := by omega
    have htn : ((i : Int) + 2).toNat = i + 2 := by omega
    by_cases h2 : i + 2 < l.length
    rotate_left
    · have h2' : ¬ (i : Int) + 2 < (l.length : Int) := by omega
      refine CS.of_VK Tryz.func65 rfl Tryz.ntmps65 rfl ?_
      simp [hge, hlt, ht, tokE]
      simp [k3]
      rcases Classical.em (t.kind = 1) with k1 | k1
      case' inl => simp [k1, (hk k1).1, (hk k1).2]
      case' inr => simp [k1]
      all_goals
        refine callK.mk ent_rsign hsq ?_
        simp
        refine callK.mk ent_rsign hsp ?_
        simp [hi1]
        refine callK.mk ent_rsign hsm ?_
        simp [hi1, hi2, h2']
        refine callK.mk (hkl := resA_keyless _ _) ent_at hat ?_
        cases hr : atF kwB l f (i + 1) 1 with
        | none =>
          rw [hr] at ho
          subst ho
          simp [resA]
        | some q =>
          obtain ⟨p, n⟩ := q
          have hadv := atF_adv kwB l f _ _ _ _ hr
          have hcs := tail n
          rw [hr] at ho
          simp only at ho
          simp [resA]
          refine callK.mk ent_rsign hcs ?_
          cases hc : sgB l n [41] with
          | false =>
            rw [if_neg (by simp [hc])] at ho
            subst ho
            simp [resA]
          | true =>
            rw [if_pos hc] at ho
            subst ho
            have hn1 := wrap64s (show n < 9223372036854775807 by omega)
            simp [hn1, resA]
    have h2' : (i : Int) + 2 < (l.length : Int) := by omega
    obtain ⟨u, hu⟩ : ∃ u, l[i + 2] = u := ⟨_, rfl⟩
    by_cases ku : u.kind = 3
    rotate_left
    · skip
      refine CS.of_VK Tryz.func65 rfl Tryz.ntmps65 rfl ?_
      simp [hge, hlt, ht, tokE]
      simp [k3]
      rcases Classical.em (t.kind = 1) with k1 | k1
      case' inl => simp [k1, (hk k1).1, (hk k1).2]
      case' inr => simp [k1]
      all_goals
        refine callK.mk ent_rsign hsq ?_
        simp
        refine callK.mk ent_rsign hsp ?_
        simp [hi1]
        refine callK.mk ent_rsign hsm ?_
        simp [hi1, hi2, h2, h2', hnn, htn, hu, ku, tokE]
        refine callK.mk (hkl := resA_keyless _ _) ent_at hat ?_
        cases hr : atF kwB l f (i + 1) 1 with
        | none =>
          rw [hr] at ho
          subst ho
          simp [resA]
        | some q =>
          obtain ⟨p, n⟩ := q
          have hadv := atF_adv kwB l f _ _ _ _ hr
          have hcs := tail n
          rw [hr] at ho
          simp only at ho
          simp [resA]
          refine callK.mk ent_rsign hcs ?_
          cases hc : sgB l n [41] with
          | false =>
            rw [if_neg (by simp [hc])] at ho
            subst ho
            simp [resA]
          | true =>
            rw [if_pos hc] at ho
            subst ho
            have hn1 := wrap64s (show n < 9223372036854775807 by omega)
            simp [hn1, resA]
    have n3 : sgB l (i + 3) [41] = false := by
      cases n3 : sgB l (i + 3) [41] with
      | false => rfl
      | true => exact absurd ⟨n1, by rw [kdB_at h2, hu]; simp [ku], n3⟩ hneg
    rw [n3] at hsc
    refine CS.of_VK Tryz.func65 rfl Tryz.ntmps65 rfl ?_
    simp [hge, hlt, ht, tokE]
    simp [k3]
    rcases Classical.em (t.kind = 1) with k1 | k1
    case' inl => simp [k1, (hk k1).1, (hk k1).2]
    case' inr => simp [k1]
    all_goals
      refine callK.mk ent_rsign hsq ?_
      simp
      refine callK.mk ent_rsign hsp ?_
      simp [hi1]
      refine callK.mk ent_rsign hsm ?_
      simp [hi2, h2, h2', hnn, htn, hu, ku, tokE, hi3]
      refine callK.mk ent_rsign hsc ?_
      simp [hi1]
      refine callK.mk (hkl := resA_keyless _ _) ent_at hat ?_
      cases hr : atF kwB l f (i + 1) 1 with
      | none =>
        rw [hr] at ho
        subst ho
        simp [resA]
      | some q =>
        obtain ⟨p, n⟩ := q
        have hadv := atF_adv kwB l f _ _ _ _ hr
        have hcs := tail n
        rw [hr] at ho
        simp only at ho
        simp [resA]
        refine callK.mk ent_rsign hcs ?_
        cases hc : sgB l n [41] with
        | false =>
          rw [if_neg (by simp [hc])] at ho
          subst ho
          simp [resA]
        | true =>
          rw [if_pos hc] at ho
          subst ho
          have hn1 := wrap64s (show n < 9223372036854775807 by omega)
          simp [hn1, resA]
end
end Go.Proofs.YtlglfkdjlbcpjaaGreatDoor
end
