/- Joined texts. The reference's reader of predicates: a level, all levels, Read and Parse; the walks. The reference's Read and Parse; the walks. No condition. -/
import Derived.Test.YtlglfkdjlbcpjaaGreatDoorZU
import Derived.Test.YtlglfkdjlbcpjaaGreatDoorZW
import Derived.Test.YtlglfkdjlbcpjaaGreatDoorZD
import Derived.Test.YtlglfkdjlbcpjaaGreatDoorZQ
section
set_option linter.unusedVariables false
set_option linter.unusedSimpArgs false
set_option linter.unusedSectionVars false
namespace Go.Proofs.YtlglfkdjlbcpjaaGreatDoor
open Go Go.VM
set_option maxRecDepth 100000
set_option maxHeartbeats 8000000
variable {G : GT}
section
variable {l : List Tok} {f : Nat}
/-- One round of a level, as the reference takes it. -/
def rndX (rd : Nat → Nat → Option (Pr × Nat)) (l : List Tok) (k : Nat) : Nat → Pr → Nat → Pr × Nat
  | 0, a, n => (a, n)
  | g + 1, a, n => match opX l n k with
    | none => (a, n)
    | some (op, ex) => match rd (n + 1) (if k = 2 then 2 else k + 1) with
      | none => (a, n)
      | some (b, m) => if k = 6 then ((if ex = true then tw op b a else tw op a b), m) else rndX rd l k g (if ex = true then tw op b a else tw op a b) m
theorem opX_some {l : List Tok} {n k : Nat} {q : Int × Bool} (h : opX l n k = some q) : n < l.length := by
  unfold opX at h
  split at h
  · exact cmpAt_some h
  split at h
  · split at h
    · rename_i hs
      exact sgB_lt hs
    · cases h
  · rw [Option.map_eq_some_iff] at h
    obtain ⟨op, h, _⟩ := h
    exact (opAt_some h).1
theorem rnd_chain (rd : Nat → Nat → Option (Pr × Nat)) (l : List Tok) {k : Nat} (h2 : k ≠ 2) (h6 : k ≠ 6) : ∀ (g : Nat) (a : Pr) (n : Nat), rndX rd l k g a n = chainG rd l k g a n
  | 0, _, _ => rfl
  | g + 1, a, n => by
    rw [rndX, chainG]
    have e : opX l n k = (opAt l n k).map fun o => (o, false) := by
      unfold opX
      rw [if_neg h6, if_neg h2]
    rw [e]
    cases opAt l n k with
    | none => rfl
    | some op =>
      simp only [Option.map_some, if_neg h2, if_neg h6, Bool.false_eq_true, if_false]
      cases rd (n + 1) (k + 1) with
      | none => rfl
      | some q =>
        obtain ⟨b, m⟩ := q
        exact rnd_chain rd l h2 h6 g _ m
theorem rnd_none {rd : Nat → Nat → Option (Pr × Nat)} {k n : Nat} (h : opX l n k = none) (g : Nat) (a : Pr) : rndX rd l k g a n = (a, n) := by
  cases g with
  | zero => rfl
  | succ g => rw [rndX, h]
theorem at_loop {i k : Nat} (h1 : 1 ≤ k) (h9 : k ≤ 9) (h5 : k = 5 → sgB l i [33] = false) (hk9 : k = 9 → sgB l i [45] = false) (hi : i ≤ l.length) (hf : mu l.length i k ≤ f + 1) :
    atF kwB l (f + 1) i k = (atF kwB l f i (k + 1)).map fun q => rndX (atF kwB l f) l k l.length q.1 q.2 := by
  have hch : ∀ k, k ≠ 2 → k ≠ 6 → (fun q : Pr × Nat => rndX (atF kwB l f) l k l.length q.1 q.2) = fun q => chainG (atF kwB l f) l k l.length q.1 q.2 := fun k h2 h6 => by
    funext q
    exact rnd_chain _ l h2 h6 _ _ _
  obtain rfl | rfl | rfl | rfl | rfl | rfl | rfl | rfl | rfl : k = 1 ∨ k = 2 ∨ k = 3 ∨ k = 4 ∨ k = 5 ∨ k = 6 ∨ k = 7 ∨ k = 8 ∨ k = 9 := by omega
  · rw [hch 1 (by omega) (by omega)]
    rfl
  · have he : atF kwB l (f + 1) i 2 = impG (atF kwB l f) l i := rfl
    obtain ⟨o, ho⟩ : ∃ o, atF kwB l (f + 1) i 2 = o := ⟨_, rfl⟩
    rw [ho]
    rw [he] at ho
    unfold impG at ho
    cases hr : atF kwB l f i 3 with
    | none => rw [hr] at ho; exact ho.symm
    | some q =>
      obtain ⟨a, n⟩ := q
      have hadv := atF_adv kwB l f _ _ _ _ hr
      rw [hr] at ho
      simp only at ho
      rw [Option.map_some]
      simp only
      obtain ⟨g, hg⟩ : ∃ g, l.length = g + 1 := ⟨l.length - 1, by omega⟩
      cases hs : sgB l n [61, 62] with
      | false =>
        rw [if_neg (by simp [hs])] at ho
        rw [rnd_none (by unfold opX; simp [hs]), ← ho]
      | true =>
        rw [if_pos hs] at ho
        have hx : opX l n 2 = some (17, false) := by unfold opX; simp [hs]
        rw [hg, rndX, hx]
        simp only [if_true]
        cases hr2 : atF kwB l f (n + 1) 2 with
        | none => rw [hr2] at ho; exact ho.symm
        | some z =>
          obtain ⟨b, m⟩ := z
          have hadv2 := atF_adv kwB l f _ _ _ _ hr2
          rw [hr2] at ho
          simp only at ho
          simp only [Bool.false_eq_true, if_false]
          rw [if_neg (by omega)]
          have hfull : atF kwB l (f + 1) i 2 = some (tw 17 a b, m) := by
            rw [he]
            unfold impG
            rw [hr]
            simp only
            rw [if_pos hs, hr2]
          cases hs2 : sgB l m [61, 62] with
          | false => rw [rnd_none (by unfold opX; simp [hs2]), ← ho]
          | true =>
            have hml := sgB_lt hs2
            have hend := imp_end kwB l (f + 1) f i _ m hi hf hfull hs2 (by
              have := mu_next (L := l.length) (i := i) (i' := m + 1) (k := 2) (k' := 2) (by omega) hml (by omega) (by omega)
              omega)
            cases g with
            | zero => exact ho.symm
            | succ g =>
              have hx2 : opX l m 2 = some (17, false) := by unfold opX; simp [hs2]
              rw [rndX, hx2]
              simp only [if_true]
              rw [hend, ← ho]
  · rw [hch 3 (by omega) (by omega)]
    rfl
  · rw [hch 4 (by omega) (by omega)]
    rfl
  · have he : atF kwB l (f + 1) i 5 = atF kwB l f i 6 := by
      show (if sgB l i [33] = true then _ else atF kwB l f i 6) = _
      rw [if_neg (by simp [h5 rfl])]
    rw [he]
    cases atF kwB l f i 6 with
    | none => rfl
    | some q => rw [Option.map_some, rnd_none (by rfl)]
  · have he : atF kwB l (f + 1) i 6 = cmpG (atF kwB l f) l i := rfl
    rw [he]
    unfold cmpG
    cases hr : atF kwB l f i 7 with
    | none => rfl
    | some q =>
      obtain ⟨a, n⟩ := q
      have hadv := atF_adv kwB l f _ _ _ _ hr
      obtain ⟨g, hg⟩ : ∃ g, l.length = g + 1 := ⟨l.length - 1, by omega⟩
      have hx : opX l n 6 = cmpAt l n := rfl
      simp only [Option.map_some]
      rw [hg, rndX, hx]
      cases cmpAt l n with
      | none => rfl
      | some c =>
        obtain ⟨op, ex⟩ := c
        simp only [show ¬ (6 : Nat) = 2 by omega, if_false]
        cases atF kwB l f (n + 1) 7 with
        | none => rfl
        | some z => rfl
  · rw [hch 7 (by omega) (by omega)]
    rfl
  · rw [hch 8 (by omega) (by omega)]
    rfl
  · have he : atF kwB l (f + 1) i 9 = atF kwB l f i 10 := by
      show (if sgB l i [45] = true then _ else atF kwB l f i 10) = _
      rw [if_neg (by simp [hk9 rfl])]
    rw [he]
    cases atF kwB l f i 10 with
    | none => rfl
    | some q => rw [Option.map_some, rnd_none (by rfl)]
/-- The frame ahead of the reading. -/
def rdSt (l : List Tok) (i k : Nat) : St := ⟨([.d (tkD l), .d (.int .i64 i), .d (.int .i64 k), .undef, .undef, .undef, .ptr 6 0, .d (.int .i64 0), .d (.bool false)] : List DV) ++ List.replicate 105 .undef, [(6, .cells [.d (.int .i64 0), .d (.str []), .d (.int .i64 0), .d .nils])], []⟩
theorem r8_read_cs (hl : okTs l) (hA : RdC G l f) : RdC G l (f + 1) := by
  have hll := hl.1
  intro i k h1 h10 hi hf
  by_cases k10 : k = 10
  · subst k10
    have hat := r8_atom_cs (G := G) hl hA i hi hf
    have he : atF kwB l (f + 1) i 10 = primG kwB (atF kwB l f) l i := rfl
    rw [he]
    refine CS.of_VK Tryz.func42 rfl Tryz.ntmps42 rfl ?_
    simp
    refine callK.mk (hkl := resX_keyless _ _) ent_r8_atom hat ?_
    cases primG kwB (atF kwB l f) l i with
    | none => simp [resX]
    | some q => obtain ⟨p, n⟩ := q; simp [resX]
  by_cases f5 : k = 5 ∧ sgB l i [33] = true
  · obtain ⟨rfl, hs⟩ := f5
    have hil := sgB_lt hs
    have hsg := r8_is_cs (G := G) l i [33] (by omega)
    rw [hs] at hsg
    have hfr := r8_front_cs (G := G) hl hA i 5 14 (by omega) hil (by
      have := mu_next (L := l.length) (i := i) (i' := i + 1) (k := 5) (k' := 5) (by omega) hil (by omega) (by omega)
      omega)
    have he : atF kwB l (f + 1) i 5 = (atF kwB l f (i + 1) 5).map fun q => ((⟨14, [], 0, [q.1]⟩ : Pr), q.2) := by
      show (if sgB l i [33] = true then _ else _) = _
      rw [if_pos hs]
    rw [he]
    refine CS.of_VK Tryz.func42 rfl Tryz.ntmps42 rfl ?_
    simp
    refine callK.mk ent_r8_is hsg ?_
    simp
    refine callK.mk (hkl := resX_keyless _ _) ent_r8_front hfr ?_
    cases (atF kwB l f (i + 1) 5).map fun q => ((⟨14, [], 0, [q.1]⟩ : Pr), q.2) with
    | none => simp [resX]
    | some q => obtain ⟨p, n⟩ := q; simp [resX]
  by_cases f9 : k = 9 ∧ sgB l i [45] = true
  · obtain ⟨rfl, hs⟩ := f9
    have hil := sgB_lt hs
    have hsg := r8_is_cs (G := G) l i [45] (by omega)
    rw [hs] at hsg
    have hfr := r8_front_cs (G := G) hl hA i 9 9 (by omega) hil (by
      have := mu_next (L := l.length) (i := i) (i' := i + 1) (k := 9) (k' := 9) (by omega) hil (by omega) (by omega)
      omega)
    have he : atF kwB l (f + 1) i 9 = (atF kwB l f (i + 1) 9).map fun q => ((⟨9, [], 0, [q.1]⟩ : Pr), q.2) := by
      show (if sgB l i [45] = true then _ else _) = _
      rw [if_pos hs]
    rw [he]
    refine CS.of_VK Tryz.func42 rfl Tryz.ntmps42 rfl ?_
    simp
    refine callK.mk ent_r8_is hsg ?_
    simp
    refine callK.mk (hkl := resX_keyless _ _) ent_r8_front hfr ?_
    cases (atF kwB l f (i + 1) 9).map fun q => ((⟨9, [], 0, [q.1]⟩ : Pr), q.2) with
    | none => simp [resX]
    | some q => obtain ⟨p, n⟩ := q; simp [resX]
  have q5 : k = 5 → sgB l i [33] = false := fun e => by
    cases hs : sgB l i [33] with
    | false => rfl
    | true => exact absurd ⟨e, hs⟩ f5
  have q9 : k = 9 → sgB l i [45] = false := fun e => by
    cases hs : sgB l i [45] with
    | false => rfl
    | true => exact absurd ⟨e, hs⟩ f9
  obtain ⟨o, ho⟩ : ∃ o, atF kwB l (f + 1) i k = o := ⟨_, rfl⟩
  have hlo := at_loop (f := f) h1 (by omega) q5 q9 hi hf
  rw [ho] at hlo ⊢
  have hk10 : ¬ (k : Int) = 10 := by omega
  have hk1 := wrap64s (show k < 9223372036854775807 by omega)
  have hat := hA i (k + 1) (by omega) (by omega) hi (by
    have := mu_level (L := l.length) (i := i) (show k < k + 1 by omega) (by omega)
    omega)
  refine CS.of_SWK Tryz.func42 rfl Tryz.ntmps42 rfl ?_
  refine SW.seqq (SW.vk ?_)
  simp
  refine SW_cut (rdSt l i k) (SW.vk ?_) ?_
  · by_cases k5 : k = 5
    · have hsg := r8_is_cs (G := G) l i [33] (by omega)
      rw [q5 k5] at hsg
      subst k5
      simp
      refine callK.mk ent_r8_is hsg ?_
      simp [rdSt, List.replicate]
    by_cases k9 : k = 9
    · have hsg := r8_is_cs (G := G) l i [45] (by omega)
      rw [q9 k9] at hsg
      subst k9
      simp
      refine callK.mk ent_r8_is hsg ?_
      simp [rdSt, List.replicate]
    have k5' : ¬ (k : Int) = 5 := by omega
    have k9' : ¬ (k : Int) = 9 := by omega
    simp [hk10, k5', k9', rdSt, List.replicate]
  refine SW.vk ?_
  simp [rdSt, List.replicate, hk1]
  refine callK.mk (hkl := resX_keyless _ _) ent_r8_read hat ?_
  cases hr : atF kwB l f i (k + 1) with
  | none =>
    rw [hr] at hlo
    subst hlo
    simp [resX]
  | some q =>
    obtain ⟨a, n⟩ := q
    have hadv := atF_adv kwB l f _ _ _ _ hr
    rw [hr, Option.map_some] at hlo
    obtain ⟨⟨rp, rn⟩, hres⟩ : ∃ r, rndX (atF kwB l f) l k l.length a n = r := ⟨_, rfl⟩
    simp only at hlo
    rw [hres] at hlo
    subst hlo
    simp [resX]
    refine SW.loopF (ι := { p : Pr × Nat // p.2 ≤ l.length ∧ i < p.2 ∧ ∃ g, l.length ≤ g + p.2 ∧ rndX (atF kwB l f) l k g p.1 p.2 = (rp, rn) }) (fun p => [(10, .d (.int .i64 p.1.2))]) (fun p => [(6, .cells [.d (.int .i64 0), .d (.str []), .d (.int .i64 0), .d .nils]), (9, .cells ((prD p.1.1).map .d))]) (fun _ => []) (fun p => l.length - p.1.2) ⟨(a, n), hadv.2, hadv.1, l.length, by omega, hres⟩ (by simp) ?_
    rintro ⟨⟨a, n⟩, hn, hin, g, hg, hR⟩
    simp only at hn hin hg hR
    have hop := r8_operator_cs (G := G) l n k (by omega) (by omega)
    have hn1 := wrap64s (show n < 9223372036854775807 by omega)
    simp
    refine callK.mk (hkl := opXR_keyless _) ent_r8_operator hop ?_
    cases hx : opX l n k with
    | none =>
      rw [rnd_none hx] at hR
      cases hR
      simp [opXR]
    | some c =>
      obtain ⟨op, ex⟩ := c
      have hnl := opX_some hx
      obtain ⟨g, rfl⟩ : ∃ h, g = h + 1 := ⟨g - 1, by omega⟩
      rw [rndX, hx] at hR
      simp only at hR
      simp [opXR]
      by_cases h2 : k = 2
      · rw [if_pos h2] at hR
        have h26 : ¬ k = 6 := by omega
        simp only [if_neg h26] at hR
        subst h2
        have hat2 := hA (n + 1) 2 (by omega) (by omega) hnl (by
          have := mu_next (L := l.length) (i := i) (i' := n + 1) (k := 2) (k' := 2) (by omega) hnl (by omega) (by omega)
          omega)
        simp [hn1, hk1]
        refine callK.mk (hkl := resX_keyless _ _) ent_r8_read hat2 ?_
        cases hr2 : atF kwB l f (n + 1) 2 with
        | none =>
          rw [hr2] at hR
          cases hR
          simp [resX]
        | some z =>
          obtain ⟨b, m⟩ := z
          have hadv2 := atF_adv kwB l f _ _ _ _ hr2
          rw [hr2] at hR
          simp only at hR
          simp [resX]
          cases ex with
          | true =>
            simp [rg2]
            exact Again.mk ⟨(tw op b a, m), hadv2.2, by simp only; omega, g, by simp only; omega, by simpa using hR⟩ (by simp [tw, prC_eq]) (by simp; omega)
          | false =>
            simp [rg2]
            exact Again.mk ⟨(tw op a b, m), hadv2.2, by simp only; omega, g, by simp only; omega, by simpa using hR⟩ (by simp [tw, prC_eq]) (by simp; omega)
      · rw [if_neg h2] at hR
        have h2' : ¬ (k : Int) = 2 := by omega
        have hat2 := hA (n + 1) (k + 1) (by omega) (by omega) hnl (by
          have := mu_next (L := l.length) (i := i) (i' := n + 1) (k := k) (k' := k + 1) (by omega) hnl (by omega) (by omega)
          omega)
        simp [hn1, hk1, h2, h2']
        refine callK.mk (hkl := resX_keyless _ _) ent_r8_read hat2 ?_
        cases hr2 : atF kwB l f (n + 1) (k + 1) with
        | none =>
          rw [hr2] at hR
          cases hR
          simp [resX]
        | some z =>
          obtain ⟨b, m⟩ := z
          have hadv2 := atF_adv kwB l f _ _ _ _ hr2
          rw [hr2] at hR
          simp only at hR
          simp [resX]
          by_cases h6 : k = 6
          · rw [if_pos h6] at hR
            cases hR
            have h6' : (k : Int) = 6 := by omega
            cases ex with
            | true => simp [rg2, h6, h6', tw, prC_eq]
            | false => simp [rg2, h6, h6', tw, prC_eq]
          · rw [if_neg h6] at hR
            have h6' : ¬ (k : Int) = 6 := by omega
            cases ex with
            | true =>
              simp [rg2, h6, h6']
              exact Again.mk ⟨(tw op b a, m), hadv2.2, by simp only; omega, g, by simp only; omega, by simpa using hR⟩ (by simp [tw, prC_eq]) (by simp; omega)
            | false =>
              simp [rg2, h6, h6']
              exact Again.mk ⟨(tw op a b, m), hadv2.2, by simp only; omega, g, by simp only; omega, by simpa using hR⟩ (by simp [tw, prC_eq]) (by simp; omega)
theorem read_all (hl : okTs l) : ∀ f, RdC G l f
  | 0 => fun i k _ h10 _ h => by unfold mu at h; omega
  | f + 1 => r8_read_cs hl (read_all hl f)
theorem read_top (hl : okTs l) : CS Tryz.prog G 42 [tkD l, .int .i64 0, .int .i64 1] (resX (readT l) 0) none := read_all hl _ 0 1 (by omega) (by omega) (by omega) (Nat.le_refl _)
end
end Go.Proofs.YtlglfkdjlbcpjaaGreatDoor
end

section
set_option linter.unusedVariables false
set_option linter.unusedSimpArgs false
set_option linter.unusedSectionVars false
namespace Go.Proofs.YtlglfkdjlbcpjaaGreatDoor
open Go Go.VM
set_option maxRecDepth 100000
set_option maxHeartbeats 8000000
variable {G : GT}
theorem ent_r8_Read : VM.Enters Tryz.prog 19 := VM.Enters.mk Tryz.func19 rfl
theorem r8_Read_cs (l : List Tok) (hl : okTs l) (hn : ∀ p n, readT l = some (p, n) → nodP p ≤ 1000000) : CS Tryz.prog G 19 [.sl (l.map tokE)] (readR l) none := by
  have hat := read_top (G := G) hl
  obtain ⟨o, ho⟩ : ∃ o, readT l = o := ⟨_, rfl⟩
  rw [ho] at hat hn
  unfold readR
  rw [ho]
  refine CS.of_VK Tryz.func19 rfl Tryz.ntmps19 rfl ?_
  simp
  refine callK.mk (hkl := resX_keyless _ _) ent_r8_read hat ?_
  cases o with
  | none => simp [resX]
  | some q =>
    obtain ⟨p, n⟩ := q
    have hck := r7_Check_cs (G := G) p (by have := hn p n rfl; omega)
    simp [resX]
    refine callK.mk ent_r7_Check hck ?_
    by_cases h0 : chkE p = 0
    · simp [h0]
    · simp [h0]
theorem ent_r8_Parse : VM.Enters Tryz.prog 16 := VM.Enters.mk Tryz.func16 rfl
theorem r8_Parse_cs (s : List UInt8) (hs : s.length ≤ 900000000) : CS Tryz.prog G 16 [.str s] (parseR s) none := by
  have hlx := r5_Tokens_cs (G := G) s hs
  unfold parseR
  refine CS.of_VK Tryz.func16 rfl Tryz.ntmps16 rfl ?_
  simp
  by_cases hlong : 40000 < s.length
  · rw [if_pos hlong] at hlx ⊢
    refine callK.mk ent_r5_Tokens hlx ?_
    simp [badR]
  rw [if_neg hlong] at hlx ⊢
  cases hx : lexG numL s 0 1 false with
  | error e =>
    rw [hx] at hlx
    simp only [tokD, tokN, tokF] at hlx
    refine callK.mk ent_r5_Tokens hlx ?_
    simp [badR]
  | ok l =>
    obtain ⟨hok, h1⟩ := okTs_lex hx (by omega)
    have hll := hok.1
    rw [hx] at hlx
    simp only [tokD, tokN, tokF, toks] at hlx
    have hat := read_top (G := G) hok
    have hw : IntKind.i64.wrap ((l.length : Int) - 1) = (l.length : Int) - 1 := wrap64 (by omega)
    simp only
    refine callK.mk ent_r5_Tokens hlx ?_
    simp
    refine callK.mk (hkl := resX_keyless _ _) ent_r8_read hat ?_
    cases hr : readT l with
    | none => simp [resX, badR]
    | some q =>
      obtain ⟨p, n⟩ := q
      have hck := r7_Check_cs (G := G) p (Nat.le_trans (readT_nod hr) (by omega))
      by_cases hn : n + 1 = l.length
      · have hn' : (n : Int) = (l.length : Int) - 1 := by omega
        simp [resX, hw, hn', hn]
        refine callK.mk ent_r7_Check hck ?_
        by_cases h0 : chkE p = 0
        · simp [h0]
        · simp [h0, badR]
      · have hn' : ¬ (n : Int) = (l.length : Int) - 1 := by omega
        simp [resX, hw, hn', hn, badR]
end Go.Proofs.YtlglfkdjlbcpjaaGreatDoor
end
