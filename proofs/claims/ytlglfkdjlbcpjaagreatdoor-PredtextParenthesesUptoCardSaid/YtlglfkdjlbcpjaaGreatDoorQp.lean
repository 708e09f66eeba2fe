/- The statement PredtextParentheses: its function gives true. No condition. -/
import Derived.Test.YtlglfkdjlbcpjaaGreatDoorQn
import Derived.Test.YtlglfkdjlbcpjaaGreatDoorZE
set_option linter.unusedVariables false
set_option linter.unusedSimpArgs false
set_option linter.unusedSectionVars false
namespace Go.Proofs.YtlglfkdjlbcpjaaGreatDoor
open Go Go.VM
set_option maxRecDepth 100000
set_option maxHeartbeats 8000000
theorem txt_zero : txtR ⟨0, [], 0, []⟩ = .tup [.str [], .int .i64 1] := by
  have h : chkE ⟨0, [], 0, []⟩ = 1 := by kernel_rfl
  unfold txtR
  rw [h, if_neg (by decide)]
theorem txt_some {p : Pr} (h : WfP nmQ p) : ∃ c z, bdO oT p = c :: z := by
  obtain ⟨_, _, c, z, _, e, _⟩ := fst_all h
  exact ⟨c, z, e⟩
theorem ent_l8_PredtextParentheses : VM.Enters Tryz.prog 8 := VM.Enters.mk Tryz.func8 rfl
theorem l8_PredtextParentheses_cs (s : List UInt8) (hs : s.length ≤ 100000000) : CS Tryz.prog G0 8 [.str s] (.d (.bool true)) none := by
  refine CS.of_VK Tryz.func8 rfl Tryz.ntmps8 rfl ?_
  match s, hs with
  | [], _ =>
    simp
    refine callK.mk ent_l8_awake l8_awake_cs ?_
    simp
  | c :: r, hs =>
  obtain ⟨s, he⟩ : ∃ s, s = c :: r := ⟨_, rfl⟩
  have h0 : (0 : Int) < (r.length : Int) + 1 := by omega
  by_cases hlong : 2000 < r.length + 1
  · have e1 : (2000 : Int) < (r.length : Int) + 1 := by omega
    simp [e1]
    refine callK.mk ent_l8_awake l8_awake_cs ?_
    simp
  have e1 : ¬ (2000 : Int) < (r.length : Int) + 1 := by omega
  by_cases c45 : c = 45
  · subst c45
    simp [e1, h0]
    refine callK.mk ent_l8_awake l8_awake_cs ?_
    simp
  have n45 : ¬ c.toNat = 45 := fun e => c45 (UInt8.toNat_inj.1 e)
  have m45 : ¬ (c.toNat : Int) = 45 := by omega
  by_cases c32 : c = 32
  · subst c32
    simp [e1, h0]
    refine callK.mk ent_l8_awake l8_awake_cs ?_
    simp
  have n32 : ¬ c.toNat = 32 := fun e => c32 (UInt8.toNat_inj.1 e)
  have m32 : ¬ (c.toNat : Int) = 32 := by omega
  by_cases c9 : c = 9
  · subst c9
    simp [e1, h0]
    refine callK.mk ent_l8_awake l8_awake_cs ?_
    simp
  have n9 : ¬ c.toNat = 9 := fun e => c9 (UInt8.toNat_inj.1 e)
  have m9 : ¬ (c.toNat : Int) = 9 := by omega
  by_cases c10 : c = 10
  · subst c10
    simp [e1, h0]
    refine callK.mk ent_l8_awake l8_awake_cs ?_
    simp
  have n10 : ¬ c.toNat = 10 := fun e => c10 (UInt8.toNat_inj.1 e)
  have m10 : ¬ (c.toNat : Int) = 10 := by omega
  simp [e1, h0, c45, n45, m45, c32, n32, m32, c9, n9, m9, c10, n10, m10]
  have hl : s.length = r.length + 1 := by rw [he]; rfl
  have hc0 : s.length ≤ 2000 := by omega
  have hfst : ∃ c r, s = c :: r ∧ c ≠ 10 ∧ c ≠ 32 ∧ c ≠ 9 ∧ c ≠ 45 := ⟨c, r, he, c10, c32, c9, c45⟩
  rw [← he]
  clear e1 h0 n45 m45 n32 m32 n9 m9 n10 m10 c45 c32 c9 c10 hlong
  refine SW.loopF (ι := { i : Nat // i ≤ s.length ∧ ∀ b ∈ s.take i, b ≠ 35 }) (fun i => [(3, .d (.int .i64 i.1))]) (fun _ => []) (fun _ => []) (fun i => s.length - i.1) ⟨0, by simp⟩ (by simp) ?_
  rintro ⟨i, hi, hall⟩
  by_cases hlt : i < s.length
  · have hw := wrap64s (show i < 9223372036854775807 by omega)
    by_cases h35 : s[i] = 35
    · have n35 : (s[i]).toNat = 35 := by rw [h35]; rfl
      simp [hlt, h35, n35]
      refine callK.mk ent_l8_awake l8_awake_cs ?_
      simp
    · have n35 : ¬ (s[i]).toNat = 35 := fun e => h35 (UInt8.toNat_inj.1 e)
      have m35 : ¬ ((s[i]).toNat : Int) = 35 := by omega
      simp [hlt, h35, n35, m35]
      refine Again.mk ⟨i + 1, hlt, fun b hb => ?_⟩ (by simp [hw]) (by simp; omega)
      rw [List.take_succ_eq_append_getElem hlt, List.mem_append] at hb
      rcases hb with hb | hb
      · exact hall b hb
      · rw [List.mem_singleton] at hb
        rw [hb]
        exact h35
  · have hie : i = s.length := by omega
    subst hie
    rw [List.take_length] at hall
    have hmx : (s.length : Int) ≤ 2000 := by omega
    have h1 := predtext_Parse_cs (G := G0) G0_kw G0_sg s (by omega)
    have h2 := predtext_Parse_cs (G := G0) G0_kw G0_sg ([40] ++ (s ++ [41])) (by simp; omega)
    obtain ⟨q2, e2, hq2, hn2⟩ := parse_form ([40] ++ (s ++ [41]))
    rcases parse_cases s with ⟨e, he0, hbad⟩ | ⟨l, p, n, hlx, hrd, hln, hck, hok⟩
    · have h3 := predtext_Text_cs (G := G0) G0_kw G0_pw ⟨0, [], 0, []⟩ (by decide)
      have h4 := predtext_Parse_cs (G := G0) G0_kw G0_sg ([40] ++ ([32] ++ ([32] ++ [41]))) (by decide)
      obtain ⟨q4, e4, hq4, hn4⟩ := parse_form ([40] ++ ([32] ++ ([32] ++ [41])))
      rw [hbad, badR] at h1
      rw [hq2] at h2
      rw [txt_zero] at h3
      rw [hq4] at h4
      simp
      simp only [List.cons_append, List.nil_append] at h2 h4
      refine callK.mk ent_predtext_Parse h1 ?_
      simp
      repeat (refine stepK_len (by first | omega | (simp; omega)) ?_; simp)
      refine callK.mk ent_predtext_Parse h2 ?_
      simp
      refine callK.mk ent_predtext_Text h3 ?_
      simp
      repeat (refine stepK_len (by first | omega | (simp; omega)) ?_; simp)
      refine callK.mk ent_predtext_Parse h4 ?_
      simp [he0]
      refine callK.mk ent_l8_awake l8_awake_cs ?_
      simp
    · have hp2 := paren_parse hc0 hall hfst hlx hrd hln hck
      have hwf := wf_read hlx hrd hck
      have hnp := (chk_zero hck).1
      have htl := bd_len (fun s hs => (nm_ok hs).2.2) (wf_chk hck)
      have h3 := predtext_Text_cs (G := G0) G0_kw G0_pw p (by omega)
      have h5 := r7_Same_cs (G := G0) p p (by omega)
      have ht3 : txtR p = .tup [.str (bdO oT p), .int .i64 0] := by unfold txtR; rw [if_pos hck]
      rw [hok] at h1
      rw [hp2] at h2
      rw [ht3] at h3
      rw [samP_refl] at h5
      have h4 := predtext_Parse_cs (G := G0) G0_kw G0_sg ([40] ++ ([32] ++ (bdO oT p ++ ([32] ++ [41])))) (by simp; omega)
      obtain ⟨t, ht⟩ : ∃ t, bdO oT p = t := ⟨_, rfl⟩
      have hpar := fun h1 h2 => text_paren hwf hck h1 h2
      obtain ⟨c1, z, hcz⟩ := txt_some hwf
      rw [ht] at h3 h4 htl hpar hcz
      by_cases hcond : c1 = 45 ∨ 2000 < t.length
      · obtain ⟨q4, e4, hq4, hn4⟩ := parse_form ([40] ++ ([32] ++ (t ++ ([32] ++ [41]))))
        rw [hq4] at h4
        simp
        simp only [List.cons_append, List.nil_append] at h2 h4
        refine callK.mk ent_predtext_Parse h1 ?_
        simp
        repeat (refine stepK_len (by first | omega | (simp; omega)) ?_; simp)
        refine callK.mk ent_predtext_Parse h2 ?_
        simp
        refine callK.mk ent_predtext_Text h3 ?_
        simp
        repeat (refine stepK_len (by first | omega | (simp; omega)) ?_; simp)
        refine callK.mk ent_predtext_Parse h4 ?_
        simp
        refine callK.mk ent_r7_Same h5 ?_
        subst hcz
        have g0 : (0 : Int) < (z.length : Int) + 1 := by omega
        by_cases c45 : c1 = 45
        · subst c45
          simp [g0]
          refine callK.mk ent_l8_awake l8_awake_cs ?_
          simp
        · have n45 : ¬ c1.toNat = 45 := fun e => c45 (UInt8.toNat_inj.1 e)
          have m45 : ¬ (c1.toNat : Int) = 45 := by omega
          have g2 := hcond.resolve_left c45
          have g2' : (2000 : Int) < (z.length : Int) + 1 := by simp at g2; omega
          simp [g0, c45, n45, m45, g2']
          refine callK.mk ent_l8_awake l8_awake_cs ?_
          simp
      · have c45 : ¬ c1 = 45 := fun e => hcond (.inl e)
        have hlong : ¬ 2000 < t.length := fun e => hcond (.inr e)
        have hq4 := hpar (by omega) (fun s e => by
          rw [hcz] at e
          cases e
          exact c45 rfl)
        rw [hq4] at h4
        simp
        simp only [List.cons_append, List.nil_append] at h2 h4
        refine callK.mk ent_predtext_Parse h1 ?_
        simp
        repeat (refine stepK_len (by first | omega | (simp; omega)) ?_; simp)
        refine callK.mk ent_predtext_Parse h2 ?_
        simp
        refine callK.mk ent_predtext_Text h3 ?_
        simp
        repeat (refine stepK_len (by first | omega | (simp; omega)) ?_; simp)
        refine callK.mk ent_predtext_Parse h4 ?_
        simp
        refine callK.mk ent_r7_Same h5 ?_
        subst hcz
        have g0 : (0 : Int) < (z.length : Int) + 1 := by omega
        have n45 : ¬ c1.toNat = 45 := fun e => c45 (UInt8.toNat_inj.1 e)
        have m45 : ¬ (c1.toNat : Int) = 45 := by omega
        have g2' : ¬ (2000 : Int) < (z.length : Int) + 1 := by simp at hlong; omega
        simp [g0, c45, n45, m45, g2']
        refine callK.mk ent_r7_Same h5 ?_
        simp
        refine callK.mk ent_l8_awake l8_awake_cs ?_
        simp
theorem predtextParentheses_all (xs : List D) (h : FitsAll Tryz.prog [9] xs) (hsz : szL xs ≤ 1048576) : CS Tryz.prog G0 8 xs (.d (.bool true)) none := by
  match xs, h with
  | [a], ⟨h1, _⟩ =>
    obtain ⟨s, rfl, _⟩ := fitsV_str tu9 h1
    simp only [szL, szD] at hsz
    exact l8_PredtextParentheses_cs s (by omega)
end Go.Proofs.YtlglfkdjlbcpjaaGreatDoor
