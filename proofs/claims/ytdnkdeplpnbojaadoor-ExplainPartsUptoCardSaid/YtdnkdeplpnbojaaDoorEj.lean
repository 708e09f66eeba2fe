/- The statement ExplainParts. No condition. -/
import Derived.Test.YtdnkdeplpnbojaaDoorEq
set_option linter.unusedVariables false
set_option linter.unusedSimpArgs false
set_option linter.unusedSectionVars false
namespace Go.Proofs.YtdnkdeplpnbojaaDoor
open Go Go.VM
set_option maxRecDepth 100000
set_option maxHeartbeats 8000000
variable {G : GT}
def begB (s t : List UInt8) : Bool := decide (t.length ≤ s.length) && decide (s.take t.length = t)
theorem begB_app (a b : List UInt8) : begB (a ++ b) a = true := by simp [begB]
theorem ent_l53_begins : VM.Enters Tryd.prog 47 := VM.Enters.mk Tryd.func47 rfl
theorem l53_begins_cs (s t : List UInt8) : CS Tryd.prog G 47 [.str s, .str t] (.d (.bool (begB s t))) none := by
  refine CS.of_VK Tryd.func47 rfl Tryd.ntmps47 rfl ?_
  by_cases h : t.length ≤ s.length
  · simp [h, begB]
  · simp [h, begB]
theorem join_pre (xs : List (List UInt8)) (sep : List UInt8) : ∀ (k i : Nat), i + k ≤ xs.length → ∃ r, Lib.join (xs.take (i + k)) sep = Lib.join (xs.take i) sep ++ r
  | 0, i, _ => ⟨[], by simp⟩
  | k + 1, i, h => by
    obtain ⟨r, hr⟩ := join_pre xs sep k i (by omega)
    have hs := join_step (sep := sep) (show i + k < xs.length by omega)
    by_cases h0 : 0 < i + k
    · rw [if_pos h0, hr] at hs
      exact ⟨r ++ (sep ++ xs[i + k]), by rw [← Nat.add_assoc, hs]; simp⟩
    · rw [if_neg h0] at hs
      obtain ⟨rfl, rfl⟩ : i = 0 ∧ k = 0 := by omega
      exact ⟨xs[0 + 0], by rw [← Nat.add_assoc, hs]; simp [Lib.join_nil]⟩
theorem ptW_pre (l : List (List UInt8 × Int)) (n : Nat) (h : n ≤ l.length) : ∃ r, ptW l = ptW (l.take n) ++ r := by
  obtain ⟨r, hr⟩ := join_pre (ptL l) [44, 32] (l.length - n) n (by rw [ptL_len]; omega)
  refine ⟨r, ?_⟩
  unfold ptW
  have h1 : n + (l.length - n) = (ptL l).length := by rw [ptL_len]; omega
  rw [h1, List.take_length] at hr
  rw [hr]
  simp [ptL, List.map_take]
theorem errW_inj {i j : Nat} (hi : i < 29) (hj : j < 29) : errW i = errW j ↔ i = j := by
  have hn : ∀ a b : Fin 29, wordsL[a.1]'(by have := a.2; rw [wordsL_len]; omega) = wordsL[b.1]'(by have := b.2; rw [wordsL_len]; omega) → a = b := by decide +kernel
  have hl := wordsL_len
  rw [errW_in (by omega), errW_in (by omega)]
  exact ⟨fun h => congrArg Fin.val (hn ⟨i, hi⟩ ⟨j, hj⟩ h), fun h => by subst h; rfl⟩
theorem tmod_byte {d : Int} (h : 0 ≤ d ∧ d < 256) : ∃ i : Nat, i < 29 ∧ d.tmod 29 = i ∧ IntKind.i64.wrap (i : Int) = i := by
  obtain ⟨n, rfl⟩ : ∃ n : Nat, d = n := ⟨d.toNat, by omega⟩
  have hl : n % 29 < 29 := Nat.mod_lt _ (by decide)
  refine ⟨n % 29, hl, ?_, ?_⟩
  · rw [Int.tmod_eq_emod_of_nonneg (by omega)]; rfl
  · exact wrap64 (by omega)
theorem failW_head (f : FL) : ∃ r, failW f = headW f ++ r := ⟨_, rfl⟩
theorem szLL_take : ∀ (l : List (List D)) (n : Nat), szLL (l.take n) ≤ szLL l
  | [], n => by simp
  | x :: r, 0 => by simp [szLL]
  | x :: r, n + 1 => by
    have := szLL_take r n
    simp only [List.take_succ_cons, szLL]
    omega
theorem l53_ExplainParts_cs (f : FL) (d e : Int) (hd : 0 ≤ d ∧ d < 256) (hq : 0 ≤ e ∧ e < 256) (he : I64 f.err) (hI : ∀ c ∈ f.pt, I64 c.2) (hk : valsI f.args) (hx : szL (flC f) ≤ 1048576) : CS Tryd.prog G1 13 [.agg (flC f), .int .u8 d, .int .u8 e] (.d (.bool true)) none := by
  have ih1 := l53_few_cs (G := G1) f hx
  have ih2 := e_Failure_cs G1_words G1_pow f he hI hk hx
  obtain ⟨r, hr⟩ := failW_head f
  obtain ⟨i, hi, d1, d2⟩ := tmod_byte hd
  obtain ⟨j, hj, e1, e2⟩ := tmod_byte hq
  have hinj := errW_inj hi hj
  have hIi : I64 (i : Int) := ⟨by omega, by omega⟩
  have hIj : I64 (j : Int) := ⟨by omega, by omega⟩
  have hcat : ∀ hp : ¬ 0 < f.pt.length, f.real = false → failW f = headW f := fun hp hr => by simp [failW, hp, hr]
  obtain ⟨df, err, gk, gd, gn, gp, pt, args, real⟩ := f
  simp only [flC, szL, szD] at hx
  simp only at he hI hk
  have b1 := errW_len he
  have b2 := goalW_len gk gd gn (xs := gp) (by omega)
  obtain ⟨b3, b4⟩ := ptW_small hI (by omega)
  unfold flC at ih1 ih2 ⊢
  simp only at ih1 ih2
  refine CS.of_VK Tryd.func13 rfl Tryd.ntmps13 rfl ?_
  simp
  refine callK.mk ent_l53_few ih1 ?_
  cases hb : fewB ⟨df, err, gk, gd, gn, gp, pt, args, real⟩
  · simp
    refine callK.mk ent_l53_alive l53_alive_cs ?_
    simp
  · simp
    refine callK.mk ent_e_Failure ih2 ?_
    simp
    refine ⟨lexOk.mk (by kernel_rfl), ?_⟩
    repeat (refine stepK_len (by omega) ?_; simp)
    refine callK.mk ent_e_Err (e_Err_cs G1_words G1_pow err he) ?_
    simp
    repeat (refine stepK_len (by omega) ?_; simp)
    refine callK.mk ent_e_Goal (e_Goal_cs gk gd gn gp (by omega) (by omega) (by omega)) ?_
    simp
    repeat (refine stepK_len (by omega) ?_; simp)
    have hb1 : begB (failW ⟨df, err, gk, gd, gn, gp, pt, args, real⟩) (headW ⟨df, err, gk, gd, gn, gp, pt, args, real⟩) = true := by rw [hr]; exact begB_app _ _
    refine callK.mk ent_l53_begins (l53_begins_cs (failW ⟨df, err, gk, gd, gn, gp, pt, args, real⟩) (headW ⟨df, err, gk, gd, gn, gp, pt, args, real⟩)) ?_
    rw [hb1]
    by_cases hp : 0 < pt.length
    · have hne : ¬ pt.length = 0 := by omega
      obtain ⟨r2, hr2⟩ := ptW_pre pt (pt.length - 1) (by omega)
      have hI2 : ∀ c ∈ pt.take (pt.length - 1), I64 c.2 := fun c hc => hI c (List.mem_of_mem_take hc)
      have hb2 : begB (ptW pt) (ptW (pt.take (pt.length - 1))) = true := by rw [hr2]; exact begB_app _ _
      have htk : (coordsC pt).take (pt.length - 1) = coordsC (pt.take (pt.length - 1)) := by simp [coordsC, List.map_take]
      have hsub : IntKind.i64.wrap ((pt.length : Int) - 1) = ((pt.length - 1 : Nat) : Int) := by rw [wrap64 (by omega)]; omega
      have hszp : szLL (coordsC (pt.take (pt.length - 1))) ≤ 1048576 := by
        have := szLL_take (coordsC pt) (pt.length - 1)
        rw [htk] at this
        omega
      simp [hne, hp]
      refine ⟨lexOk.mk (by kernel_rfl), ?_⟩
      refine callK.mk ent_e_Point (e_Point_cs G1_pow pt hI (by omega)) ?_
      simp [hsub, htk]
      refine callK.mk ent_e_Point (e_Point_cs G1_pow (pt.take (pt.length - 1)) hI2 hszp) ?_
      simp
      refine callK.mk ent_l53_begins (l53_begins_cs _ _) ?_
      rw [hb2]
      simp [d1, d2, e1, e2]
      by_cases hij : i = j
      · subst hij
        refine callK.mk ent_e_Err (e_Err_cs G1_words G1_pow i hIi) ?_
        simp
        refine callK.mk ent_e_Err (e_Err_cs G1_words G1_pow i hIi) ?_
        simp
        refine callK.mk ent_l53_alive l53_alive_cs ?_
        simp
      · have hq1 : ¬ errW i = errW j := by rw [hinj]; exact hij
        have hq2 : ¬ (i : Int) = j := by omega
        refine callK.mk ent_e_Err (e_Err_cs G1_words G1_pow i hIi) ?_
        simp
        refine callK.mk ent_e_Err (e_Err_cs G1_words G1_pow j hIj) ?_
        simp [hij, hq1, hq2]
        refine callK.mk ent_l53_alive l53_alive_cs ?_
        simp
    · have hp0 : pt = [] := List.length_eq_zero_iff.1 (by omega)
      subst hp0
      cases real
      · have hc : failW ⟨df, err, gk, gd, gn, gp, [], args, false⟩ = df ++ (58 :: 32 :: (errW err ++ (58 :: 32 :: goalW gk gd gn gp))) := hcat hp rfl
        simp [hc]
        refine ⟨lexOk.mk (by kernel_rfl), ?_⟩
        simp [d1, d2, e1, e2]
        by_cases hij : i = j
        · subst hij
          refine callK.mk ent_e_Err (e_Err_cs G1_words G1_pow i hIi) ?_
          simp
          refine callK.mk ent_e_Err (e_Err_cs G1_words G1_pow i hIi) ?_
          simp
          refine callK.mk ent_l53_alive l53_alive_cs ?_
          simp
        · have hq1 : ¬ errW i = errW j := by rw [hinj]; exact hij
          have hq2 : ¬ (i : Int) = j := by omega
          refine callK.mk ent_e_Err (e_Err_cs G1_words G1_pow i hIi) ?_
          simp
          refine callK.mk ent_e_Err (e_Err_cs G1_words G1_pow j hIj) ?_
          simp [hij, hq1, hq2]
          refine callK.mk ent_l53_alive l53_alive_cs ?_
          simp
      · simp
        refine ⟨lexOk.mk (by kernel_rfl), ?_⟩
        simp [d1, d2, e1, e2]
        by_cases hij : i = j
        · subst hij
          refine callK.mk ent_e_Err (e_Err_cs G1_words G1_pow i hIi) ?_
          simp
          refine callK.mk ent_e_Err (e_Err_cs G1_words G1_pow i hIi) ?_
          simp
          refine callK.mk ent_l53_alive l53_alive_cs ?_
          simp
        · have hq1 : ¬ errW i = errW j := by rw [hinj]; exact hij
          have hq2 : ¬ (i : Int) = j := by omega
          refine callK.mk ent_e_Err (e_Err_cs G1_words G1_pow i hIi) ?_
          simp
          refine callK.mk ent_e_Err (e_Err_cs G1_words G1_pow j hIj) ?_
          simp [hij, hq1, hq2]
          refine callK.mk ent_l53_alive l53_alive_cs ?_
          simp
theorem explainParts_all (xs : List D) (h : FitsAll Tryd.prog [46, 5, 5] xs) (hsz : szL xs ≤ 1048576) : CS Tryd.prog G1 13 xs (.d (.bool true)) none := by
  match xs, h with
  | [a, y, z], ⟨h1, hy, hz, _⟩ =>
    obtain ⟨cs, rfl, hb⟩ := fitsV_agg ty_field46_0 h1
    obtain ⟨d, rfl, hd⟩ := fitsV_int tu5 hy
    obtain ⟨e, rfl, he⟩ := fitsV_int tu5 hz
    obtain ⟨a, b, c, d', e', f, g, i, j, rfl, h1, h2, h3, h4, h5, h6⟩ := inv46 hb
    obtain ⟨df, h1⟩ := fit_str1 h1
    obtain ⟨er, h2, her⟩ := fits_int tu33 h2
    obtain ⟨k, gd, gn, gp, h3⟩ := fit_goal h3
    obtain ⟨pt, h4, hpt⟩ := fit_coords h4
    obtain ⟨es, h5, _, h5'⟩ := fits_sl ty_elem44 h5
    obtain ⟨r, h6⟩ := fits_bool tu4 h6
    cases h1; cases h2; cases h3; cases h4; cases h5; cases h6
    obtain ⟨l, rfl, hl⟩ := exists_vals (es := es) fun y hy => fit_val (szL y + 1) (h5' y hy) (by omega)
    simp only [szL, szD] at hsz
    exact l53_ExplainParts_cs ⟨df, er, k, gd, gn, gp, pt, l, r⟩ d e (by simp [Lit.wf, IntKind.min, IntKind.max, IntKind.bits, IntKind.signed] at hd; omega) (by simp [Lit.wf, IntKind.min, IntKind.max, IntKind.bits, IntKind.signed] at he; omega) (wf_I64 her) hpt hl (by simp only [flC, szL, szD]; omega)
end Go.Proofs.YtdnkdeplpnbojaaDoor
