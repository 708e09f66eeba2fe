/- Goals, and the statement ExplainGoals. No condition. -/
import Derived.Test.YtdnkdeplpnbojaaDoorEf
set_option linter.unusedVariables false
set_option linter.unusedSimpArgs false
set_option linter.unusedSectionVars false
namespace Go.Proofs.YtdnkdeplpnbojaaDoor
open Go Go.VM
set_option maxRecDepth 100000
set_option maxHeartbeats 8000000
variable {G : GT}
/-- What a goal says. -/
def goalW (k : Int) (df nm : List UInt8) (xs : List (List UInt8)) : List UInt8 :=
  kindW k nm ++ ((if df = [] then [] else [32, 105, 110, 32] ++ df) ++ (if 0 < xs.length then [32, 40] ++ (Lib.join xs [32, 62, 32] ++ [41]) else []))
theorem kindW_len (k : Int) (n : List UInt8) : (kindW k n).length ≤ n.length + 13 := by
  have := phrW_len k
  unfold kindW
  split
  · simp; omega
  split
  · simp; omega
  split
  · simp; omega
  · omega
theorem goalW_len (k : Int) (df nm : List UInt8) {xs : List (List UInt8)} (ha : szLL (strs xs) ≤ 1048576) : (goalW k df nm xs).length ≤ df.length + nm.length + 6000000 := by
  obtain ⟨hj1, hj2⟩ := join_small (xs := xs) (sep := [32, 62, 32]) ha (by decide)
  have h1 := kindW_len k nm
  unfold goalW
  split <;> split <;> simp <;> omega
theorem ent_e_Goal : VM.Enters Tryd.prog 36 := VM.Enters.mk Tryd.func36 rfl
theorem e_Goal_cs (k : Int) (df nm : List UInt8) (xs : List (List UInt8)) (hd : df.length ≤ 1048576) (hn : nm.length ≤ 1048576) (ha : szLL (strs xs) ≤ 1048576) : CS Tryd.prog G 36 [.agg [.int .i64 k, .str df, .str nm, .sl (strs xs)]] (.d (.str (goalW k df nm xs))) none := by
  refine CS.of_VK Tryd.func36 rfl Tryd.ntmps36 rfl ?_
  obtain ⟨hj1, hj2⟩ := join_small (xs := xs) (sep := [32, 62, 32]) ha (by decide)
  have hp := phrW_len k
  have hk := kindW_len k nm
  simp
  refine callK.mk ent_e_phrase (e_phrase_cs k) ?_
  by_cases hd0 : df = []
  · subst hd0
    by_cases hx : 0 < xs.length
    · by_cases w1 : (phrW k).2 = 1
      · simp [hx, w1, kindW, goalW]
        repeat (refine stepK_len (by omega) ?_; simp [hx, w1, kindW, goalW])
        refine callK.mk ent_e_Path (e_Path_cs xs (by omega) (by omega)) ?_
        simp [hx, w1, kindW, goalW]
        repeat (refine stepK_len (by omega) ?_; simp [hx, w1, kindW, goalW])
      by_cases w2 : (phrW k).2 = 2
      · simp [hx, w1, w2, kindW, goalW]
        repeat (refine stepK_len (by omega) ?_; simp [hx, w1, w2, kindW, goalW])
        refine callK.mk ent_e_Path (e_Path_cs xs (by omega) (by omega)) ?_
        simp [hx, w1, w2, kindW, goalW]
        repeat (refine stepK_len (by omega) ?_; simp [hx, w1, w2, kindW, goalW])
      by_cases w3 : (phrW k).2 = 3
      · simp [hx, w1, w2, w3, kindW, goalW]
        repeat (refine stepK_len (by omega) ?_; simp [hx, w1, w2, w3, kindW, goalW])
        refine callK.mk ent_e_Path (e_Path_cs xs (by omega) (by omega)) ?_
        simp [hx, w1, w2, w3, kindW, goalW]
        repeat (refine stepK_len (by omega) ?_; simp [hx, w1, w2, w3, kindW, goalW])
      simp [hx, w1, w2, w3, kindW, goalW]
      repeat (refine stepK_len (by omega) ?_; simp [hx, w1, w2, w3, kindW, goalW])
      refine callK.mk ent_e_Path (e_Path_cs xs (by omega) (by omega)) ?_
      simp [hx, w1, w2, w3, kindW, goalW]
      repeat (refine stepK_len (by omega) ?_; simp [hx, w1, w2, w3, kindW, goalW])
    · by_cases w1 : (phrW k).2 = 1
      · simp [hx, w1, kindW, goalW]
        repeat (refine stepK_len (by omega) ?_; simp [hx, w1, kindW, goalW])
      by_cases w2 : (phrW k).2 = 2
      · simp [hx, w1, w2, kindW, goalW]
        repeat (refine stepK_len (by omega) ?_; simp [hx, w1, w2, kindW, goalW])
      by_cases w3 : (phrW k).2 = 3
      · simp [hx, w1, w2, w3, kindW, goalW]
        repeat (refine stepK_len (by omega) ?_; simp [hx, w1, w2, w3, kindW, goalW])
      simp [hx, w1, w2, w3, kindW, goalW]
      repeat (refine stepK_len (by omega) ?_; simp [hx, w1, w2, w3, kindW, goalW])
  · have hde : df.isEmpty = false := by
      cases df with
      | nil => exact absurd rfl hd0
      | cons _ _ => rfl
    by_cases hx : 0 < xs.length
    · by_cases w1 : (phrW k).2 = 1
      · simp [hd0, hde, hx, w1, kindW, goalW]
        repeat (refine stepK_len (by omega) ?_; simp [hd0, hde, hx, w1, kindW, goalW])
        refine callK.mk ent_e_Path (e_Path_cs xs (by omega) (by omega)) ?_
        simp [hd0, hde, hx, w1, kindW, goalW]
        repeat (refine stepK_len (by omega) ?_; simp [hd0, hde, hx, w1, kindW, goalW])
      by_cases w2 : (phrW k).2 = 2
      · simp [hd0, hde, hx, w1, w2, kindW, goalW]
        repeat (refine stepK_len (by omega) ?_; simp [hd0, hde, hx, w1, w2, kindW, goalW])
        refine callK.mk ent_e_Path (e_Path_cs xs (by omega) (by omega)) ?_
        simp [hd0, hde, hx, w1, w2, kindW, goalW]
        repeat (refine stepK_len (by omega) ?_; simp [hd0, hde, hx, w1, w2, kindW, goalW])
      by_cases w3 : (phrW k).2 = 3
      · simp [hd0, hde, hx, w1, w2, w3, kindW, goalW]
        repeat (refine stepK_len (by omega) ?_; simp [hd0, hde, hx, w1, w2, w3, kindW, goalW])
        refine callK.mk ent_e_Path (e_Path_cs xs (by omega) (by omega)) ?_
        simp [hd0, hde, hx, w1, w2, w3, kindW, goalW]
        repeat (refine stepK_len (by omega) ?_; simp [hd0, hde, hx, w1, w2, w3, kindW, goalW])
      simp [hd0, hde, hx, w1, w2, w3, kindW, goalW]
      repeat (refine stepK_len (by omega) ?_; simp [hd0, hde, hx, w1, w2, w3, kindW, goalW])
      refine callK.mk ent_e_Path (e_Path_cs xs (by omega) (by omega)) ?_
      simp [hd0, hde, hx, w1, w2, w3, kindW, goalW]
      repeat (refine stepK_len (by omega) ?_; simp [hd0, hde, hx, w1, w2, w3, kindW, goalW])
    · by_cases w1 : (phrW k).2 = 1
      · simp [hd0, hde, hx, w1, kindW, goalW]
        repeat (refine stepK_len (by omega) ?_; simp [hd0, hde, hx, w1, kindW, goalW])
      by_cases w2 : (phrW k).2 = 2
      · simp [hd0, hde, hx, w1, w2, kindW, goalW]
        repeat (refine stepK_len (by omega) ?_; simp [hd0, hde, hx, w1, w2, kindW, goalW])
      by_cases w3 : (phrW k).2 = 3
      · simp [hd0, hde, hx, w1, w2, w3, kindW, goalW]
        repeat (refine stepK_len (by omega) ?_; simp [hd0, hde, hx, w1, w2, w3, kindW, goalW])
      simp [hd0, hde, hx, w1, w2, w3, kindW, goalW]
      repeat (refine stepK_len (by omega) ?_; simp [hd0, hde, hx, w1, w2, w3, kindW, goalW])
theorem ent_r53_Goal : VM.Enters Tryd.prog 37 := VM.Enters.mk Tryd.func37 rfl
theorem r53_Goal_cs (k : Int) (df nm : List UInt8) (xs : List (List UInt8)) (hd : df.length ≤ 1048576) (hn : nm.length ≤ 1048576) (ha : szLL (strs xs) ≤ 1048576) : CS Tryd.prog G 37 [.agg [.int .i64 k, .str df, .str nm, .sl (strs xs)]] (.d (.str (goalW k df nm xs))) none := by
  refine CS.of_VK Tryd.func37 rfl Tryd.ntmps37 rfl ?_
  obtain ⟨hj1, hj2⟩ := join_small (xs := xs) (sep := [32, 62, 32]) ha (by decide)
  have hp := phrW_len k
  have hk := kindW_len k nm
  simp
  refine callK.mk ent_r53_kind (r53_kind_cs k nm (by omega)) ?_
  generalize hK : kindW k nm = kw at *
  by_cases hd0 : df = []
  · subst hd0
    by_cases hx : 0 < xs.length
    · simp [hx, goalW, hK]
      repeat (refine stepK_len (by omega) ?_; simp [hx, goalW, hK])
      refine callK.mk ent_r53_Path (r53_Path_cs xs (by omega) (by omega)) ?_
      simp [hx, goalW, hK]
      repeat (refine stepK_len (by omega) ?_; simp [hx, goalW, hK])
    · simp [hx, goalW, hK]
      repeat (refine stepK_len (by omega) ?_; simp [hx, goalW, hK])
  · have hde : df.isEmpty = false := by
      cases df with
      | nil => exact absurd rfl hd0
      | cons _ _ => rfl
    by_cases hx : 0 < xs.length
    · simp [hd0, hde, hx, goalW, hK]
      repeat (refine stepK_len (by omega) ?_; simp [hd0, hde, hx, goalW, hK])
      refine callK.mk ent_r53_Path (r53_Path_cs xs (by omega) (by omega)) ?_
      simp [hd0, hde, hx, goalW, hK]
      repeat (refine stepK_len (by omega) ?_; simp [hd0, hde, hx, goalW, hK])
    · simp [hd0, hde, hx, goalW, hK]
      repeat (refine stepK_len (by omega) ?_; simp [hd0, hde, hx, goalW, hK])
theorem l53_ExplainGoals_cs (k : Int) (df nm : List UInt8) (xs : List (List UInt8)) (l : List (List UInt8 × Int)) (hd : df.length ≤ 1048576) (hn : nm.length ≤ 1048576) (ha : szLL (strs xs) ≤ 1048576) (hI : ∀ c ∈ l, I64 c.2) (hl : szLL (coordsC l) ≤ 1048576) : CS Tryd.prog G1 10 [.agg [.int .i64 k, .str df, .str nm, .sl (strs xs)], .sl (coordsC l)] (.d (.bool true)) none := by
  refine CS.of_VK Tryd.func10 rfl Tryd.ntmps10 rfl ?_
  obtain ⟨hj1, hj2⟩ := join_small (xs := xs) (sep := [32, 62, 32]) ha (by decide)
  by_cases hx : 200 < xs.length
  · simp [hx]
    refine callK.mk ent_l53_alive l53_alive_cs ?_
    simp
  by_cases hy : 200 < l.length
  · simp [hx, hy]
    refine callK.mk ent_l53_alive l53_alive_cs ?_
    simp
  simp [hx, hy]
  refine ⟨lexOk.mk (by kernel_rfl), ?_⟩
  refine callK.mk ent_e_Goal (e_Goal_cs k df nm xs hd hn ha) ?_
  simp
  refine callK.mk ent_r53_Goal (r53_Goal_cs k df nm xs hd hn ha) ?_
  simp
  refine callK.mk ent_e_Path (e_Path_cs xs (by omega) (by omega)) ?_
  simp
  refine callK.mk ent_r53_Path (r53_Path_cs xs (by omega) (by omega)) ?_
  simp
  refine callK.mk ent_e_Point (e_Point_cs G1_pow l hI hl) ?_
  simp
  refine callK.mk ent_r53_Point (r53_Point_cs G1_pow l hI hl) ?_
  simp
  refine callK.mk ent_l53_alive l53_alive_cs ?_
  simp
theorem exists_coords : ∀ {es : List (List D)}, (∀ x ∈ es, ∃ s n, x = [D.str s, .int .i64 n] ∧ I64 n) → ∃ l, es = coordsC l ∧ ∀ c ∈ l, I64 c.2
  | [], _ => ⟨[], rfl, by simp⟩
  | x :: r, h => by
    obtain ⟨s, n, rfl, hn⟩ := h x (.head _)
    obtain ⟨l, rfl, hl⟩ := exists_coords fun y hy => h y (.tail _ hy)
    refine ⟨(s, n) :: l, rfl, fun c hc => ?_⟩
    rcases List.mem_cons.1 hc with rfl | hc
    · exact hn
    · exact hl c hc
theorem wf_I64 {n : Int} (hn : (Lit.int .i64 n).wf = true) : I64 n := by
  simp [Lit.wf] at hn
  unfold I64
  simpa [IntKind.min, IntKind.max, IntKind.bits, IntKind.signed] using hn
theorem fit_coordsE {es : List (List D)} (h2 : ∀ x ∈ es, FitsT Tryd.prog 66 x) : ∃ l, es = coordsC l ∧ ∀ c ∈ l, I64 c.2 :=
  exists_coords fun y hy => by
    obtain ⟨a, b, rfl, q1, q2⟩ := inv66 (h2 y hy)
    obtain ⟨s, q1⟩ := fit_str1 q1
    obtain ⟨n, q2, hn⟩ := fits_int tu3 q2
    cases q1; cases q2
    exact ⟨s, n, rfl, wf_I64 hn⟩
theorem fit_coords {x : List D} (h : FitsT Tryd.prog 39 x) : ∃ l, x = [.sl (coordsC l)] ∧ ∀ c ∈ l, I64 c.2 := by
  obtain ⟨es, rfl, _, h2⟩ := fits_sl ty_elem39 h
  obtain ⟨l, rfl, hl⟩ := fit_coordsE h2
  exact ⟨l, rfl, hl⟩
theorem fit_goal {x : List D} (h : FitsT Tryd.prog 37 x) : ∃ k df nm xs, x = [.int .i64 k, .str df, .str nm, .sl (strs xs)] := by
  obtain ⟨a, b, c, d, rfl, h1, h2, h3, h4⟩ := inv37 h
  obtain ⟨k, h1, _⟩ := fits_int tu34 h1
  obtain ⟨df, h2⟩ := fit_str1 h2
  obtain ⟨nm, h3⟩ := fit_str1 h3
  obtain ⟨xs, h4⟩ := fit_strs h4
  cases h1; cases h2; cases h3; cases h4
  exact ⟨k, df, nm, xs, rfl⟩
theorem explainGoals_all (xs : List D) (h : FitsAll Tryd.prog [37, 39] xs) (hsz : szL xs ≤ 1048576) : CS Tryd.prog G1 10 xs (.d (.bool true)) none := by
  match xs, h with
  | [a, b], ⟨h1, h2, _⟩ =>
    obtain ⟨cs, rfl, hb⟩ := fitsV_agg ty_field37_0 h1
    obtain ⟨k, df, nm, xs, rfl⟩ := fit_goal hb
    obtain ⟨es, rfl, hm, he⟩ := fitsV_sl ty_elem39 h2
    obtain ⟨l, rfl, hI⟩ := fit_coordsE he
    simp only [szL, szD] at hsz
    exact l53_ExplainGoals_cs k df nm xs l (by omega) (by omega) (by omega) hI (by omega)
end Go.Proofs.YtdnkdeplpnbojaaDoor
