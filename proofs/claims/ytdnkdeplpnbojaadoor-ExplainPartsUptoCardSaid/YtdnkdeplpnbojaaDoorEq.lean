/- What failures come in. No condition. -/
import Derived.Test.YtdnkdeplpnbojaaDoorEi
set_option linter.unusedVariables false
set_option linter.unusedSimpArgs false
set_option linter.unusedSectionVars false
namespace Go.Proofs.YtdnkdeplpnbojaaDoor
open Go Go.VM
set_option maxRecDepth 100000
set_option maxHeartbeats 8000000
theorem exists_vals : ∀ {es : List (List D)}, (∀ x ∈ es, ∃ v, x = valC v ∧ valI v) → ∃ l, es = valsC l ∧ valsI l
  | [], _ => ⟨[], by simp [valsC], by unfold valsI; trivial⟩
  | x :: r, h => by
    obtain ⟨v, rfl, hv⟩ := h x (.head _)
    obtain ⟨l, rfl, hl⟩ := exists_vals fun y hy => h y (.tail _ hy)
    exact ⟨v :: l, by simp [valsC], by unfold valsI; exact ⟨hv, hl⟩⟩
theorem szL_mem : ∀ {es : List (List D)} {x : List D}, x ∈ es → szL x ≤ szLL es
  | y :: r, x, h => by
    simp only [szLL]
    rcases List.mem_cons.1 h with rfl | h
    · omega
    · have := szL_mem h
      omega
theorem fit_val : ∀ (N : Nat) {x : List D}, FitsT Tryd.prog 71 x → szL x < N → ∃ v, x = valC v ∧ valI v
  | 0, x, h, hN => absurd hN (Nat.not_lt_zero _)
  | N + 1, x, h, hN => by
    obtain ⟨a, b, c, d, e, f, g, rfl, h1, h2, h3, h4, _⟩ := inv71 h
    obtain ⟨op, h1, _⟩ := fits_int tu67 h1
    obtain ⟨n, h2, hn⟩ := fits_int tu3 h2
    obtain ⟨nm, h3⟩ := fit_str1 h3
    obtain ⟨es, h4, _, h4'⟩ := fits_sl ty_elem44 h4
    cases h1; cases h2; cases h3; cases h4
    simp only [szL, szD] at hN
    obtain ⟨l, rfl, hl⟩ := exists_vals (es := es) fun y hy => fit_val N (h4' y hy) (by have := szL_mem hy; omega)
    exact ⟨.mk op n nm l e f g, by simp only [valC], by unfold valI; exact ⟨wf_I64 hn, hl⟩⟩
theorem explainFailures_all (xs : List D) (h : FitsAll Tryd.prog [46] xs) (hsz : szL xs ≤ 1048576) : CS Tryd.prog G1 11 xs (.d (.bool true)) none := by
  match xs, h with
  | [a], ⟨h1, _⟩ =>
    obtain ⟨cs, rfl, hb⟩ := fitsV_agg ty_field46_0 h1
    obtain ⟨a, b, c, d, e, f, g, i, j, rfl, h1, h2, h3, h4, h5, h6⟩ := inv46 hb
    obtain ⟨df, h1⟩ := fit_str1 h1
    obtain ⟨er, h2, her⟩ := fits_int tu33 h2
    obtain ⟨k, gd, gn, gp, h3⟩ := fit_goal h3
    obtain ⟨pt, h4, hpt⟩ := fit_coords h4
    obtain ⟨es, h5, _, h5'⟩ := fits_sl ty_elem44 h5
    obtain ⟨r, h6⟩ := fits_bool tu4 h6
    cases h1; cases h2; cases h3; cases h4; cases h5; cases h6
    obtain ⟨l, rfl, hl⟩ := exists_vals (es := es) fun y hy => fit_val (szL y + 1) (h5' y hy) (by omega)
    exact l53_ExplainFailures_cs ⟨df, er, k, gd, gn, gp, pt, l, r⟩ (wf_I64 her) hpt hl (by simpa [flC, szL, szD] using hsz)
end Go.Proofs.YtdnkdeplpnbojaaDoor
