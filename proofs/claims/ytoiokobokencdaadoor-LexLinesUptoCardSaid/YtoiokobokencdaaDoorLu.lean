/- The statement LexLines: its function gives true. No condition. -/
import Derived.Test.YtoiokobokencdaaDoorLs
set_option linter.unusedVariables false
set_option linter.unusedSimpArgs false
set_option linter.unusedSectionVars false
namespace Go.Proofs.YtoiokobokencdaaDoor
open Go Go.VM
set_option maxRecDepth 100000
set_option maxHeartbeats 8000000
theorem stepK_catL {G : GT} {P : Program} {q : Bool} {x : Out} {c : Prop} [Decidable c] {dst : Option Tmp} {all : Array Oper} {rest : List Oper} {k : List KI} {Q : Exit → St → Prop} (hc : c) (h : stepK P G q (some x) dst all rest k Q) : stepK P G q (if c then some x else none) dst all rest k Q := by
  rw [if_pos hc]
  exact h
theorem lexG_bdl : ∀ (s : List UInt8) (k : Nat) (ln : Int) (cm : Bool) (l : List Tok), lexG numL s k ln cm = .ok l → ∀ t ∈ l, ln ≤ t.line
  | [], k, ln, cm, l, h => by
    simp [lexG] at h
    rw [← h]
    simp
  | c :: r, k + 1, ln, cm, l, h => by
    rw [lexG] at h
    exact lexG_bdl r k ln cm l h
  | c :: r, 0, ln, cm, l, h => by
    rw [lexG] at h
    intro t ht
    split at h
    · have := lexG_bdl r 0 _ _ l h t ht
      omega
    · split at h
      · exact lexG_bdl r 0 _ _ l h t ht
      · split at h
        · exact lexG_bdl r 0 _ _ l h t ht
        · split at h
          · split at h
            · rename_i l2 hl2
              cases h
              rcases List.mem_cons.1 ht with rfl | ht
              · exact Int.le_refl _
              · exact lexG_bdl r _ _ _ l2 hl2 t ht
            · cases h
          · cases h
def LInv (l : List Tok) (x : Nat × Nat × Int) : Prop := x.1 ≤ l.length ∧ x.2.1 + chg (l.drop x.1) x.2.2 = chg l 0 ∧ ((x.1 = 0 → x.2.2 = 0) ∧ ∀ j (h : j < l.length), x.1 = j + 1 → l[j].line = x.2.2) ∧ (l.drop x.1 = [] ∨ OkT numL (l.drop x.1) x.2.2) ∧ x.2.1 ≤ x.1
theorem LInv_zero {l : List Tok} (h : OkT numL l 1) : LInv l (0, 0, 0) := ⟨by simp, by simp, ⟨by simp, by simp⟩, .inr (by simpa using h.mono (by omega)), by simp⟩
theorem LInv_step {l : List Tok} {i c : Nat} {p : Int} (h : LInv l (i, c, p)) (hlt : i < l.length) : LInv l (i + 1, c + (if l[i].kind ≠ 0 ∧ p < l[i].line then 1 else 0), l[i].line) := by
  obtain ⟨h1, h2, h3, h4, h5⟩ := h
  simp only at h1 h2 h3 h4 h5
  have hd : l.drop i = l[i] :: l.drop (i + 1) := List.drop_eq_getElem_cons hlt
  rw [hd] at h2 h4
  rw [chg] at h2
  have hk := OkT_tail (h4.resolve_left (List.cons_ne_nil _ _))
  refine ⟨hlt, ?_, ⟨by simp, fun j hj e => ?_⟩, hk.2, ?_⟩
  · simp only; omega
  · simp only [Nat.add_right_cancel_iff] at e; subst e; rfl
  · simp only; split <;> omega
theorem LInv_line {l : List Tok} {i c : Nat} {p : Int} (h : LInv l (i, c, p)) (hlt : i < l.length) : p ≤ l[i].line := by
  obtain ⟨h1, h2, h3, h4, h5⟩ := h
  simp only at h4
  have hd : l.drop i = l[i] :: l.drop (i + 1) := List.drop_eq_getElem_cons hlt
  rw [hd] at h4
  exact (OkT_tail (h4.resolve_left (List.cons_ne_nil _ _))).1
/-- What stands behind the loop over the tokens. -/
theorem linesT_nil : linesT [] [] = [] := rfl
theorem ent_l5_LexLines : VM.Enters Tryd.prog 6 := VM.Enters.mk Tryd.func6 rfl
theorem l5_LexLines_cs (s : List UInt8) (n : Nat) (hn : n < 256) (hl : s.length ≤ 100000000) : CS Tryd.prog G0 6 [.str s, .int .u8 n] (.d (.bool true)) none := by
  have hwn : IntKind.i64.wrap (n : Int) = n := wrap64 (by omega)
  refine CS.of_VK Tryd.func6 rfl Tryd.ntmps6 rfl ?_
  by_cases hbig : 3000 < s.length
  · have e1 : (3000 : Int) < s.length := by omega
    simp [e1, hbig]
    refine callK.mk ent_l5_awake (l5_awake_cs ) ?_
    simp
  have e1 : ¬ (3000 : Int) < s.length := by omega
  simp [e1, hbig]
  have h1 := lex_Tokens_cs G0_sg s (by omega)
  rw [if_neg (by omega)] at h1
  refine callK.mk ent_lex_Tokens h1 ?_
  cases hx : lexG numL s 0 1 false with
  | error e =>
    simp [tokD, tokN, tokF]
    refine SW.loopF (ι := Unit) (fun _ => [(8, .d (.int .i64 0)), (9, .d (.int .i64 0))]) (fun _ => []) (fun _ => []) (fun _ => 0) () (by simp) ?_
    intro _
    have hL := CS.args (lex_Lines_cs (G := G0) [] (by simp)) (ds := [.nils]) (by simp)
    try simp
    refine SW.loopF (ι := { i : Nat // i ≤ n }) (fun i => [(10, .d (.str (xsT i.1))), (11, .d (.int .i64 i.1))]) (fun _ => []) (fun _ => []) (fun i => n - i.1) ⟨0, by omega⟩ (by simp [xsT]) ?_
    rintro ⟨j, hj⟩
    try simp only at hj
    by_cases hjl : j < n
    · have hw := wrap64s (show j < 9223372036854775807 by omega)
      have hxl := xsT_len j
      simp [hjl, hwn]
      repeat (refine stepK_catL (by omega) ?_; simp)
      exact Again.mk ⟨j + 1, hjl⟩ (by simp [hw, xsT_snoc]) (by simp; omega)
    have hjn : j = n := by omega
    subst hjn
    simp [hwn]
    have h2 := lex_Tokens_cs G0_sg (xsT j) (by rw [xsT_len]; omega)
    rw [if_neg (by rw [xsT_len]; omega), xs_lex j 1] at h2
    refine callK.mk ent_lex_Tokens h2 ?_
    simp [tokD, tokN, tokF]
    refine callK.mk ent_lex_Lines hL ?_
    simp [linesT_nil]
    refine callK.mk ent_lex_Lines (lex_Lines_cs (xsK j 1) (by rw [xsK_len]; omega)) ?_
    have hc := linesT_ok (lexG_ok _ _ _ _ _ (xs_lex j 1)) [] 0 (by simp) (.inr (by omega)) (by omega)
    rw [xsK_chg j 1 0 (by omega)] at hc
    simp at hc
    have hwj : IntKind.i64.wrap ((j : Int) + 1) = j + 1 := wrap64 (by omega)
    simp [hc, hwn, xsK_len, hwj]
    refine callK.mk ent_l5_awake (l5_awake_cs ) ?_
    simp
  | ok l =>
    have hok := lexG_ok _ _ _ _ _ hx
    have hbd := lexG_bdl s 0 1 false l hx
    have hlen := lexG_len1 s l hx
    have hL := lex_Lines_cs (G := G0) l (by omega)
    have hc := linesT_ok hok [] 0 (by simp) (.inr (by omega)) (by omega)
    simp at hc
    simp [tokD, tokN, tokF]
    refine SW.loopF (ι := { x : Nat × Nat × Int // LInv l x }) (fun x => [(8, .d (.int .i64 x.1.2.1)), (9, .d (.int .i64 x.1.1))]) (fun _ => []) (fun _ => []) (fun x => l.length - x.1.1) ⟨(0, 0, 0), LInv_zero hok⟩ (by simp) ?_
    rintro ⟨⟨i, c, p⟩, hI⟩
    by_cases hlt : i < l.length
    · have hw := wrap64s (show i < 9223372036854775807 by omega)
      have hwc := wrap64s (show c < 9223372036854775807 by have := hI.2.2.2.2; simp only at this; omega)
      have h1l := hbd l[i] (List.getElem_mem hlt)
      have h1n : ¬ l[i].line < 1 := by omega
      have hnx := LInv_step hI hlt
      have hkk := LInv_line hI hlt
      have hw1 : IntKind.i64.wrap 1 = 1 := rfl
      cases i with
      | zero =>
        have hp : p = 0 := hI.2.2.1.1 rfl
        subst hp
        simp [hlt, toks_getE, h1n]
        refine ⟨lexOk.mk (by kernel_rfl), ?_⟩
        try simp [hlt, toks_getE, h1n]
        by_cases hk : l[0].kind = 0
        · rw [if_neg (by simp [hk])] at hnx
          try simp [hk]
          try refine ⟨lexOk.mk (by kernel_rfl), ?_⟩
          try simp [hlt, toks_getE, hk]
          exact Again.mk ⟨_, hnx⟩ (by simp [hw1]) (by simp; omega)
        · rw [if_pos ⟨hk, by omega⟩] at hnx
          try simp [hk]
          try refine ⟨lexOk.mk (by kernel_rfl), ?_⟩
          try simp [hlt, toks_getE, hk]
          exact Again.mk ⟨_, hnx⟩ (by simp [hwc, hw1]) (by simp; omega)
      | succ j =>
        have hjl : j < l.length := by omega
        have hp : l[j].line = p := hI.2.2.1.2 j hjl rfl
        have hwj : IntKind.i64.wrap (j : Int) = j := wrap64 (by omega)
        have hwj2 : IntKind.i64.wrap ((j : Int) + 1 + 1) = (j : Int) + 1 + 1 := wrap64 (by omega)
        have hno : ¬ l[j + 1].line < l[j].line := by omega
        simp [hlt, toks_getE, h1n]
        refine ⟨lexOk.mk (by kernel_rfl), ?_⟩
        try simp [hlt, hjl, toks_getE, h1n, hwj, hno]
        by_cases hk : l[j + 1].kind = 0
        · rw [if_neg (by simp [hk])] at hnx
          simp [hk]
          try refine ⟨lexOk.mk (by kernel_rfl), ?_⟩
          try simp [hlt, hjl, toks_getE, hk, hwj]
          exact Again.mk ⟨_, hnx⟩ (by simp [hwj2]) (by simp; omega)
        · by_cases hg : l[j].line < l[j + 1].line
          · rw [if_pos ⟨hk, by omega⟩] at hnx
            simp [hk]
            try refine ⟨lexOk.mk (by kernel_rfl), ?_⟩
            try simp [hlt, hjl, toks_getE, hk, hwj, hg]
            exact Again.mk ⟨_, hnx⟩ (by simp [hwc, hwj2]) (by simp; omega)
          · rw [if_neg (by rw [← hp]; simp [hg])] at hnx
            simp [hk]
            try refine ⟨lexOk.mk (by kernel_rfl), ?_⟩
            try simp [hlt, hjl, toks_getE, hk, hwj, hg]
            exact Again.mk ⟨_, hnx⟩ (by simp [hwj2]) (by simp; omega)
    · have hil : i = l.length := by have := hI.1; simp only at this; omega
      subst hil
      have hq := hI.2.1
      simp only [List.drop_length, chg] at hq
      have hcc : c = chg l 0 := by omega
      have hfin : ((linesT l []).length : Int) = (c : Int) := by omega
      try simp
      refine SW.loopF (ι := { i : Nat // i ≤ n }) (fun i => [(10, .d (.str (xsT i.1))), (11, .d (.int .i64 i.1))]) (fun _ => []) (fun _ => []) (fun i => n - i.1) ⟨0, by omega⟩ (by simp [xsT]) ?_
      rintro ⟨j, hj⟩
      try simp only at hj
      by_cases hjl : j < n
      · have hw := wrap64s (show j < 9223372036854775807 by omega)
        have hxl := xsT_len j
        simp [hjl, hwn]
        repeat (refine stepK_catL (by omega) ?_; simp)
        exact Again.mk ⟨j + 1, hjl⟩ (by simp [hw, xsT_snoc]) (by simp; omega)
      have hjn : j = n := by omega
      subst hjn
      simp [hwn]
      have h2 := lex_Tokens_cs G0_sg (xsT j) (by rw [xsT_len]; omega)
      rw [if_neg (by rw [xsT_len]; omega), xs_lex j 1] at h2
      refine callK.mk ent_lex_Tokens h2 ?_
      simp [tokD, tokN, tokF]
      refine callK.mk ent_lex_Lines hL ?_
      simp [hfin]
      refine callK.mk ent_lex_Lines (lex_Lines_cs (xsK j 1) (by rw [xsK_len]; omega)) ?_
      have hc := linesT_ok (lexG_ok _ _ _ _ _ (xs_lex j 1)) [] 0 (by simp) (.inr (by omega)) (by omega)
      rw [xsK_chg j 1 0 (by omega)] at hc
      simp at hc
      have hwj : IntKind.i64.wrap ((j : Int) + 1) = j + 1 := wrap64 (by omega)
      simp [hc, hwn, xsK_len, hwj]
      refine callK.mk ent_l5_awake (l5_awake_cs ) ?_
      simp
theorem lexLines_all (xs : List D) (h : FitsAll Tryd.prog [9, 5] xs) (hsz : szL xs ≤ 1048576) : CS Tryd.prog G0 6 xs (.d (.bool true)) none := by
  match xs, h with
  | [a, b], ⟨h1, h2, _⟩ =>
    obtain ⟨s, rfl, _⟩ := fitsV_str tu9 h1
    obtain ⟨n, rfl, hn⟩ := fitsV_int tu5 h2
    simp only [szL, szD] at hsz
    have e1 : IntKind.u8.min = 0 := rfl
    have e2 : IntKind.u8.max = 255 := rfl
    simp [Lit.wf, e1, e2] at hn
    obtain ⟨m, rfl⟩ : ∃ m : Nat, n = m := ⟨n.toNat, by omega⟩
    exact l5_LexLines_cs s m (by omega) (by omega)
end Go.Proofs.YtoiokobokencdaaDoor
