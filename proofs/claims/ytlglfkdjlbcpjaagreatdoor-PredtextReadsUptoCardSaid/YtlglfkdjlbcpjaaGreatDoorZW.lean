/- Joined texts. What is read has no more nodes than tokens. Plain. The tokens of a text are not too many and not too long. Plain. The reader of predicates: all levels, by the number of steps; Read; the walks. Parse of a text; the walk. No condition. -/
import Derived.Test.YtlglfkdjlbcpjaaGreatDoorZR
import Derived.Test.YtlglfkdjlbcpjaaGreatDoorZ8
import Derived.Test.YtlglfkdjlbcpjaaGreatDoorZS
import Derived.Test.YtlglfkdjlbcpjaaGreatDoorZT
import Derived.Test.YtlglfkdjlbcpjaaGreatDoorZP
section
set_option linter.unusedVariables false
set_option linter.unusedSimpArgs false
set_option linter.unusedSectionVars false
namespace Go.Proofs.YtlglfkdjlbcpjaaGreatDoor
set_option maxRecDepth 100000
set_option maxHeartbeats 4000000
def Nod (rd : Nat → Nat → Option (Pr × Nat)) : Prop := ∀ i k p n, rd i k = some (p, n) → nodP p + i ≤ n
theorem nod_tw (op : Int) (a b : Pr) : nodP (tw op a b) = nodP a + nodP b + 1 := by
  simp [tw, nodP, nodPs]
  omega
theorem nod_one (op : Int) (a : Pr) : nodP ⟨op, [], 0, [a]⟩ = nodP a + 1 := by
  simp [nodP, nodPs]
  omega
theorem nod_leaf (op : Int) (s : List UInt8) (n : Int) : nodP ⟨op, s, n, []⟩ = 1 := by simp [nodP, nodPs]
theorem nod_app (op : Int) (s : List UInt8) (ks : List Pr) : nodP ⟨op, s, 0, ks⟩ = nodPs ks + 1 := by
  simp [nodP]
  omega
section
variable {kw : List UInt8 → Bool} {rd : Nat → Nat → Option (Pr × Nat)} {l : List Tok}
theorem chain_nod (h : Nod rd) (k : Nat) : ∀ (g : Nat) (a : Pr) (n i : Nat), nodP a + i ≤ n → nodP (chainG rd l k g a n).1 + i ≤ (chainG rd l k g a n).2
  | 0, a, n, i, hn => hn
  | g + 1, a, n, i, hn => by
    rw [chainG]
    split
    · exact hn
    · split
      · exact hn
      · rename_i op _ _ b m hr
        have h1 := h _ _ _ _ hr
        exact chain_nod h k g (tw op a b) m i (by rw [nod_tw]; omega)
theorem args_nod (h : Nod rd) : ∀ (g i : Nat) (acc ks : List Pr) (m b : Nat), nodPs acc + b ≤ i → argsG rd l g i acc = some (ks, m) → nodPs ks + b + 1 ≤ m
  | 0, _, _, _, _, _, _, hr => by cases hr
  | g + 1, i, acc, ks, m, b, hb, hr => by
    rw [argsG] at hr
    split at hr
    · cases hr
    · rename_i p n hp
      have h1 := h _ _ _ _ hp
      have h2 : nodPs (acc ++ [p]) = nodPs acc + nodP p := by rw [nodPs_app]; simp [nodPs]
      split at hr
      · cases hr
        omega
      · split at hr
        · exact args_nod h g n _ ks m b (by omega) hr
        · cases hr
theorem list_nod (h : Nod rd) {i m : Nat} {ks : List Pr} (hr : listG rd l i = some (ks, m)) : nodPs ks + i + 1 ≤ m := by
  unfold listG at hr
  split at hr
  · exact args_nod h _ _ _ _ _ _ (by simp [nodPs]) hr
  · cases hr
theorem prim_nod (h : Nod rd) {i n : Nat} {p : Pr} (hr : primG kw rd l i = some (p, n)) : nodP p + i ≤ n := by
  unfold primG at hr
  split at hr
  · cases hr
  · split at hr
    · cases hr; rw [nod_leaf]; omega
    split at hr
    · cases hr; rw [nod_leaf]; omega
    split at hr
    · cases hr; rw [nod_leaf]; omega
    split at hr
    · split at hr
      · cases hr
      · rename_i s m hn
        have h1 := name_adv hn
        rw [Option.map_eq_some_iff] at hr
        obtain ⟨⟨ks, q⟩, hq, he⟩ := hr
        have h2 := list_nod h hq
        cases he
        rw [nod_app]
        simp only at *
        omega
    split at hr
    · split at hr
      · cases hr; rw [nod_leaf]; omega
      · split at hr
        · cases hr
        · rename_i q m hq
          have h1 := h _ _ _ _ hq
          split at hr
          · cases hr
            omega
          · cases hr
    · split at hr
      · cases hr
      · rename_i s m hn
        have h1 := name_adv hn
        split at hr
        · rename_i ks q hq
          have h2 := list_nod h hq
          cases hr
          rw [nod_app]
          omega
        · cases hr
          rw [nod_leaf]
          omega
theorem at_nod (h : Nod rd) {i k n : Nat} {p : Pr} (hr : atG kw rd l i k = some (p, n)) : nodP p + i ≤ n := by
  unfold atG at hr
  split at hr
  · unfold impG at hr
    split at hr
    · cases hr
    · rename_i a m ha
      have h1 := h _ _ _ _ ha
      split at hr
      · split at hr
        · rename_i b q hb
          have h2 := h _ _ _ _ hb
          cases hr
          rw [nod_tw]
          omega
        · cases hr
          exact h1
      · cases hr
        exact h1
  · split at hr
    · rw [Option.map_eq_some_iff] at hr
      obtain ⟨⟨a, m⟩, ha, he⟩ := hr
      have h1 := h _ _ _ _ ha
      cases he
      rw [nod_one]
      simp only
      omega
    · exact h _ _ _ _ hr
  · unfold cmpG at hr
    split at hr
    · cases hr
    · rename_i a m ha
      have h1 := h _ _ _ _ ha
      split at hr
      · cases hr
        exact h1
      · split at hr
        · cases hr
          exact h1
        · rename_i b q hb
          have h2 := h _ _ _ _ hb
          cases hr
          split <;> rw [nod_tw] <;> omega
  · split at hr
    · rw [Option.map_eq_some_iff] at hr
      obtain ⟨⟨a, m⟩, ha, he⟩ := hr
      have h1 := h _ _ _ _ ha
      cases he
      rw [nod_one]
      simp only
      omega
    · exact h _ _ _ _ hr
  · exact prim_nod h hr
  · rw [Option.map_eq_some_iff] at hr
    obtain ⟨⟨a, m⟩, ha, he⟩ := hr
    have h1 := h _ _ _ _ ha
    have h2 := chain_nod (l := l) h k l.length a m i h1
    simp only at he
    rw [he] at h2
    exact h2
end
theorem atF_nod (kw : List UInt8 → Bool) (l : List Tok) : ∀ f, Nod (atF kw l f)
  | 0 => fun _ _ _ _ h => by cases h
  | f + 1 => fun _ _ _ _ h => at_nod (atF_nod kw l f) h
end Go.Proofs.YtlglfkdjlbcpjaaGreatDoor
end

section
set_option linter.unusedVariables false
set_option linter.unusedSimpArgs false
set_option linter.unusedSectionVars false
namespace Go.Proofs.YtlglfkdjlbcpjaaGreatDoor
set_option maxRecDepth 100000
set_option maxHeartbeats 4000000
theorem signT_le (s : List UInt8) : (signT s).length ≤ s.length := by
  unfold signT
  cases h : signsL.find? fun t => t.isPrefixOf s with
  | none => simp
  | some t =>
    have h1 : t.isPrefixOf s = true := List.find?_some (p := fun t : List UInt8 => t.isPrefixOf s) h
    exact (List.isPrefixOf_iff_prefix.1 h1).length_le
theorem firstT_le (num : List UInt8 → Int × Bool) (c : UInt8) (r : List UInt8) : (firstT num (c :: r)).2.1.length ≤ r.length + 1 := by
  have h1 : ∀ p : UInt8 → Bool, ((c :: r).takeWhile p).length ≤ r.length + 1 := fun p => (List.takeWhile_sublist p).length_le
  have h2 : (signT (c :: r)).length ≤ r.length + 1 := signT_le (c :: r)
  show (if smU c then _ else _ : Int × List UInt8 × Int × Bool).2.1.length ≤ _
  split
  · exact h1 _
  split
  · exact h1 _
  split
  · exact h1 _
  split
  · simp
  · exact h2
theorem lexG_bound (num : List UInt8 → Int × Bool) : ∀ (s : List UInt8) (k : Nat) (ln : Int) (cm : Bool) (l : List Tok), lexG num s k ln cm = .ok l → 1 ≤ l.length ∧ l.length ≤ s.length + 1 ∧ txS l ≤ 2 * (s.length - k) + 1
  | [], k, ln, cm, l, h => by
    cases k <;> (simp [lexG] at h; subst h; simp [txS])
  | c :: r, k + 1, ln, cm, l, h => by
    rw [lexG] at h
    obtain ⟨h1, h2, h3⟩ := lexG_bound num r k ln cm l h
    simp only [List.length_cons]
    omega
  | c :: r, 0, ln, cm, l, h => by
    rw [lexG] at h
    simp only [List.length_cons]
    split at h
    · obtain ⟨h1, h2, h3⟩ := lexG_bound num r 0 (ln + 1) false l h
      omega
    split at h
    · obtain ⟨h1, h2, h3⟩ := lexG_bound num r 0 ln cm l h
      omega
    split at h
    · obtain ⟨h1, h2, h3⟩ := lexG_bound num r 0 ln true l h
      omega
    split at h
    · generalize hT : (firstT num (c :: r)).2.1 = T at h
      split at h
      · rename_i l' hl'
        obtain ⟨h1, h2, h3⟩ := lexG_bound num r (T.length - 1) ln false l' hl'
        cases h
        have hTl : T.length ≤ r.length + 1 := by
          rw [← hT]
          exact firstT_le num c r
        simp only [List.length_cons, txS]
        omega
      · cases h
    · cases h
end Go.Proofs.YtlglfkdjlbcpjaaGreatDoor
end

section
set_option linter.unusedVariables false
set_option linter.unusedSimpArgs false
set_option linter.unusedSectionVars false
namespace Go.Proofs.YtlglfkdjlbcpjaaGreatDoor
open Go Go.VM
set_option maxRecDepth 100000
set_option maxHeartbeats 8000000
variable {G : GT}
theorem reader_all (hG : G 3 = some kwCells) {l : List Tok} (hl : okTs l) : ∀ f, AtC G l f ∧ CmC G l f ∧ PrC G l f
  | 0 => ⟨fun i k _ h9 _ hi h => by unfold mu at h; omega, fun i hi h => by unfold mu at h; omega, fun i hi h => by unfold mu at h; omega⟩
  | f + 1 => by
    obtain ⟨hA, hC, hP⟩ := reader_all hG hl f
    exact ⟨at_cs hl hA hC hP, fun i hi h => compared_cs hl hA i hi h, primary_cs hG hl hA⟩
/-- What is read from the beginning of tokens. -/
def readT (l : List Tok) : Option (Pr × Nat) := atF kwB l (mu l.length 0 1) 0 1
theorem at_top (hG : G 3 = some kwCells) {l : List Tok} (hl : okTs l) : ∃ j, CS Tryz.prog G 40 [rdD l, .int .i64 0, .int .i64 1] (resA (readT l) j) none :=
  (reader_all hG hl _).1 0 1 (by omega) (by omega) (by omega) (by omega) (Nat.le_refl _)
theorem readT_adv {l : List Tok} {p : Pr} {n : Nat} (h : readT l = some (p, n)) : 0 < n ∧ n ≤ l.length := atF_adv kwB l _ _ _ _ _ h
/-- What Read answers. -/
def readR (l : List Tok) : DV := match readT l with
  | none => .tup [.agg (prD ⟨0, [], 0, []⟩), .int .i64 0, .int .i64 14]
  | some (p, n) => if chkE p = 0 then .tup [.agg (prD p), .int .i64 n, .int .i64 0] else .tup [.agg (prD ⟨0, [], 0, []⟩), .int .i64 0, .int .i64 (chkE p)]
theorem ent_predtext_Read : VM.Enters Tryz.prog 18 := VM.Enters.mk Tryz.func18 rfl
theorem predtext_Read_cs (hG : G 3 = some kwCells) (l : List Tok) (hl : okTs l) (hn : ∀ p n, readT l = some (p, n) → nodP p ≤ 1000000) : CS Tryz.prog G 18 [.sl (l.map tokE)] (readR l) none := by
  obtain ⟨j, hat⟩ := at_top hG hl
  obtain ⟨o, ho⟩ : ∃ o, readT l = o := ⟨_, rfl⟩
  rw [ho] at hat hn
  unfold readR
  rw [ho]
  refine CS.of_VK Tryz.func18 rfl Tryz.ntmps18 rfl ?_
  simp
  refine callK.mk (hkl := resA_keyless _ _) ent_at hat ?_
  cases o with
  | none => simp [resA]
  | some q =>
    obtain ⟨p, n⟩ := q
    have hck := pred_Check_cs hG p (hn p n rfl)
    simp [resA]
    refine callK.mk ent_pred_Check hck ?_
    by_cases h0 : chkE p = 0
    · simp [h0]
    · simp [h0]
end Go.Proofs.YtlglfkdjlbcpjaaGreatDoor
end

section
set_option linter.unusedVariables false
set_option linter.unusedSimpArgs false
set_option linter.unusedSectionVars false
namespace Go.Proofs.YtlglfkdjlbcpjaaGreatDoor
open Go Go.VM
set_option maxRecDepth 100000
set_option maxHeartbeats 8000000
variable {G : GT}
theorem okTs_lex {s : List UInt8} {l : List Tok} (h : lexG numL s 0 1 false = .ok l) (hs : s.length ≤ 40000) : okTs l ∧ 1 ≤ l.length := by
  obtain ⟨h1, h2, h3⟩ := lexG_bound numL s 0 1 false l h
  exact ⟨⟨by omega, by omega⟩, h1⟩
theorem readT_nod {l : List Tok} {p : Pr} {n : Nat} (h : readT l = some (p, n)) : nodP p ≤ l.length := by
  have h1 := atF_nod kwB l _ _ _ _ _ h
  have h2 := readT_adv h
  omega
def badR (e : Int) : DV := .tup [.agg (prD ⟨0, [], 0, []⟩), .int .i64 e]
/-- What Parse answers. -/
def parseR (s : List UInt8) : DV := if 40000 < s.length then badR 7 else match lexG numL s 0 1 false with
  | .error _ => badR 14
  | .ok l => match readT l with
    | none => badR 14
    | some (p, n) => if n + 1 = l.length then (if chkE p = 0 then .tup [.agg (prD p), .int .i64 0] else badR (chkE p)) else badR 14
theorem ent_predtext_Parse : VM.Enters Tryz.prog 15 := VM.Enters.mk Tryz.func15 rfl
theorem predtext_Parse_cs (hG : G 3 = some kwCells) (hS : G 0 = some sgCells) (s : List UInt8) (hs : s.length ≤ 900000000) : CS Tryz.prog G 15 [.str s] (parseR s) none := by
  have hlx := lex_Tokens_cs (G := G) hS s hs
  unfold parseR
  refine CS.of_VK Tryz.func15 rfl Tryz.ntmps15 rfl ?_
  simp
  by_cases hlong : 40000 < s.length
  · rw [if_pos hlong] at hlx ⊢
    refine callK.mk ent_lex_Tokens hlx ?_
    simp [badR]
  rw [if_neg hlong] at hlx ⊢
  cases hx : lexG numL s 0 1 false with
  | error e =>
    rw [hx] at hlx
    simp only [tokD, tokN, tokF] at hlx
    refine callK.mk ent_lex_Tokens hlx ?_
    simp [badR]
  | ok l =>
    obtain ⟨hok, h1⟩ := okTs_lex hx (by omega)
    have hll := hok.1
    rw [hx] at hlx
    simp only [tokD, tokN, tokF, toks] at hlx
    obtain ⟨j, hat⟩ := at_top hG hok
    have hw : IntKind.i64.wrap ((l.length : Int) - 1) = (l.length : Int) - 1 := wrap64 (by omega)
    simp only
    refine callK.mk ent_lex_Tokens hlx ?_
    simp
    refine callK.mk (hkl := resA_keyless _ _) ent_at hat ?_
    cases hr : readT l with
    | none =>
      have hne : ¬ (-1 : Int) = (l.length : Int) - 1 := by omega
      simp [resA, hw, hne, badR]
    | some q =>
      obtain ⟨p, n⟩ := q
      have hck := pred_Check_cs hG p (Nat.le_trans (readT_nod hr) (by omega))
      by_cases hn : n + 1 = l.length
      · have hn' : (n : Int) = (l.length : Int) - 1 := by omega
        simp [resA, hw, hn', hn]
        refine callK.mk ent_pred_Check hck ?_
        by_cases h0 : chkE p = 0
        · simp [h0]
        · simp [h0, badR]
      · have hn' : ¬ (n : Int) = (l.length : Int) - 1 := by omega
        simp [resA, hw, hn', hn, badR]
end Go.Proofs.YtlglfkdjlbcpjaaGreatDoor
end
