/- A predicate is read back from its text, plain; numbers in names. No condition. -/
import Derived.Test.YtlglfkdjlbcpjaaGreatDoorZY
import Derived.Test.YtlglfkdjlbcpjaaGreatDoorQl
import Derived.Test.YtlglfkdjlbcpjaaGreatDoorZW
import Derived.Test.YtlglfkdjlbcpjaaGreatDoorZ7
set_option linter.unusedVariables false
set_option linter.unusedSimpArgs false
set_option linter.unusedSectionVars false
namespace Go.Proofs.YtlglfkdjlbcpjaaGreatDoor
set_option maxRecDepth 100000
set_option maxHeartbeats 4000000
/-- A part of a name begins with more than twelve digits. -/
def dots : List UInt8 → Bool
  | [] => false
  | c :: r => (decide (c = 46) && decide (12 < (r.takeWhile dgU).length)) || dots r
mutual
def largeB : Pr → Bool
  | ⟨_, nm, _, ks⟩ => dots nm || largeBs ks
def largeBs : List Pr → Bool
  | [] => false
  | k :: r => largeB k || largeBs r
end
theorem largeBs_mem {k : Pr} : ∀ {l : List Pr}, k ∈ l → largeBs l = false → largeB k = false
  | x :: l, h, hl => by
    rw [largeBs, Bool.or_eq_false_iff] at hl
    rcases List.mem_cons.1 h with rfl | h
    · exact hl.1
    · exact largeBs_mem h hl.2
theorem joinP_nodg (ps : List (List UInt8)) : ∀ b, (joinP ps).head? = some b → dgU b = false := by
  cases ps with
  | nil => simp [joinP]
  | cons p ps =>
    intro b hb
    have : (joinP (p :: ps)).head? = some 46 := rfl
    rw [this] at hb
    cases hb
    decide
theorem dots_parts : ∀ s : List UInt8, dots s = false → ∀ q ∈ (partsL s).tail, (q.takeWhile dgU).length ≤ 12
  | [], _, q, hq => by simp [partsL] at hq
  | c :: r, h, q, hq => by
    rw [dots, Bool.or_eq_false_iff] at h
    have ih := dots_parts r h.2
    cases hr : partsL r with
    | nil => rw [partsL_cut] at hr; cases hr
    | cons p ps =>
      have hj := partsL_join r p ps hr
      rw [hr] at ih
      rw [partsL] at hq
      by_cases hc : c.toNat = 46
      · have : c = 46 := UInt8.toNat_inj.1 hc
        subst this
        rw [if_pos hc, List.tail_cons, hr] at hq
        rcases List.mem_cons.1 hq with rfl | hq
        · have h1 := h.1
          simp only [decide_true, Bool.true_and, decide_eq_false_iff_not] at h1
          have h2 := takeWhile_sep (joinP_nodg ps) q
          rw [hj] at h2
          rw [← h2]
          omega
        · exact ih q hq
      · rw [if_neg hc, hr] at hq
        exact ih q hq
theorem dgK_is {c : UInt8} (h : dgU c = true) : isDg c = true := by
  rw [isDg_iff]
  simpa [dgU] using h
theorem dots_nums {s : List UInt8} (h : dots s = false) : numsOk s := fun q hq _ => by
  have h1 := dots_parts s h q hq
  have h2 := valN_lt _ (q.takeWhile dgU) rfl fun c hc => dgK_is (mem_takeWhile c hc)
  have h3 : 10 ^ (q.takeWhile dgU).length ≤ 10 ^ 12 := Nat.pow_le_pow_right (by omega) h1
  unfold numL
  rw [if_pos (by omega)]
/-- A name that may stand, with numbers that are not too large. -/
def nmQ (s : List UInt8) : Prop := nmP s ∧ numsOk s
theorem wf_large {p : Pr} (h : WfP nmP p) : largeB p = false → WfP nmQ p := by
  induction h with
  | int n h1 h2 => exact fun _ => .int n h1 h2
  | boo n h => exact fun _ => .boo n h
  | var s h =>
    intro hl
    rw [largeB, Bool.or_eq_false_iff] at hl
    exact .var s ⟨h, dots_nums hl.1⟩
  | app s ks h h1 _ ih =>
    intro hl
    rw [largeB, Bool.or_eq_false_iff] at hl
    exact .app s ks ⟨h, dots_nums hl.1⟩ h1 fun k hk => ih k hk (largeBs_mem hk hl.2)
  | hole s ks h h1 _ ih =>
    intro hl
    rw [largeB, Bool.or_eq_false_iff] at hl
    exact .hole s ks ⟨h, dots_nums hl.1⟩ h1 fun k hk => ih k hk (largeBs_mem hk hl.2)
  | neg a _ ih =>
    intro hl
    rw [largeB, Bool.or_eq_false_iff] at hl
    exact .neg a (ih (largeBs_mem (by simp) hl.2))
  | not a _ ih =>
    intro hl
    rw [largeB, Bool.or_eq_false_iff] at hl
    exact .not a (ih (largeBs_mem (by simp) hl.2))
  | two op lv l r s a b hf _ _ iha ihb =>
    intro hl
    rw [largeB, Bool.or_eq_false_iff] at hl
    exact .two op lv l r s a b hf (iha (largeBs_mem (by simp) hl.2)) (ihb (largeBs_mem (by simp) hl.2))
/-- The tokens of a text, on the first line. -/
abbrev oK : Out Tok := outK (fun d => (numL d).1) Lib.decDigits 1
theorem wf_rd {p : Pr} (h : WfP nmQ p) : Rd kwB oK p := rd_all (by decide) (by decide) (N := nmQ) (fun s hs => (nm_ok hs.1).1) h
theorem wf_lx {p : Pr} (h : WfP nmQ p) : LxP numL Lib.decDigits 1 p := lx_all (N := nmQ) (fun s hs => (nm_ok hs.1).2.1 hs.2) dig_ok h
theorem stp_end (k : Nat) (ln : Int) : Stp k [endT ln] := fun t ht => by
  cases ht
  exact .inl rfl
theorem lex_end (ln : Int) : lexG numL [] 0 ln false = .ok [endT ln] := rfl
theorem rt_lex {p : Pr} (h : WfP nmQ p) : lexG numL (bdO oT p) 0 1 false = .ok (bdO oK p ++ [endT 1]) := by
  have := (wf_lx h).2 [] (fun b hb => by cases hb)
  unfold Lx at this
  rw [List.append_nil, lex_end] at this
  exact this
theorem rt_read {p : Pr} (h : WfP nmQ p) : readT (bdO oK p ++ [endT 1]) = some (p, (bdO oK p).length) := by
  have := (wf_rd h).1 (bdO oK p ++ [endT 1]) 0 [endT 1] 1 (Nat.le_refl _) (levN_le _).1 rfl (stp_end 1 1)
  rw [Nat.zero_add] at this
  exact this
end Go.Proofs.YtlglfkdjlbcpjaaGreatDoor
