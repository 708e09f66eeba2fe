/- Joined texts. The error of a type, its text; accepted types with the same text are the same. Small types; copies of predicates; types put in place of variables. The reference's check of a function type's own fields. No condition. -/
import Derived.Test.YtcmpodbjhoeblaaDoorZ9
set_option linter.unusedVariables false
set_option linter.unusedSimpArgs false
set_option linter.unusedSectionVars false
namespace Go.Proofs.YtcmpodbjhoeblaaDoor
open Go Go.VM
set_option maxRecDepth 100000
set_option maxHeartbeats 8000000
/-- Fields that the kind of type may not have. -/
def badS (op : Int) (nm : Nm) (a n : Nat) : Bool := decide (op < 1) || (decide (6 < op) || ((!nm.isEmpty && (!decide (op = 4) && !decide (op = 5))) || ((decide (0 < a) && (!decide (op = 4) && !decide (op = 6))) || (decide (0 < n) && !decide (op = 6)))))
def badN (op : Int) (nm : Nm) : Bool := (decide (op = 4) && !(coreB nm && decide (upB nm = true))) || (decide (op = 5) && !(coreB nm && decide (upB nm = false)))
def nodeE (op : Int) (nm : Nm) (a n : Nat) : Int := if badS op nm a n then 1 else if badA op a n then 13 else if badN op nm then 3 else 0
mutual
/-- The first error of the types in a type. -/
def formT : Ty → Int
  | ⟨op, nm, l, ns, _, _⟩ => if nodeE op nm l.length ns.length = 0 then formTs l else nodeE op nm l.length ns.length
def formTs : List Ty → Int
  | [] => 0
  | t :: r => if formT t = 0 then formTs r else formT t
end
theorem formT_eq (t : Ty) : formT t = if nodeE t.op t.name t.args.length t.names.length = 0 then formTs t.args else nodeE t.op t.name t.args.length t.names.length := by cases t; rw [formT]
theorem formTs_drop {l : List Ty} {i : Nat} (h : i < l.length) : formTs (l.drop i) = if formT l[i] = 0 then formTs (l.drop (i + 1)) else formT l[i] := by
  rw [List.drop_eq_getElem_cons h]
  rfl
theorem formTs_end (l : List Ty) : formTs (l.drop l.length) = 0 := by simp [formTs]
theorem nodeE_ne (op : Int) (nm : Nm) (a n : Nat) : nodeE op nm a n ≠ 8 := by
  unfold nodeE
  split
  · omega
  · split
    · omega
    · split <;> omega
mutual
theorem formT_ne : ∀ t : Ty, formT t ≠ 8
  | ⟨op, nm, l, ns, _, _⟩ => by
    have h1 := nodeE_ne op nm l.length ns.length
    have h2 := formTs_ne l
    simp only [formT]
    split <;> assumption
theorem formTs_ne : ∀ l : List Ty, formTs l ≠ 8
  | [] => by simp [formTs]
  | t :: r => by
    have h1 := formT_ne t
    have h2 := formTs_ne r
    simp only [formTs]
    split <;> assumption
end
def checkT (t : Ty) : Int := if 40 < depT t then 8 else formT t
theorem checkT_ok {t : Ty} (h : checkT t = 0) : formT t = 0 := by
  unfold checkT at h
  split at h
  · cases h
  · exact h
/-! ### What an accepted type has -/
def gc (c : UInt8) : Bool := c != 32 && (c != 40 && (c != 41 && c != 44))
theorem u8_eq {c d : UInt8} (h : c.toNat = d.toNat) : c = d := UInt8.toNat_inj.1 h
theorem gc_of {c : UInt8} (h : 46 ≤ c.toNat) : gc c = true := by
  unfold gc
  have h1 : c ≠ 32 := fun e => by subst e; revert h; decide
  have h2 : c ≠ 40 := fun e => by subst e; revert h; decide
  have h3 : c ≠ 41 := fun e => by subst e; revert h; decide
  have h4 : c ≠ 44 := fun e => by subst e; revert h; decide
  simp [h1, h2, h3, h4]
theorem an_46 {c : UInt8} (h : anB c.toNat = true) : 46 ≤ c.toNat := by
  simp only [anB, smallB, capB, digB, Bool.or_eq_true, Bool.and_eq_true, decide_eq_true_eq] at h
  omega
theorem wd_46 {c : UInt8} (h : wdB c.toNat = true) : 46 ≤ c.toNat := by
  simp only [wdB, smallB, digB, Bool.or_eq_true, Bool.and_eq_true, decide_eq_true_eq, beq_iff_eq] at h
  omega
theorem all_46 {p : Int → Bool} (hp : ∀ c : UInt8, p c.toNat = true → 46 ≤ c.toNat) {s : Nm} (h : all8 p s = true) : ∀ c ∈ s, 46 ≤ c.toNat := fun c hc => hp c (List.all_eq_true.1 h c hc)
theorem name_46 {s : Nm} (h : nameB s = true) : ∀ c ∈ s, 46 ≤ c.toNat := by
  simp only [nameB, Bool.and_eq_true] at h
  exact all_46 (fun _ => wd_46) h.2
theorem title_46 {s : Nm} (h : titleB s = true) : ∀ c ∈ s, 46 ≤ c.toNat := by
  simp only [titleB, Bool.and_eq_true] at h
  exact all_46 (fun _ => an_46) h.1.1.1.1.2
theorem word_46 {s : Nm} (h : wordB s = true) : ∀ c ∈ s, 46 ≤ c.toNat := by
  simp only [wordB, Bool.and_eq_true] at h
  exact all_46 (fun _ => wd_46) h.1
theorem part_46 {s : Nm} (h : partB s = true) : ∀ c ∈ s, 46 ≤ c.toNat := by
  simp only [partB, Bool.and_eq_true, Bool.or_eq_true] at h
  rcases h.2 with h | h
  · exact all_46 (fun _ => an_46) h
  · exact word_46 h
theorem mem_parts : ∀ (s : Nm) (c : UInt8), c ∈ s → c.toNat = 46 ∨ ∃ p ∈ partsL s, c ∈ p
  | [], c, h => by simp at h
  | d :: r, c, h => by
    unfold partsL
    by_cases hd : d.toNat = 46
    · rw [if_pos hd]
      rcases List.mem_cons.1 h with rfl | h
      · exact .inl hd
      · rcases mem_parts r c h with h | ⟨p, hp, hc⟩
        · exact .inl h
        · exact .inr ⟨p, by simp [hp], hc⟩
    · rw [if_neg hd]
      rcases List.mem_cons.1 h with rfl | h
      · cases hq : partsL r with
        | nil => exact .inr ⟨[c], by simp, by simp⟩
        | cons p ps => exact .inr ⟨c :: p, by simp, by simp⟩
      · rcases mem_parts r c h with h | ⟨p, hp, hc⟩
        · exact .inl h
        · cases hq : partsL r with
          | nil => rw [hq] at hp; simp at hp
          | cons p0 ps =>
            rw [hq] at hp
            rcases List.mem_cons.1 hp with rfl | hp
            · exact .inr ⟨d :: p, by simp, by simp [hc]⟩
            · exact .inr ⟨p, by simp [hp], hc⟩
theorem core_46 {s : Nm} (h : coreB s = true) : ∀ c ∈ s, 46 ≤ c.toNat := by
  intro c hc
  rcases mem_parts s c hc with hc | ⟨p, hp, hc⟩
  · omega
  · unfold coreB at h
    cases hq : partsL s with
    | nil => rw [hq] at hp; simp at hp
    | cons p0 ps =>
      rw [hq] at h hp
      simp only [Bool.and_eq_true, Bool.or_eq_true, decide_eq_true_eq] at h
      obtain ⟨_, h1, h2⟩ := h
      rcases List.mem_cons.1 hp with rfl | hp
      · rcases h1 with (h1 | h1) | h1
        · exact name_46 h1 c hc
        · exact title_46 h1 c hc
        · rw [h1.1] at hc
          simp at hc
          subst hc
          decide
      · exact part_46 (List.all_eq_true.1 h2 p hp) c hc
theorem core_gc {s : Nm} (h : coreB s = true) : ∀ c ∈ s, gc c = true := fun c hc => gc_of (core_46 h c hc)
/-- The word ahead of the arguments. -/
def hdT (t : Ty) : Nm := if t.op = 1 then [73, 110, 116] else if t.op = 2 then [66, 111, 111, 108] else if t.op = 3 then [67, 101, 108, 108] else t.name
structure OkN (t : Ty) : Prop where
  lo : 1 ≤ t.op
  hi : t.op ≤ 6
  nm : t.op ≠ 4 → t.op ≠ 5 → t.name = []
  args : t.op ≠ 4 → t.op ≠ 6 → t.args = []
  core : t.op = 4 ∨ t.op = 5 → coreB t.name = true
  up : t.op = 4 → upB t.name = true
  low : t.op = 5 → upB t.name = false
  two : t.op = 6 → 2 ≤ t.args.length
theorem okN {t : Ty} (h : formT t = 0) : OkN t ∧ formTs t.args = 0 := by
  rw [formT_eq] at h
  by_cases hn : nodeE t.op t.name t.args.length t.names.length = 0
  · rw [if_pos hn] at h
    refine ⟨?_, h⟩
    unfold nodeE at hn
    split at hn
    · cases hn
    · rename_i hS
      split at hn
      · cases hn
      · rename_i hA
        split at hn
        · cases hn
        · rename_i hN
          simp only [badS, Bool.or_eq_true, Bool.and_eq_true, decide_eq_true_eq, not_or, Bool.not_eq_true', decide_eq_false_iff_not, List.isEmpty_eq_false_iff, ne_eq] at hS
          simp only [badN, Bool.or_eq_true, Bool.and_eq_true, decide_eq_true_eq, not_or, Bool.not_eq_true', decide_eq_false_iff_not] at hN
          obtain ⟨s1, s2, s3, s4, s5⟩ := hS
          obtain ⟨n1, n2⟩ := hN
          refine ⟨by omega, by omega, fun h4 h5 => ?_, fun h4 h6 => ?_, fun h45 => ?_, fun h4 => ?_, fun h5 => ?_, fun h6 => ?_⟩
          · exact Classical.byContradiction fun hc => s3 ⟨hc, h4, h5⟩
          · refine Classical.byContradiction fun hc => s4 ⟨?_, h4, h6⟩
            exact List.length_pos_iff.2 hc
          · rcases h45 with h4 | h5
            · cases hq : coreB t.name
              · exact absurd ⟨h4, by simp [hq]⟩ n1
              · rfl
            · cases hq : coreB t.name
              · exact absurd ⟨h5, by simp [hq]⟩ n2
              · rfl
          · cases hq : upB t.name
            · exact absurd ⟨h4, by simp [hq]⟩ n1
            · rfl
          · cases hq : upB t.name
            · rfl
            · exact absurd ⟨h5, by simp [hq]⟩ n2
          · simp only [badA, h6] at hA
            simp at hA
            omega
  · rw [if_neg hn] at h
    exact absurd h hn
theorem hd_good {t : Ty} (h : OkN t) (h6 : t.op ≠ 6) : (∀ c ∈ hdT t, gc c = true) ∧ hdT t ≠ [] := by
  unfold hdT
  split
  · exact ⟨by decide, by simp⟩
  · split
    · exact ⟨by decide, by simp⟩
    · split
      · exact ⟨by decide, by simp⟩
      · have hc := h.core (by have := h.lo; have := h.hi; omega)
        refine ⟨core_gc hc, fun e => ?_⟩
        rw [e] at hc
        cases hc
theorem hd_op {t : Ty} (h : OkN t) (h6 : t.op ≠ 6) : (hdT t = [73, 110, 116] ↔ t.op = 1) ∧ (hdT t = [66, 111, 111, 108] ↔ t.op = 2) ∧ (hdT t = [67, 101, 108, 108] ↔ t.op = 3) := by
  by_cases h1 : t.op = 1
  · simp [hdT, h1]
  · by_cases h2 : t.op = 2
    · simp [hdT, h2]
    · by_cases h3 : t.op = 3
      · simp [hdT, h3]
      · have hc := h.core (by have := h.lo; have := h.hi; omega)
        simp only [hdT, h1, h2, h3, if_false, iff_false]
        refine ⟨fun e => ?_, fun e => ?_, fun e => ?_⟩ <;> rw [e] at hc <;> revert hc <;> decide
theorem hd_inj {s t : Ty} (hs : OkN s) (ht : OkN t) (h6 : s.op ≠ 6) (h6' : t.op ≠ 6) (h : hdT s = hdT t) : s.op = t.op ∧ s.name = t.name := by
  obtain ⟨a1, a2, a3⟩ := hd_op hs h6
  obtain ⟨b1, b2, b3⟩ := hd_op ht h6'
  rw [h] at a1 a2 a3
  by_cases h1 : s.op = 1
  · have ht1 := b1.1 (a1.2 h1)
    exact ⟨by omega, by rw [hs.nm (by omega) (by omega), ht.nm (by omega) (by omega)]⟩
  · by_cases h2 : s.op = 2
    · have ht1 := b2.1 (a2.2 h2)
      exact ⟨by omega, by rw [hs.nm (by omega) (by omega), ht.nm (by omega) (by omega)]⟩
    · by_cases h3 : s.op = 3
      · have ht1 := b3.1 (a3.2 h3)
        exact ⟨by omega, by rw [hs.nm (by omega) (by omega), ht.nm (by omega) (by omega)]⟩
      · have g1 : t.op ≠ 1 := fun e => h1 (a1.1 (b1.2 e))
        have g2 : t.op ≠ 2 := fun e => h2 (a2.1 (b2.2 e))
        have g3 : t.op ≠ 3 := fun e => h3 (a3.1 (b3.2 e))
        simp only [hdT, h1, h2, h3, g1, g2, g3, if_false] at h
        have l1 := hs.lo; have l2 := hs.hi; have l3 := ht.lo; have l4 := ht.hi
        refine ⟨?_, h⟩
        by_cases e4 : s.op = 4
        · have hu := hs.up e4
          by_cases f4 : t.op = 4
          · omega
          · have := ht.low (by omega)
            rw [h, this] at hu
            cases hu
        · have hu := hs.low (by omega)
          by_cases f4 : t.op = 4
          · have := ht.up f4
            rw [h, this] at hu
            cases hu
          · omega
/-! ### Texts -/
mutual
/-- A type as text. -/
def textT : Ty → Nm
  | ⟨op, nm, l, _, _, _⟩ => if op = 1 then [73, 110, 116] else if op = 2 then [66, 111, 111, 108] else if op = 3 then [67, 101, 108, 108] else if op = 5 then nm else if op = 4 then nm ++ textAs l else if op = 6 then (if l.isEmpty then [63] else 40 :: textFs true l) else [63]
def textAs : List Ty → Nm
  | [] => []
  | t :: r => (if decide (t.op = 6) || !t.args.isEmpty then 32 :: 40 :: (textT t ++ [41]) else 32 :: textT t) ++ textAs r
def textFs : Bool → List Ty → Nm
  | _, [] => []
  | b, t :: r => (if r.isEmpty then [41, 32, 45, 62, 32] else if b then [] else [44, 32]) ++ (textT t ++ textFs false r)
end
theorem textT_eq (t : Ty) : textT t = if t.op = 1 then [73, 110, 116] else if t.op = 2 then [66, 111, 111, 108] else if t.op = 3 then [67, 101, 108, 108] else if t.op = 5 then t.name else if t.op = 4 then t.name ++ textAs t.args else if t.op = 6 then (if t.args.isEmpty then [63] else 40 :: textFs true t.args) else [63] := by cases t; rw [textT]
mutual
theorem textT_same : ∀ s t : Ty, sameT s t = true → textT s = textT t
  | ⟨o, n, l, ns, p, ps⟩, ⟨o', n', l', ns', p', ps'⟩, h => by
    simp only [sameT, Bool.and_eq_true, decide_eq_true_eq] at h
    obtain ⟨rfl, rfl, h3, h4⟩ := h
    have h5 := textAs_same l l' h3 h4
    have h6 := textFs_same true l l' h3 h4
    have h7 : l.isEmpty = l'.isEmpty := by cases l <;> cases l' <;> simp at h3 <;> rfl
    simp only [textT, h5, h6, h7]
theorem textAs_same : ∀ l k : List Ty, l.length = k.length → sameTs l k = true → textAs l = textAs k
  | [], [], _, _ => rfl
  | ⟨o, n, l, ns, p, ps⟩ :: r, ⟨o', n', l', ns', p', ps'⟩ :: r', hl, h => by
    simp only [sameTs, Bool.and_eq_true] at h
    have h1 := textT_same ⟨o, n, l, ns, p, ps⟩ ⟨o', n', l', ns', p', ps'⟩ h.1
    have h2 := textAs_same r r' (by simpa using hl) h.2
    have h3 := h.1
    simp only [sameT, Bool.and_eq_true, decide_eq_true_eq] at h3
    obtain ⟨rfl, rfl, h4, _⟩ := h3
    have h7 : l.isEmpty = l'.isEmpty := by cases l <;> cases l' <;> simp at h4 <;> rfl
    simp only [textAs, h1, h2, h7]
  | [], _ :: _, hl, _ => by simp at hl
  | _ :: _, [], hl, _ => by simp at hl
theorem textFs_same : ∀ (b : Bool) (l k : List Ty), l.length = k.length → sameTs l k = true → textFs b l = textFs b k
  | b, [], [], _, _ => rfl
  | b, t :: r, t' :: r', hl, h => by
    simp only [sameTs, Bool.and_eq_true] at h
    have h1 := textT_same t t' h.1
    have hl' : r.length = r'.length := by simpa using hl
    have h2 := textFs_same false r r' hl' h.2
    have h7 : r.isEmpty = r'.isEmpty := by cases r <;> cases r' <;> simp at hl' <;> rfl
    simp only [textFs, h1, h2, h7]
  | b, [], _ :: _, hl, _ => by simp at hl
  | b, _ :: _, [], hl, _ => by simp at hl
end
/-- What can follow a type: nothing, a comma, a parenthesis. -/
def stopB : Nm → Bool
  | [] => true
  | c :: _ => c == 44 || c == 41
def stopN : Nm → Bool
  | [] => true
  | c :: _ => !gc c
theorem stop_N {x : Nm} (h : stopB x = true) : stopN x = true := by
  cases x with
  | nil => rfl
  | cons c r =>
    simp only [stopB, Bool.or_eq_true, beq_iff_eq] at h
    rcases h with rfl | rfl <;> rfl
theorem split_at : ∀ {a b x y : Nm}, (∀ c ∈ a, gc c = true) → (∀ c ∈ b, gc c = true) → stopN x = true → stopN y = true → a ++ x = b ++ y → a = b ∧ x = y
  | [], [], x, y, _, _, _, _, h => ⟨rfl, by simpa using h⟩
  | c :: a, [], x, y, ha, _, _, hy, h => by
    simp only [List.nil_append, List.cons_append] at h
    subst h
    have := ha c (by simp)
    simp [stopN, this] at hy
  | [], d :: b, x, y, _, hb, hx, _, h => by
    simp only [List.nil_append, List.cons_append] at h
    subst h
    have := hb d (by simp)
    simp [stopN, this] at hx
  | c :: a, d :: b, x, y, ha, hb, hx, hy, h => by
    simp only [List.cons_append, List.cons.injEq] at h
    obtain ⟨rfl, h⟩ := h
    obtain ⟨e1, e2⟩ := split_at (fun z hz => ha z (by simp [hz])) (fun z hz => hb z (by simp [hz])) hx hy h
    exact ⟨by rw [e1], e2⟩
theorem textT_hd {t : Ty} (h : OkN t) (h6 : t.op ≠ 6) : textT t = hdT t ++ textAs t.args := by
  rw [textT_eq]
  unfold hdT
  by_cases h1 : t.op = 1
  · simp [h1, h.args (by omega) h6, textAs]
  · by_cases h2 : t.op = 2
    · simp [h2, h.args (by omega) h6, textAs]
    · by_cases h3 : t.op = 3
      · simp [h3, h.args (by omega) h6, textAs]
      · by_cases h4 : t.op = 4
        · simp [h4]
        · have h5 : t.op = 5 := by have := h.lo; have := h.hi; omega
          simp [h5, h.args (by omega) h6, textAs]
theorem textAs_stop (l : List Ty) {x : Nm} (hx : stopB x = true) : stopN (textAs l ++ x) = true := by
  cases l with
  | nil => simpa [textAs] using stop_N hx
  | cons t r =>
    simp only [textAs]
    split <;> rfl
theorem formTs_cons {t : Ty} {r : List Ty} (h : formTs (t :: r) = 0) : formT t = 0 ∧ formTs r = 0 := by
  simp only [formTs] at h
  by_cases ht : formT t = 0
  · rw [if_pos ht] at h; exact ⟨ht, h⟩
  · rw [if_neg ht] at h; exact absurd h ht
theorem hd_ne40 {t : Ty} (h : OkN t) (h6 : t.op ≠ 6) {x y : Nm} (he : textT t ++ x = 40 :: y) : False := by
  obtain ⟨hg, hn⟩ := hd_good h h6
  rw [textT_hd h h6] at he
  cases hq : hdT t with
  | nil => exact hn hq
  | cons c r =>
    rw [hq] at he hg
    simp only [List.cons_append, List.cons.injEq] at he
    have := hg c (by simp)
    rw [he.1] at this
    cases this
mutual
theorem text_inj : ∀ (s t : Ty) (x y : Nm), formT s = 0 → formT t = 0 → stopB x = true → stopB y = true → textT s ++ x = textT t ++ y → sameT s t = true ∧ x = y
  | ⟨o, n, l, ns, p, ps⟩, t, x, y, hs, ht, hx, hy, he => by
    obtain ⟨oks, fs⟩ := okN hs
    obtain ⟨okt, ft⟩ := okN ht
    simp only at fs
    by_cases h6 : o = 6
    · by_cases h6' : t.op = 6
      · have l2 := oks.two h6
        have k2 := okt.two h6'
        simp only at l2
        have hn := oks.nm (by simp only; omega) (by simp only; omega)
        have hn' := okt.nm (by omega) (by omega)
        simp only at hn
        rw [textT_eq, textT_eq] at he
        have e1 : l.isEmpty = false := by cases l <;> simp at l2 ⊢
        have e2 : t.args.isEmpty = false := by cases hq : t.args <;> simp [hq] at k2 ⊢
        simp [h6, h6', e1, e2] at he
        obtain ⟨g1, g2, g3⟩ := textFs_inj true l t.args x y fs ft (by simpa using l2) (by simpa using k2) hx hy he
        refine ⟨?_, g3⟩
        rw [sameT_eq]
        simp [h6, h6', hn, hn', g1, g2]
      · rw [textT_eq ⟨o, n, l, ns, p, ps⟩] at he
        have l2 := oks.two h6
        simp only at l2
        have e1 : l.isEmpty = false := by cases l <;> simp at l2 ⊢
        simp [h6, e1] at he
        exact (hd_ne40 okt h6' he.symm).elim
    · by_cases h6' : t.op = 6
      · rw [textT_eq t] at he
        have k2 := okt.two h6'
        have e2 : t.args.isEmpty = false := by cases hq : t.args <;> simp [hq] at k2 ⊢
        simp [h6', e2] at he
        exact (hd_ne40 oks h6 he).elim
      · rw [textT_hd oks h6, textT_hd okt h6', List.append_assoc, List.append_assoc] at he
        obtain ⟨g1, g2⟩ := split_at (hd_good oks h6).1 (hd_good okt h6').1 (textAs_stop _ hx) (textAs_stop _ hy) he
        obtain ⟨q1, q2⟩ := hd_inj oks okt h6 h6' g1
        obtain ⟨r1, r2, r3⟩ := textAs_inj l t.args x y fs ft hx hy g2
        refine ⟨?_, r3⟩
        rw [sameT_eq]
        simp only at q1 q2
        simp [q1, q2, r1, r2]
theorem textAs_inj : ∀ (l k : List Ty) (x y : Nm), formTs l = 0 → formTs k = 0 → stopB x = true → stopB y = true → textAs l ++ x = textAs k ++ y → l.length = k.length ∧ sameTs l k = true ∧ x = y
  | [], [], x, y, _, _, _, _, he => ⟨rfl, rfl, by simpa [textAs] using he⟩
  | [], t :: r, x, y, _, _, hx, _, he => by
    simp only [textAs, List.nil_append] at he
    split at he <;> (subst he; cases hx)
  | t :: r, [], x, y, _, _, _, hy, he => by
    simp only [textAs, List.nil_append] at he
    split at he <;> (subst he; cases hy)
  | s :: r, t :: r', x, y, hs, ht, hx, hy, he => by
    obtain ⟨fs, fr⟩ := formTs_cons hs
    obtain ⟨ft, fr'⟩ := formTs_cons ht
    obtain ⟨oks, _⟩ := okN fs
    obtain ⟨okt, _⟩ := okN ft
    simp only [textAs] at he
    by_cases ha : (decide (s.op = 6) || !s.args.isEmpty) = true
    · by_cases hb : (decide (t.op = 6) || !t.args.isEmpty) = true
      · simp only [ha, hb, if_true, List.cons_append, List.append_assoc, List.cons.injEq, true_and, List.nil_append] at he
        obtain ⟨g1, g2⟩ := text_inj s t (41 :: (textAs r ++ x)) (41 :: (textAs r' ++ y)) fs ft rfl rfl (by simpa using he)
        obtain ⟨q1, q2, q3⟩ := textAs_inj r r' x y fr fr' hx hy (by simpa using g2)
        exact ⟨by simp [q1], by simp [sameTs, g1, q2], q3⟩
      · simp only [ha, hb, if_true, List.cons_append, List.append_assoc, List.cons.injEq, true_and] at he
        simp only [Bool.not_eq_true] at hb
        simp only [hb, Bool.false_eq_true, if_false, List.cons_append, List.cons.injEq, true_and] at he
        simp only [Bool.or_eq_false_iff, decide_eq_false_iff_not] at hb
        exact (hd_ne40 okt hb.1 he.symm).elim
    · by_cases hb : (decide (t.op = 6) || !t.args.isEmpty) = true
      · simp only [ha, hb, if_true, List.cons_append, List.append_assoc, List.cons.injEq, true_and] at he
        simp only [Bool.not_eq_true] at ha
        simp only [ha, Bool.false_eq_true, if_false, List.cons_append, List.cons.injEq, true_and] at he
        simp only [Bool.or_eq_false_iff, decide_eq_false_iff_not] at ha
        exact (hd_ne40 oks ha.1 he).elim
      · simp only [Bool.not_eq_true] at ha hb
        simp only [ha, hb, Bool.false_eq_true, if_false, List.cons_append, List.cons.injEq, true_and] at he
        simp only [Bool.or_eq_false_iff, decide_eq_false_iff_not, Bool.not_eq_false', List.isEmpty_iff] at ha hb
        rw [textT_hd oks ha.1, textT_hd okt hb.1, ha.2, hb.2] at he
        simp only [textAs, List.append_nil, List.append_assoc] at he
        obtain ⟨g1, g2⟩ := split_at (hd_good oks ha.1).1 (hd_good okt hb.1).1 (textAs_stop _ hx) (textAs_stop _ hy) he
        obtain ⟨q1, q2⟩ := hd_inj oks okt ha.1 hb.1 g1
        obtain ⟨r1, r2, r3⟩ := textAs_inj r r' x y fr fr' hx hy g2
        refine ⟨by simp [r1], ?_, r3⟩
        simp only [sameTs, Bool.and_eq_true]
        refine ⟨?_, r2⟩
        rw [sameT_eq]
        simp [q1, q2, ha.2, hb.2, sameTs]
theorem textFs_inj : ∀ (b : Bool) (l k : List Ty) (x y : Nm), formTs l = 0 → formTs k = 0 → (if b then 2 else 1) ≤ l.length → (if b then 2 else 1) ≤ k.length → stopB x = true → stopB y = true → textFs b l ++ x = textFs b k ++ y → l.length = k.length ∧ sameTs l k = true ∧ x = y
  | b, [], k, x, y, _, _, hl, _, _, _, _ => by cases b <;> simp at hl
  | b, t :: r, [], x, y, _, _, _, hk, _, _, _ => by cases b <;> simp at hk
  | b, s :: r, t :: r', x, y, hs, ht, hl, hk, hx, hy, he => by
    obtain ⟨fs, fr⟩ := formTs_cons hs
    obtain ⟨ft, fr'⟩ := formTs_cons ht
    simp only [textFs] at he
    have key : ∀ {r : List Ty} {x : Nm}, stopB x = true → stopB (textFs false r ++ x) = true := fun {r x} hx => by
      cases r with
      | nil => simpa [textFs] using hx
      | cons t r =>
        simp only [textFs]
        split <;> rfl
    have fin : textT s ++ (textFs false r ++ x) = textT t ++ (textFs false r' ++ y) → (r.isEmpty = r'.isEmpty) → (s :: r).length = (t :: r').length ∧ sameTs (s :: r) (t :: r') = true ∧ x = y := fun he hre => by
      obtain ⟨g1, g2⟩ := text_inj s t _ _ fs ft (key hx) (key hy) he
      by_cases hr : r = []
      · subst hr
        have hr' : r' = [] := List.isEmpty_iff.1 (by rw [← hre]; rfl)
        subst hr'
        simp only [textFs, List.nil_append] at g2
        exact ⟨rfl, by simp [sameTs, g1], g2⟩
      · have hr' : r' ≠ [] := fun e => hr (List.isEmpty_iff.1 (by rw [hre, e]; rfl))
        obtain ⟨q1, q2, q3⟩ := textFs_inj false r r' x y fr fr' (List.length_pos_iff.2 hr) (List.length_pos_iff.2 hr') hx hy g2
        exact ⟨by simp [q1], by simp [sameTs, g1, q2], q3⟩
    by_cases hr : r.isEmpty = true
    · by_cases hr' : r'.isEmpty = true
      · simp only [hr, hr', if_true, List.append_assoc] at he
        exact fin (List.append_cancel_left he) (by rw [hr, hr'])
      · simp only [Bool.not_eq_true] at hr'
        cases b
        · simp [hr, hr'] at he
        · rw [List.isEmpty_iff.1 hr] at hl
          simp at hl
    · simp only [Bool.not_eq_true] at hr
      by_cases hr' : r'.isEmpty = true
      · cases b
        · simp [hr, hr'] at he
        · rw [List.isEmpty_iff.1 hr'] at hk
          simp at hk
      · simp only [Bool.not_eq_true] at hr'
        simp only [hr, hr', Bool.false_eq_true, if_false, List.append_assoc] at he
        exact fin (List.append_cancel_left he) (by rw [hr, hr'])
end
theorem text_iff {s t : Ty} (hs : formT s = 0) (ht : formT t = 0) : (textT s = textT t) ↔ sameT s t = true := by
  constructor
  · intro h
    exact (text_inj s t [] [] hs ht rfl rfl (by simpa using h)).1
  · exact textT_same s t
end Go.Proofs.YtcmpodbjhoeblaaDoor

set_option linter.unusedVariables false
set_option linter.unusedSimpArgs false
set_option linter.unusedSectionVars false
namespace Go.Proofs.YtcmpodbjhoeblaaDoor
open Go Go.VM
set_option maxRecDepth 100000
set_option maxHeartbeats 8000000
variable {G : GT}
@[simp] def tyO (op : Int) (nm : Nm) (a n : D) (p : Pr) (ps : D) : AObj := .cells [.d (.int .i64 op), .d (.str nm), .d a, .d n, .d (.int .i64 p.op), .d (.str p.name), .d (.int .i64 p.n), .d (.sl (p.kids.map prC)), .d ps]
@[simp] def tyZ : AObj := .cells [.d (.int .i64 0), .d (.str []), .d .nils, .d .nils, .d (.int .i64 0), .d (.str []), .d (.int .i64 0), .d .nils, .d .nils]
@[simp] def prO (op : Int) (nm : Nm) (n : Int) (ks : D) : AObj := .cells [.d (.int .i64 op), .d (.str nm), .d (.int .i64 n), .d ks]
mutual
theorem nodT_all : ∀ t : Ty, nodT t ≤ allT t
  | ⟨op, nm, l, ns, p, ps⟩ => by
    have := nodTs_all l
    simp only [nodT, allT]
    omega
theorem nodTs_all : ∀ l : List Ty, nodTs l ≤ allTs l
  | [] => by simp [nodTs, allTs]
  | t :: r => by
    have h1 := nodT_all t
    have h2 := nodTs_all r
    simp only [nodTs, allTs]
    omega
end
theorem nodP_all (t : Ty) : nodP t.pred ≤ allT t := by rw [allT_eq]; omega
mutual
/-- At most 60 types, predicates of at most 60 nodes. -/
def fewT : Ty → Bool
  | ⟨_, _, l, _, p, _⟩ => decide (1 + nodTs l ≤ 60) && (decide (nodP p ≤ 60) && fewTs l)
def fewTs : List Ty → Bool
  | [] => true
  | t :: r => fewT t && fewTs r
end
theorem fewT_eq (t : Ty) : fewT t = (decide (nodT t ≤ 60) && (decide (nodP t.pred ≤ 60) && fewTs t.args)) := by cases t; rfl
theorem fewTs_drop {l : List Ty} {i : Nat} (h : i < l.length) : fewTs (l.drop i) = (fewT l[i] && fewTs (l.drop (i + 1))) := by
  rw [List.drop_eq_getElem_cons h]
  rfl
theorem fewTs_end (l : List Ty) : fewTs (l.drop l.length) = true := by simp [fewTs]
theorem ent_l19_few : VM.Enters Tryd.prog 4 := VM.Enters.mk Tryd.func4 rfl
theorem l19_few_cs : ∀ (n : Nat) (l : List Ty), allTs l ≤ n → n ≤ 900000000 → CS Tryd.prog G 4 [.sl (l.map tyC)] (.d (.bool (fewTs l))) none := by
  intro n
  induction n with
  | zero =>
    intro l hl hn
    have : l = [] := by
      cases l with
      | nil => rfl
      | cons t r =>
        have := allT_pos t
        simp only [allTs] at hl
        omega
    subst this
    refine CS.of_VK Tryd.func4 rfl Tryd.ntmps4 rfl ?_
    simp [fewTs]
    refine SW.loopF (ι := Unit) (fun i => [(7, .d (.int .i64 0))]) (fun _ => []) (fun _ => []) (fun i => 0) () (by simp) ?_
    intro i
    simp
  | succ n ih =>
    intro l hl hn
    have hll := len_le_allTs l
    refine CS.of_VK Tryd.func4 rfl Tryd.ntmps4 rfl ?_
    simp
    refine SW.loopF (ι := { i : Nat // i ≤ l.length ∧ fewTs (l.drop i) = fewTs l }) (fun i => [(7, .d (.int .i64 i.1))]) (fun _ => []) (fun _ => []) (fun i => l.length - i.1) ⟨0, by simp⟩ (by simp) ?_
    rintro ⟨i, hi, hR⟩
    try simp only at hi hR
    by_cases hlt : i < l.length
    · have hg := tys_get hlt
      have hw := wrap64s (show i < 9223372036854775807 by omega)
      have hb2 := allTs_mem hlt
      have hb3 := nodT_all l[i]
      have hb4 := nodP_all l[i]
      have hb5 := allT_eq l[i]
      rw [fewTs_drop hlt, fewT_eq] at hR
      simp [hlt, hg]
      refine callK.mk ent_l19_nodes (l19_nodes_cs l[i] (by omega)) ?_
      by_cases h1 : nodT l[i] ≤ 60
      · have h1' : ¬ 60 < nodT l[i] := by omega
        simp only [h1, decide_true, Bool.true_and] at hR
        simp [h1']
        refine callK.mk ent_r7_Nodes (r7_Nodes_cs l[i].pred (by omega)) ?_
        by_cases h2 : nodP l[i].pred ≤ 60
        · have h2' : ¬ 60 < nodP l[i].pred := by omega
          simp only [h2, decide_true, Bool.true_and] at hR
          simp [h2']
          refine callK.mk ent_l19_few (ih l[i].args (by omega) (by omega)) ?_
          cases hs : fewTs l[i].args
          · rw [hs, Bool.false_and] at hR
            simp [← hR]
          · rw [hs, Bool.true_and] at hR
            simp
            exact Again.mk ⟨i + 1, hlt, hR⟩ (by simp [hw]) (by simp; omega)
        · have h2' : 60 < nodP l[i].pred := by omega
          simp only [h2, decide_false, Bool.false_and] at hR
          simp [h2', ← hR]
      · have h1' : 60 < nodT l[i] := by omega
        simp only [h1, decide_false, Bool.false_and] at hR
        simp [h1', ← hR]
    · have : i = l.length := by omega
      subst this
      rw [fewTs_end] at hR
      simp [← hR]
/-! ### Predicates -/
def zpB (p : Pr) : Bool := decide (p.op = 0) && (decide (p.name = []) && (decide (p.n = 0) && decide (p.kids = [])))
theorem isE {α : Type} (l : List α) : l.isEmpty = decide (l = []) := by cases l <;> rfl
theorem samP_zero (p : Pr) : samP p zeroP = zpB p := by
  rw [Bool.eq_iff_iff, samP_iff]
  obtain ⟨a, b, c, d⟩ := p
  simp [zpB, zeroP]
end Go.Proofs.YtcmpodbjhoeblaaDoor

set_option linter.unusedVariables false
set_option linter.unusedSimpArgs false
set_option linter.unusedSectionVars false
namespace Go.Proofs.YtcmpodbjhoeblaaDoor
open Go Go.VM
set_option maxRecDepth 100000
set_option maxHeartbeats 8000000
variable {G : GT}
theorem lit_lt_succ (n m : Nat) : ((no_index (OfNat.ofNat n) : Int) < (m : Int) + 1) = ((OfNat.ofNat n : Nat) < m + 1) := propext (by have : (OfNat.ofNat n : Int) = ((OfNat.ofNat n : Nat) : Int) := rfl; rw [this]; omega)
theorem succ_lt_lit (n m : Nat) : ((m : Int) + 1 < (no_index (OfNat.ofNat n) : Int)) = (m + 1 < (OfNat.ofNat n : Nat)) := propext (by have : (OfNat.ofNat n : Int) = ((OfNat.ofNat n : Nat) : Int) := rfl; rw [this]; omega)
attribute [local simp] lit_lt_succ succ_lt_lit
end Go.Proofs.YtcmpodbjhoeblaaDoor
