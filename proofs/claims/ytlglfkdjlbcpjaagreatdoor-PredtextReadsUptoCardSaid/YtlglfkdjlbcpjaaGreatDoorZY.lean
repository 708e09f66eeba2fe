/- Joined texts. Which predicates the check accepts: their shape, their names, how long their texts are. Text of a predicate; the walks of the program. Text of a predicate; the walks of the program: the closure, Text. No condition. -/
import Derived.Test.YtlglfkdjlbcpjaaGreatDoorZR
import Derived.Test.YtlglfkdjlbcpjaaGreatDoorZP
import Derived.Test.YtlglfkdjlbcpjaaGreatDoorZB
import Derived.Test.YtlglfkdjlbcpjaaGreatDoorZS
section
set_option linter.unusedVariables false
set_option linter.unusedSimpArgs false
set_option linter.unusedSectionVars false
namespace Go.Proofs.YtlglfkdjlbcpjaaGreatDoor
set_option maxRecDepth 100000
set_option maxHeartbeats 4000000
/-- A name that some node may have. -/
def nmP (s : List UInt8) : Prop := coreB s = true ∨ s = [118] ∨ s = [116, 97, 103] ∨ s = [118, 97, 108]
theorem node_zero {p : Pr} (h : nodeE p = 0) : 1 ≤ p.op ∧ p.op ≤ 18 ∧ argE p.op p.name p.n p.kids.length = false ∧ rangeE p.op p.n = false ∧ (namB p.op && !coreB p.name && !freeN p.op p.name) = false := by
  unfold nodeE at h
  split at h
  · cases h
  rename_i h1
  split at h
  · cases h
  rename_i h2
  split at h
  · cases h
  rename_i h3
  split at h
  · cases h
  rename_i h4
  exact ⟨by omega, by omega, by simpa using h2, by simpa using h3, by simpa using h4⟩
theorem frN_some {op : Int} (h : 1 ≤ op ∧ op ≤ 18) (h' : op ≠ 1 ∧ op ≠ 2 ∧ op ≠ 3 ∧ op ≠ 4 ∧ op ≠ 5 ∧ op ≠ 9 ∧ op ≠ 14) : ∃ lv l r s, frN op = some (lv, l, r, s) := by
  rcases (by omega : op = 6 ∨ op = 7 ∨ op = 8 ∨ op = 10 ∨ op = 11 ∨ op = 12 ∨ op = 13 ∨ op = 15 ∨ op = 16 ∨ op = 17 ∨ op = 18) with rfl | rfl | rfl | rfl | rfl | rfl | rfl | rfl | rfl | rfl | rfl <;> exact ⟨_, _, _, _, rfl⟩
theorem preP_mem {k q : Pr} : ∀ {l : List Pr}, k ∈ l → q ∈ preP k → q ∈ prePs l
  | x :: l, h, hq => by
    rw [prePs]
    rcases List.mem_cons.1 h with rfl | h
    · exact List.mem_append_left _ hq
    · exact List.mem_append_right _ (preP_mem h hq)
theorem twoK_of {α : Type} : ∀ {l : List α}, l.length = 2 → ∃ a b, l = [a, b]
  | [a, b], _ => ⟨a, b, rfl⟩
theorem wf_node {p : Pr} (h : nodeE p = 0) (hk : ∀ k ∈ p.kids, WfP nmP k) : WfP nmP p := by
  obtain ⟨op, nm, n, ks⟩ := p
  obtain ⟨h1, h2, h3, h4, h5⟩ := node_zero h
  simp only at h1 h2 h3 h4 h5 hk
  simp only [argE, Bool.or_eq_false_iff, Bool.and_eq_false_iff, decide_eq_false_iff_not, Bool.not_eq_false', decide_eq_true_eq] at h3
  obtain ⟨⟨⟨a1, a2⟩, a3⟩, a4⟩ := h3
  simp only [rangeE, inB, Bool.or_eq_false_iff, Bool.and_eq_false_iff, decide_eq_false_iff_not, Bool.not_eq_false', decide_eq_true_eq, Bool.and_eq_true] at h4
  obtain ⟨b1, b2⟩ := h4
  have hnm : namB op = true → nmP nm := fun hn => by
    rw [hn, Bool.true_and] at h5
    unfold nmP
    cases hc : coreB nm with
    | true => exact .inl rfl
    | false =>
      simp only [hc, Bool.not_false, Bool.true_and, Bool.not_eq_false'] at h5
      simp only [freeN, Bool.or_eq_true, Bool.and_eq_true, decide_eq_true_eq] at h5
      rcases h5 with ⟨_, h⟩ | ⟨_, h | h⟩
      · exact .inr (.inl h)
      · exact .inr (.inr (.inl h))
      · exact .inr (.inr (.inr h))
  by_cases o1 : op = 1
  · subst o1
    have e1 : leastK 1 = 0 := rfl
    have e2 : mostK 1 = 0 := rfl
    rw [e2] at a4
    have hk0 : ks = [] := List.length_eq_zero_iff.1 (by omega)
    have hn0 : nm = [] := by simpa [namB] using a1
    subst hk0 hn0
    rcases b1 with b1 | b1
    · exact absurd rfl b1
    · exact .int n b1.1 b1.2
  by_cases o2 : op = 2
  · subst o2
    have e2 : mostK 2 = 0 := rfl
    rw [e2] at a4
    have hk0 : ks = [] := List.length_eq_zero_iff.1 (by omega)
    have hn0 : nm = [] := by simpa [namB] using a1
    subst hk0 hn0
    refine .boo n ?_
    rcases b2 with (b2 | b2) | b2
    · exact absurd rfl b2
    · exact .inl b2
    · exact .inr b2
  have hn : n = 0 := by
    rcases a2 with (a2 | a2) | a2
    · exact absurd a2 o1
    · exact absurd a2 o2
    · exact a2
  subst hn
  by_cases o3 : op = 3
  · subst o3
    have e2 : mostK 3 = 0 := rfl
    rw [e2] at a4
    have hk0 : ks = [] := List.length_eq_zero_iff.1 (by omega)
    subst hk0
    exact .var nm (hnm rfl)
  by_cases o4 : op = 4
  · subst o4
    have e1 : leastK 4 = 1 := rfl
    rw [e1] at a3
    exact .app nm ks (hnm rfl) (by rintro rfl; exact a3 (by decide)) hk
  by_cases o5 : op = 5
  · subst o5
    have e1 : leastK 5 = 1 := rfl
    rw [e1] at a3
    exact .hole nm ks (hnm rfl) (by rintro rfl; exact a3 (by decide)) hk
  have hn0 : nm = [] := by
    rcases a1 with a1 | a1
    · simp [namB, o3, o4, o5] at a1
    · exact a1
  subst hn0
  have one : leastK op = 1 → mostK op = 1 → ∃ a, ks = [a] := fun e1 e2 => by
    rw [e1] at a3
    rw [e2] at a4
    exact List.length_eq_one_iff.1 (by omega)
  by_cases o9 : op = 9
  · subst o9
    obtain ⟨a, rfl⟩ := one rfl rfl
    exact .neg a (hk a (by simp))
  by_cases o14 : op = 14
  · subst o14
    obtain ⟨a, rfl⟩ := one rfl rfl
    exact .not a (hk a (by simp))
  have e1 : leastK op = 2 := by simp [leastK, o1, o2, o3, o4, o5, o9, o14]
  have e2 : mostK op = 2 := by simp [mostK, o1, o2, o3, o4, o5, o9, o14]
  rw [e1] at a3
  rw [e2] at a4
  obtain ⟨a, b, rfl⟩ : ∃ a b, ks = [a, b] := twoK_of (by omega)
  obtain ⟨lv, l, r, s, hf⟩ := frN_some ⟨h1, h2⟩ ⟨o1, o2, o3, o4, o5, o9, o14⟩
  exact .two op lv l r s a b hf (hk a (by simp)) (hk b (by simp))
theorem wf_all : ∀ p : Pr, (∀ q ∈ preP p, nodeE q = 0) → WfP nmP p := by
  refine Pr.ind fun p ih h => ?_
  rw [preP_eq] at h
  exact wf_node (h p (.head _)) fun k hk => ih k hk fun q hq => h q (.tail _ (preP_mem hk hq))
theorem firstK_all {e : Pr → Int} : ∀ {l : List Pr}, firstE e l = 0 → ∀ q ∈ l, e q = 0
  | p :: r, h, q, hq => by
    rw [firstE] at h
    split at h
    · rename_i h0
      rcases List.mem_cons.1 hq with rfl | hq
      · exact h0
      · exact firstK_all h q hq
    · rename_i h0
      exact absurd h h0
theorem chk_zero {p : Pr} (h : chkE p = 0) : nodP p ≤ 400 ∧ ∀ q ∈ preP p, nodeE q = 0 := by
  unfold chkE chkP at h
  split at h
  · cases h
  split at h
  · cases h
  exact ⟨by omega, firstK_all h⟩
theorem wf_chk {p : Pr} (h : chkE p = 0) : WfP nmP p := wf_all p (chk_zero h).2
theorem WfP.mono {N M : List UInt8 → Prop} (hNM : ∀ s, N s → M s) {p : Pr} (h : WfP N p) : WfP M p := by
  induction h with
  | int n h1 h2 => exact .int n h1 h2
  | boo n h => exact .boo n h
  | var s h => exact .var s (hNM s h)
  | app s ks h h1 _ ih => exact .app s ks (hNM s h) h1 ih
  | hole s ks h h1 _ ih => exact .hole s ks (hNM s h) h1 ih
  | neg a _ ih => exact .neg a ih
  | not a _ ih => exact .not a ih
  | two op lv l r s a b hf _ _ iha ihb => exact .two op lv l r s a b hf iha ihb
/-! ### Names -/
theorem sm_iff {c : UInt8} : smallB c.toNat = smU c := by simp [smallB, smU]
theorem ca_iff {c : UInt8} : capB c.toNat = caU c := by simp [capB, caU]
theorem dg_iff {c : UInt8} : digB c.toNat = dgU c := by simp [digB, dgU]
theorem an_iff {c : UInt8} : anB c.toNat = (smU c || caU c || dgU c) := by rw [anB, sm_iff, ca_iff, dg_iff]
theorem wd_in {c : UInt8} (h : wdB c.toNat = true) : inU c = true := by
  rw [wdB, sm_iff, dg_iff] at h
  simp only [Bool.or_eq_true, beq_iff_eq] at h
  rcases h with (h | h) | h
  · exact in_sm h
  · exact in_dg h
  · have : c.toNat = 95 := by omega
    simp [inU, this]
theorem an_in {c : UInt8} (h : anB c.toNat = true) : inU c = true := by
  rw [an_iff] at h
  simp only [Bool.or_eq_true] at h
  rcases h with (h | h) | h
  · exact in_sm h
  · exact in_ca h
  · exact in_dg h
theorem all8_mem {f : Int → Bool} {s : List UInt8} (h : all8 f s = true) : ∀ c ∈ s, f c.toNat = true := by
  simpa [all8] using h
theorem mem_dropWhile {f : UInt8 → Bool} {s : List UInt8} {b : UInt8} (h : b ∈ s.dropWhile f) : b ∈ s := (List.dropWhile_sublist f).subset h
theorem dropWhile_head {f : UInt8 → Bool} : ∀ {s : List UInt8} {d : UInt8} {r : List UInt8}, s.dropWhile f = d :: r → f d = false
  | c :: s, d, r, h => by
    rw [List.dropWhile_cons] at h
    split at h
    · exact dropWhile_head h
    · rename_i hc
      cases h
      simpa using hc
theorem part_ok {q : List UInt8} (h : partB q = true) : okPart q ∧ ∀ b ∈ q, inU b = true := by
  simp only [partB, Bool.and_eq_true, Bool.or_eq_true] at h
  obtain ⟨hs, h⟩ := h
  cases q with
  | nil => simp [sizedB] at hs
  | cons c r =>
    unfold okPart
    simp only
    rcases h with h | h
    · have ha := all8_mem h
      refine ⟨?_, fun b hb => an_in (ha b hb)⟩
      split
      · rename_i hc
        intro d t hd
        have hm : d ∈ c :: r := mem_dropWhile (f := dgU) (by rw [hd]; exact .head _)
        have h1 := ha d hm
        rw [an_iff, dropWhile_head hd, Bool.or_false, Bool.or_eq_true] at h1
        exact h1
      · rename_i hc
        have h1 := ha c (.head _)
        have hc' : dgU c = false := by simpa using hc
        rw [an_iff, hc', Bool.or_false, Bool.or_eq_true] at h1
        exact h1
    · simp only [wordB, Bool.and_eq_true] at h
      have ha := all8_mem h.1
      have hc : smU c = true := by rw [← sm_iff]; exact h.2
      refine ⟨?_, fun b hb => wd_in (ha b hb)⟩
      rw [if_neg]
      · exact .inl hc
      · intro hd
        rw [(dg_no hd).1] at hc
        cases hc
theorem kw_small : ∀ k ∈ kwL, headB smallB k = true := by decide
theorem core_first {p : List UInt8} {more : Bool} (h : (nameB p || titleB p || (decide (p = [118]) && more)) = true) : (kwB p = false ∨ p = [118]) ∧ (∀ b ∈ p, inU b = true) ∧ letH p := by
  simp only [Bool.or_eq_true] at h
  rcases h with (h | h) | h
  · simp only [nameB, Bool.and_eq_true, Bool.not_eq_true'] at h
    obtain ⟨⟨⟨h1, h2⟩, h3⟩, h4⟩ := h
    refine ⟨.inl h3, fun b hb => wd_in (all8_mem h4 b hb), ?_⟩
    cases p with
    | nil => simp [sizedB] at h1
    | cons c r => exact .inl (by rw [← sm_iff]; exact h2)
  · simp only [titleB, Bool.and_eq_true] at h
    obtain ⟨⟨⟨⟨⟨⟨h1, h2⟩, h3⟩, _⟩, _⟩, _⟩, _⟩ := h
    cases p with
    | nil => simp [sizedB] at h1
    | cons c r =>
      have hc : caU c = true := by rw [← ca_iff]; exact h2
      refine ⟨.inl ?_, fun b hb => an_in (all8_mem h3 b hb), .inr hc⟩
      cases hk : kwB (c :: r) with
      | false => rfl
      | true =>
        simp only [kwB, List.any_eq_true, decide_eq_true_eq] at hk
        obtain ⟨k, hk, rfl⟩ := hk
        have : smallB c.toNat = true := kw_small _ hk
        rw [sm_iff] at this
        simp only [smU, caU, decide_eq_true_eq] at this hc
        omega
  · simp only [Bool.and_eq_true, decide_eq_true_eq] at h
    obtain ⟨rfl, _⟩ := h
    exact ⟨.inr rfl, by decide, .inl (by decide)⟩
/-- The numbers in a name are not too large. -/
def numsOk (s : List UInt8) : Prop := ∀ q ∈ (partsL s).tail, digH q = true → (numL (q.takeWhile dgU)).2 = true
theorem nm_ok {s : List UInt8} (h : nmP s) : okNm kwB s ∧ (numsOk s → lxNm numL s) ∧ s.length ≤ 120 := by
  rcases h with h | rfl | rfl | rfl
  · simp only [coreB, Bool.and_eq_true, decide_eq_true_eq] at h
    obtain ⟨hl, h⟩ := h
    unfold okNm lxNm numsOk
    cases hp : partsL s with
    | nil => rw [hp] at h; cases h
    | cons p ps =>
      rw [hp] at h
      simp only [Bool.and_eq_true, List.all_eq_true] at h
      obtain ⟨h1, h2⟩ := h
      obtain ⟨f1, f2, f3⟩ := core_first h1
      refine ⟨⟨?_, fun q hq => (part_ok (h2 q hq)).1⟩, fun hn => ⟨f2, f3, fun q hq => ⟨(part_ok (h2 q hq)).2, (part_ok (h2 q hq)).1, hn q hq⟩⟩, hl⟩
      rcases f1 with f1 | f1
      · exact .inl f1
      · exact .inr (.inl f1)
  · exact ⟨⟨.inr (.inl rfl), by simp⟩, fun _ => ⟨by decide, .inl (by decide), by simp⟩, by decide⟩
  · exact ⟨⟨.inr (.inr (.inl rfl)), by simp⟩, fun _ => ⟨by decide, .inl (by decide), by simp⟩, by decide⟩
  · exact ⟨⟨.inr (.inr (.inr rfl)), by simp⟩, fun _ => ⟨by decide, .inl (by decide), by simp⟩, by decide⟩
/-! ### Texts -/
abbrev oT : Out UInt8 := outT Lib.decDigits
theorem dig_ok : okDig numL Lib.decDigits := fun n hn => by
  obtain ⟨h1, h2, h3, _⟩ := dd_all n
  refine ⟨h1, fun b hb => ?_, ?_⟩
  · have := isDg_iff.1 (h2 b hb)
    simp only [dgU, decide_eq_true_eq]
    exact this
  · unfold numL
    rw [h3, if_pos hn]
theorem dd_small13 {n : Nat} (h : n ≤ 1000000000000) : (Lib.decDigits n).length ≤ 13 := dd_len 12 n (by omega)
theorem prt_wrap (p : Pr) (k : Nat) : (prtO oT p k).length ≤ (bdO oT p).length + 2 := by
  by_cases h : k ≤ levN p.op
  · rw [prtO_lo _ h]; omega
  · rw [prtO_hi _ (by omega)]
    simp [outT_sg]
theorem commas_len : ∀ ks : List Pr, (∀ k ∈ ks, (bdO oT k).length + 4 ≤ 150 * nodP k) → (commas oT (ks.map fun p => prtO oT p 1)).length ≤ 150 * nodPs ks
  | [], _ => by simp [commas]
  | [k], h => by
    have h1 := h k (.head _)
    have h2 := prt_wrap k 1
    simp only [List.map_cons, List.map_nil, commas, nodPs]
    omega
  | k :: k2 :: ks, h => by
    have h1 := h k (.head _)
    have h2 := prt_wrap k 1
    have h3 := commas_len (k2 :: ks) fun x hx => h x (.tail _ hx)
    rw [nodPs]
    simp only [List.map_cons, commas] at h3 ⊢
    simp only [List.length_append]
    simp only [outT_sg, outT_sp, List.length_cons, List.length_nil] at h3 ⊢
    omega
theorem list_len (ks : List Pr) (h : ∀ k ∈ ks, (bdO oT k).length + 4 ≤ 150 * nodP k) : (listO oT (ks.map (prtO oT))).length ≤ 150 * nodPs ks + 2 := by
  have := commas_len ks h
  unfold listO
  rw [List.map_map]
  simp only [Function.comp_def, List.length_append]
  simp only [outT_sg, outT_sp, List.length_cons, List.length_nil] at this ⊢
  omega
theorem bd_len {N : List UInt8 → Prop} (hN : ∀ s, N s → s.length ≤ 120) {p : Pr} (h : WfP N p) : (bdO oT p).length + 4 ≤ 150 * nodP p := by
  induction h with
  | int n h1 h2 =>
    have hd := dd_small13 (n := n.natAbs) (by omega)
    have hb : (bdO oT ⟨1, [], n, []⟩).length ≤ 16 := by
      show (if n < 0 then _ else _ : List UInt8).length ≤ 16
      split
      · simp [outT]; omega
      · simp [outT]; omega
    simp only [nodP]
    omega
  | boo n h =>
    have hb : (bdO oT ⟨2, [], n, []⟩).length ≤ 5 := by
      show (if decide (n = 1) = true then _ else _ : List UInt8).length ≤ 5
      split <;> decide
    simp only [nodP]
    omega
  | var s h =>
    have := hN s h
    have hb : bdO oT ⟨3, s, 0, []⟩ = s := rfl
    rw [hb]
    simp only [nodP]
    omega
  | app s ks h h1 h2 ih =>
    have := hN s h
    have hl := list_len ks ih
    have hb : bdO oT ⟨4, s, 0, ks⟩ = s ++ listO oT (ks.map (prtO oT)) := rfl
    rw [hb, List.length_append, nodP]
    omega
  | hole s ks h h1 h2 ih =>
    have := hN s h
    have hl := list_len ks ih
    have hb : bdO oT ⟨5, s, 0, ks⟩ = [63] ++ (s ++ listO oT (ks.map (prtO oT))) := rfl
    rw [hb, List.length_append, List.length_append, nodP]
    simp only [List.length_cons, List.length_nil]
    omega
  | neg a h ih =>
    have := prt_wrap a 9
    have hb : bdO oT ⟨9, [], 0, [a]⟩ = [45] ++ prtO oT a 9 := rfl
    rw [hb, List.length_append, nodP]
    simp only [List.length_cons, List.length_nil, nodPs]
    omega
  | not a h ih =>
    have := prt_wrap a 5
    have hb : bdO oT ⟨14, [], 0, [a]⟩ = [33] ++ prtO oT a 5 := rfl
    rw [hb, List.length_append, nodP]
    simp only [List.length_cons, List.length_nil, nodPs]
    omega
  | two op lv l r s a b hf ha hb iha ihb =>
    have h1 := prt_wrap a l
    have h2 := prt_wrap b r
    have hs : s.length ≤ 3 := by
      rcases frN_cases hf with ⟨rfl, hq⟩ | ⟨rfl, hq⟩ | ⟨rfl, hq⟩ | ⟨rfl, hq⟩ | ⟨rfl, hq⟩ | ⟨rfl, hq⟩ | ⟨rfl, hq⟩ | ⟨rfl, hq⟩ | ⟨rfl, hq⟩ | ⟨rfl, hq⟩ | ⟨rfl, hq⟩ <;> cases hq <;> decide
    rw [bdO_two oT hf rfl, nodP]
    simp only [List.length_append, nodPs]
    simp only [outT_sg, outT_sp, List.length_cons, List.length_nil] at *
    omega
theorem prt_len {p : Pr} (h : WfP nmP p) (k : Nat) : (prtO oT p k).length ≤ 150 * nodP p := by
  have h1 := bd_len (fun s hs => (nm_ok hs).2.2) h
  have h2 := prt_wrap p k
  omega
end Go.Proofs.YtlglfkdjlbcpjaaGreatDoor
end

section
set_option linter.unusedVariables false
set_option linter.unusedSimpArgs false
set_option linter.unusedSectionVars false
namespace Go.Proofs.YtlglfkdjlbcpjaaGreatDoor
open Go Go.VM
set_option maxRecDepth 100000
set_option maxHeartbeats 8000000
variable {G : GT}
theorem frm_frN (op : Int) : frm op = (frN op).map fun q => ((q.1 : Int), (q.2.1 : Int), (q.2.2.1 : Int), q.2.2.2) := by
  by_cases h18 : op = 18
  · subst h18; rfl
  by_cases h17 : op = 17
  · subst h17; rfl
  by_cases h16 : op = 16
  · subst h16; rfl
  by_cases h15 : op = 15
  · subst h15; rfl
  by_cases h10 : op = 10
  · subst h10; rfl
  by_cases h11 : op = 11
  · subst h11; rfl
  by_cases h12 : op = 12
  · subst h12; rfl
  by_cases h13 : op = 13
  · subst h13; rfl
  by_cases h6 : op = 6
  · subst h6; rfl
  by_cases h7 : op = 7
  · subst h7; rfl
  by_cases h8 : op = 8
  · subst h8; rfl
  simp [frm, frN, h18, h17, h16, h15, h10, h11, h12, h13, h6, h7, h8]
theorem ent_predtext_level : VM.Enters Tryz.prog 28 := VM.Enters.mk Tryz.func28 rfl
theorem predtext_level_gen (op : Int) (nm : Nm) (n : Int) (es : List (List D)) : CS Tryz.prog G 28 [.agg [.int .i64 op, .str nm, .int .i64 n, .sl es]] (.d (.int .i64 (levN op))) none := by
  have hf := predtext_forms_cs (G := G) op
  rw [frm_frN] at hf
  refine CS.of_VK Tryz.func28 rfl Tryz.ntmps28 rfl ?_
  simp
  by_cases o14 : op = 14
  · simp [o14, levN]
  by_cases o9 : op = 9
  · simp [o9, levN]
  simp [o14, o9]
  refine callK.mk (hkl := frmR_keyless _) ent_predtext_forms hf ?_
  cases hq : frN op with
  | none => simp [frmR, levN, o14, o9, hq]
  | some q => obtain ⟨a, b, c, s⟩ := q; simp [frmR, levN, o14, o9, hq]
theorem predtext_level_cs (p : Pr) : CS Tryz.prog G 28 [.agg (prD p)] (.d (.int .i64 (levN p.op))) none := predtext_level_gen p.op p.name p.n _
theorem ent_iFormatBool : VM.Enters Tryz.prog 51 := VM.Enters.mk Tryz.func51 rfl
theorem iFormatBool_cs (b : Bool) : CS Tryz.prog G 51 [.bool b] (.d (.str (if b = true then [116, 114, 117, 101] else [102, 97, 108, 115, 101]))) none := by
  refine CS.of_VK Tryz.func51 rfl Tryz.ntmps51 rfl ?_
  cases b <;> simp
theorem ent_FormatBool : VM.Enters Tryz.prog 31 := VM.Enters.mk Tryz.func31 rfl
theorem FormatBool_cs (b : Bool) : CS Tryz.prog G 31 [.bool b] (.d (.str (if b = true then [116, 114, 117, 101] else [102, 97, 108, 115, 101]))) none := by
  refine CS.of_VK Tryz.func31 rfl Tryz.ntmps31 rfl ?_
  simp
  refine callK.mk ent_iFormatBool (iFormatBool_cs b) ?_
  simp
theorem commas_join : ∀ ks : List (List UInt8), commas oT ks = Lib.join ks [44, 32]
  | [] => rfl
  | [x] => by rw [Lib.join_cons]; simp [commas, Lib.joinTail]
  | x :: y :: r => by
    rw [commas, commas_join (y :: r), Lib.join_cons, Lib.join_cons]
    simp [outT_sg, outT_sp, Lib.joinTail]
/-! ### The closures -/
theorem ent_text1 : VM.Enters Tryz.prog 24 := VM.Enters.mk Tryz.func24 rfl
theorem ent_text2 : VM.Enters Tryz.prog 27 := VM.Enters.mk Tryz.func27 rfl
/-- The boxes that the closures capture. -/
abbrev tH : List (Nat × AObj) := [(100000, .cells [.clo 27 [.ptr 100000 0, .ptr 100001 0]]), (100001, .cells [.clo 24 [.ptr 100000 0]])]
def TxC (G : GT) (p : Pr) : Prop := ∀ k : Nat, k ≤ 10 → CH Tryz.prog G 27 ⟨[.d (.agg (prD p)), .d (.int .i64 k), .ptr 100000 0, .ptr 100001 0], tH, []⟩ ⟨[.d (.str (prtO oT p k))], tH, []⟩
theorem text1_ch (ks : List Pr) (hk : ∀ k ∈ ks, TxC G k) (hl : ks.length ≤ 100000) (hs : (listO oT (ks.map (prtO oT))).length ≤ 900000000) : CH Tryz.prog G 24 ⟨[.d (.sl (ks.map prC)), .ptr 100000 0], tH, []⟩ ⟨[.d (.str (listO oT (ks.map (prtO oT))))], tH, []⟩ := by
  have he : listO oT (ks.map (prtO oT)) = [40] ++ (Lib.join (ks.map fun p => prtO oT p 1) [44, 32] ++ [41]) := by
    unfold listO
    rw [List.map_map, ← commas_join]
    rfl
  rw [he] at hs ⊢
  have hjl : (Lib.join (ks.map fun p => prtO oT p 1) [44, 32]).length ≤ 900000000 := by
    simp only [List.length_append] at hs
    omega
  have hJ := Join_cs (G := G) (ks.map fun p => prtO oT p 1) [44, 32] (by simp; omega) (by omega)
  have hj3 := joined3 (G := G) [40] (Lib.join (ks.map fun p => prtO oT p 1) [44, 32]) [41] hs
  rw [List.map_map] at hJ
  refine CH.of_VK Tryz.func24 rfl Tryz.ntmps24 rfl (by simp) ?_
  simp
  refine SW.loopF (ι := { i : Nat // i ≤ ks.length }) (fun i => [(4, .d (.sl ((ks.map fun p => [D.str (prtO oT p 1)]).take i.1))), (9, .d (.int .i64 i.1))]) (fun _ => tH) (fun _ => [(9, [.t 4])]) (fun i => ks.length - i.1) ⟨0, by simp⟩ (by simp) ?_
  rintro ⟨i, hi⟩
  by_cases hlt : i < ks.length
  · have hg := prs_get hlt
    have hw := wrap64s (show i < 9223372036854775807 by omega)
    have hc := hk ks[i] (List.getElem_mem hlt) 1 (by omega)
    have hmin : min i ks.length = i := Nat.min_eq_left hi
    simp [hlt, hg]
    refine callHK.ro ent_text2 hc [(100000, 100000), (100001, 100001)] (by simp) (by simp) (by simp) (by simp) (by simp) ?_
    have htk : (ks.map fun p => [D.str (prtO oT p 1)]).take i ++ [[D.str (prtO oT ks[i] 1)]] = (ks.map fun p => [D.str (prtO oT p 1)]).take (i + 1) := by
      rw [List.take_succ_eq_append_getElem (by simpa using hlt)]
      simp
    have hone : ∀ x, x ∈ (ks.map fun p => [D.str (prtO oT p 1)]).take i → x.length = 1 := fun x hx => by
      obtain ⟨p, _, rfl⟩ := List.mem_map.1 (List.mem_of_mem_take hx)
      rfl
    have hsz : (i + 1) * 17 ≤ 140737488355328 := by omega
    simp [rg1, hmin, htk, hsz]
    rw [if_pos hone]
    simp
    exact Again.mk ⟨i + 1, hlt⟩ (by simp [hw, htk]) (by simp; omega)
  · have : i = ks.length := by omega
    subst this
    have hfull : (ks.map fun p => [D.str (prtO oT p 1)]).take ks.length = ks.map fun p => [D.str (prtO oT p 1)] := List.take_of_length_le (by simp)
    simp [Function.comp_def] at hJ
    simp
    rw [hfull]
    refine callK.mk ent_Join hJ ?_
    simp [rg3]
    refine callK.mk ent_predtext_joined hj3 ?_
    simp
end Go.Proofs.YtlglfkdjlbcpjaaGreatDoor
end

section
set_option linter.unusedVariables false
set_option linter.unusedSimpArgs false
set_option linter.unusedSectionVars false
namespace Go.Proofs.YtlglfkdjlbcpjaaGreatDoor
open Go Go.VM
set_option maxRecDepth 100000
set_option maxHeartbeats 8000000
variable {G : GT}
theorem joined5 (a b c d e : List UInt8) (h : (a ++ (b ++ (c ++ (d ++ e)))).length ≤ 900000000) : CS Tryz.prog G 25 [.sl [[.str a], [.str b], [.str c], [.str d], [.str e]]] (.d (.str (a ++ (b ++ (c ++ (d ++ e)))))) none := by
  have := predtext_joined_cs (G := G) [a, b, c, d, e] (by simp) (by simpa using h)
  simpa using this
theorem rg5 : List.range 5 = [0, 1, 2, 3, 4] := rfl
/-- The closure where no parentheses are needed. -/
def BdC (G : GT) (p : Pr) : Prop := ∀ k : Nat, k ≤ levN p.op → CH Tryz.prog G 27 ⟨[.d (.agg (prD p)), .d (.int .i64 k), .ptr 100000 0, .ptr 100001 0], tH, []⟩ ⟨[.d (.str (bdO oT p))], tH, []⟩
theorem txC_of {p : Pr} (h : BdC G p) (hs : (bdO oT p).length ≤ 800000000) : TxC G p := by
  intro k hk
  by_cases hl : k ≤ levN p.op
  · rw [prtO_lo _ hl]
    exact h k hl
  · have hb := h 1 (levN_le _).1
    have hlt : levN p.op < k := by omega
    have hj := joined3 (G := G) [40] (bdO oT p) [41] (by simp; omega)
    have e : prtO oT p k = [40] ++ (bdO oT p ++ [41]) := prtO_hi _ hlt
    rw [e]
    obtain ⟨op, nm, n, ks⟩ := p
    refine CH.of_VK Tryz.func27 rfl Tryz.ntmps27 rfl (by simp) ?_
    simp
    refine callK.mk ent_predtext_level (predtext_level_gen _ _ _ _) ?_
    simp [hlt]
    refine callHK.ro ent_text2 hb [(100000, 100000), (100001, 100001)] (by simp) (by simp) (by simp) (by simp) (by simp) ?_
    simp [rg3]
    refine callK.mk ent_predtext_joined hj ?_
    simp
theorem bd_int (hP : G 2 = some powCells) {n : Int} (h1 : -1000000000000 ≤ n) (h2 : n ≤ 1000000000000) : BdC G ⟨1, [], n, []⟩ := by
  intro k hk
  have hI := Itoa_cs (G := G) hP n ⟨by omega, by omega⟩
  have hlt : ¬ (levN ((⟨1, [], n, []⟩ : Pr) : Pr).op < k) := by omega
  refine CH.of_VK Tryz.func27 rfl Tryz.ntmps27 rfl (by simp) ?_
  simp
  refine callK.mk ent_predtext_level (predtext_level_gen _ _ _ _) ?_
  simp [hlt]
  refine callK.mk (hkl := frmR_keyless _) ent_predtext_forms (predtext_forms_cs _) ?_
  simp [frm, frmR]
  by_cases hn : n < 0
  · have e : bdO oT ⟨1, [], n, []⟩ = [40] ++ (([45] ++ Lib.decDigits n.natAbs) ++ [41]) := by
      show (if n < 0 then _ else _) = _
      rw [if_pos hn]
      simp [outT]
    have hd := dd_small13 (n := n.natAbs) (by omega)
    have hi : Lib.itoa n = [45] ++ Lib.decDigits n.natAbs := by unfold Lib.itoa; rw [if_pos hn]; rfl
    rw [hi] at hI
    have hj := joined3 (G := G) [40] ([45] ++ Lib.decDigits n.natAbs) [41] (by simp; omega)
    simp [hn, e]
    refine callK.mk ent_Itoa hI ?_
    simp [rg3]
    refine callK.mk ent_predtext_joined hj ?_
    simp
  · have e : bdO oT ⟨1, [], n, []⟩ = Lib.decDigits n.natAbs := by
      show (if n < 0 then _ else _) = _
      rw [if_neg hn]
      rfl
    have hi : Lib.itoa n = Lib.decDigits n.natAbs := by unfold Lib.itoa; rw [if_neg hn, show n.toNat = n.natAbs by omega]
    rw [hi] at hI
    simp [hn, e]
    refine callK.mk ent_Itoa hI ?_
    simp
theorem bd_boo {n : Int} (hn : n = 0 ∨ n = 1) : BdC G ⟨2, [], n, []⟩ := by
  intro k hk
  have hB := FormatBool_cs (G := G) (decide (n = 1))
  have hlt : ¬ (levN ((⟨2, [], n, []⟩ : Pr) : Pr).op < k) := by omega
  refine CH.of_VK Tryz.func27 rfl Tryz.ntmps27 rfl (by simp) ?_
  simp
  refine callK.mk ent_predtext_level (predtext_level_gen _ _ _ _) ?_
  simp [hlt]
  refine callK.mk (hkl := frmR_keyless _) ent_predtext_forms (predtext_forms_cs _) ?_
  simp [frm, frmR]
  refine callK.mk ent_FormatBool hB ?_
  rcases hn with rfl | rfl
  · simp [bdO, bodyO, frN, outT]
  · simp [bdO, bodyO, frN, outT]
theorem bd_var {s : List UInt8} : BdC G ⟨3, s, 0, []⟩ := by
  intro k hk
  have e : bdO oT ⟨3, s, 0, []⟩ = s := rfl
  rw [e]
  have hlt : ¬ (levN ((⟨3, s, 0, []⟩ : Pr) : Pr).op < k) := by omega
  refine CH.of_VK Tryz.func27 rfl Tryz.ntmps27 rfl (by simp) ?_
  simp
  refine callK.mk ent_predtext_level (predtext_level_gen _ _ _ _) ?_
  simp [hlt]
  refine callK.mk (hkl := frmR_keyless _) ent_predtext_forms (predtext_forms_cs _) ?_
  simp [frm, frmR]
theorem bd_app {s : List UInt8} {ks : List Pr} (hk : ∀ k ∈ ks, TxC G k) (hl : ks.length ≤ 100000) (hs : (bdO oT ⟨4, s, 0, ks⟩).length ≤ 900000000) : BdC G ⟨4, s, 0, ks⟩ := by
  intro k hkk
  have e : bdO oT ⟨4, s, 0, ks⟩ = s ++ listO oT (ks.map (prtO oT)) := rfl
  rw [e] at hs ⊢
  have hL := text1_ch ks hk hl (by simp at hs; omega)
  have hj := joined2 (G := G) s (listO oT (ks.map (prtO oT))) hs
  have hlt : ¬ (levN ((⟨4, s, 0, ks⟩ : Pr) : Pr).op < k) := by omega
  refine CH.of_VK Tryz.func27 rfl Tryz.ntmps27 rfl (by simp) ?_
  simp
  refine callK.mk ent_predtext_level (predtext_level_gen _ _ _ _) ?_
  simp [hlt]
  refine callK.mk (hkl := frmR_keyless _) ent_predtext_forms (predtext_forms_cs _) ?_
  simp [frm, frmR]
  refine ⟨lexOk.mk (by kernel_rfl), ?_⟩
  try simp
  refine callHK.ro ent_text1 hL [(100000, 100000), (100001, 100001)] (by simp) (by simp) (by simp) (by simp) (by simp) ?_
  simp [rg2]
  refine callK.mk ent_predtext_joined hj ?_
  simp
theorem bd_hole {s : List UInt8} {ks : List Pr} (hk : ∀ k ∈ ks, TxC G k) (hl : ks.length ≤ 100000) (hs : (bdO oT ⟨5, s, 0, ks⟩).length ≤ 900000000) : BdC G ⟨5, s, 0, ks⟩ := by
  intro k hkk
  have e : bdO oT ⟨5, s, 0, ks⟩ = [63] ++ (s ++ listO oT (ks.map (prtO oT))) := rfl
  rw [e] at hs ⊢
  have hL := text1_ch ks hk hl (by simp at hs; omega)
  have hj := joined3 (G := G) [63] s (listO oT (ks.map (prtO oT))) hs
  have hlt : ¬ (levN ((⟨5, s, 0, ks⟩ : Pr) : Pr).op < k) := by omega
  refine CH.of_VK Tryz.func27 rfl Tryz.ntmps27 rfl (by simp) ?_
  simp
  refine callK.mk ent_predtext_level (predtext_level_gen _ _ _ _) ?_
  simp [hlt]
  refine callK.mk (hkl := frmR_keyless _) ent_predtext_forms (predtext_forms_cs _) ?_
  simp [frm, frmR]
  refine ⟨lexOk.mk (by kernel_rfl), ?_⟩
  try simp
  refine callHK.ro ent_text1 hL [(100000, 100000), (100001, 100001)] (by simp) (by simp) (by simp) (by simp) (by simp) ?_
  simp [rg3]
  refine callK.mk ent_predtext_joined hj ?_
  simp
theorem bd_not {a : Pr} (ha : TxC G a) (hs : (bdO oT ⟨14, [], 0, [a]⟩).length ≤ 900000000) : BdC G ⟨14, [], 0, [a]⟩ := by
  intro k hkk
  have e : bdO oT ⟨14, [], 0, [a]⟩ = [33] ++ prtO oT a 5 := rfl
  rw [e] at hs ⊢
  have hA := ha 5 (by omega)
  have hj := joined2 (G := G) [33] (prtO oT a 5) hs
  have hlt : ¬ (levN ((⟨14, [], 0, [a]⟩ : Pr) : Pr).op < k) := by omega
  refine CH.of_VK Tryz.func27 rfl Tryz.ntmps27 rfl (by simp) ?_
  simp
  refine callK.mk ent_predtext_level (predtext_level_gen _ _ _ _) ?_
  simp [hlt]
  refine callK.mk (hkl := frmR_keyless _) ent_predtext_forms (predtext_forms_cs _) ?_
  simp [frm, frmR]
  refine ⟨lexOk.mk (by kernel_rfl), ?_⟩
  try simp
  refine callHK.ro ent_text2 hA [(100000, 100000), (100001, 100001)] (by simp) (by simp) (by simp) (by simp) (by simp) ?_
  simp [rg2]
  refine callK.mk ent_predtext_joined hj ?_
  simp
theorem bd_neg {a : Pr} (ha : TxC G a) (hs : (bdO oT ⟨9, [], 0, [a]⟩).length ≤ 900000000) : BdC G ⟨9, [], 0, [a]⟩ := by
  intro k hkk
  have e : bdO oT ⟨9, [], 0, [a]⟩ = [45] ++ prtO oT a 9 := rfl
  rw [e] at hs ⊢
  have hA := ha 9 (by omega)
  have hj := joined2 (G := G) [45] (prtO oT a 9) hs
  have hlt : ¬ (levN ((⟨9, [], 0, [a]⟩ : Pr) : Pr).op < k) := by omega
  refine CH.of_VK Tryz.func27 rfl Tryz.ntmps27 rfl (by simp) ?_
  simp
  refine callK.mk ent_predtext_level (predtext_level_gen _ _ _ _) ?_
  simp [hlt]
  refine callK.mk (hkl := frmR_keyless _) ent_predtext_forms (predtext_forms_cs _) ?_
  simp [frm, frmR]
  refine ⟨lexOk.mk (by kernel_rfl), ?_⟩
  try simp
  refine callHK.ro ent_text2 hA [(100000, 100000), (100001, 100001)] (by simp) (by simp) (by simp) (by simp) (by simp) ?_
  simp [rg2]
  refine callK.mk ent_predtext_joined hj ?_
  simp
theorem bd_two {op : Int} {lv l r : Nat} {s : List UInt8} {a b : Pr} (hf : frN op = some (lv, l, r, s)) (ha : TxC G a) (hb : TxC G b) (hs : (bdO oT ⟨op, [], 0, [a, b]⟩).length ≤ 900000000) : BdC G ⟨op, [], 0, [a, b]⟩ := by
  intro k hkk
  have e : bdO oT ⟨op, [], 0, [a, b]⟩ = prtO oT a l ++ ([32] ++ (s ++ ([32] ++ prtO oT b r))) := bdO_two oT hf rfl
  have hl9 : l ≤ 10 ∧ r ≤ 10 := by
    rcases frN_cases hf with ⟨rfl, hq⟩ | ⟨rfl, hq⟩ | ⟨rfl, hq⟩ | ⟨rfl, hq⟩ | ⟨rfl, hq⟩ | ⟨rfl, hq⟩ | ⟨rfl, hq⟩ | ⟨rfl, hq⟩ | ⟨rfl, hq⟩ | ⟨rfl, hq⟩ | ⟨rfl, hq⟩ <;> cases hq <;> decide
  rw [e] at hs ⊢
  have hA := ha l hl9.1
  have hB := hb r hl9.2
  have hj := joined5 (G := G) (prtO oT a l) [32] s [32] (prtO oT b r) hs
  have hlt : ¬ (levN op < k) := by
    have : k ≤ levN op := hkk
    omega
  have hfm : frm op = some ((lv : Int), (l : Int), (r : Int), s) := by rw [frm_frN, hf]; rfl
  have hfc := predtext_forms_cs (G := G) op
  rw [hfm, frmR] at hfc
  refine CH.of_VK Tryz.func27 rfl Tryz.ntmps27 rfl (by simp) ?_
  simp
  refine callK.mk ent_predtext_level (predtext_level_gen _ _ _ _) ?_
  simp [hlt]
  refine callK.mk ent_predtext_forms hfc ?_
  simp
  refine ⟨lexOk.mk (by kernel_rfl), ?_⟩
  try simp
  refine callHK.ro ent_text2 hA [(100000, 100000), (100001, 100001)] (by simp) (by simp) (by simp) (by simp) (by simp) ?_
  simp
  refine callHK.ro ent_text2 hB [(100000, 100000), (100001, 100001)] (by simp) (by simp) (by simp) (by simp) (by simp) ?_
  simp [rg5]
  refine callK.mk ent_predtext_joined hj ?_
  simp
theorem len_le_nod : ∀ l : List Pr, l.length ≤ nodPs l
  | [] => by simp
  | p :: l => by
    have h1 := len_le_nod l
    have h2 : 1 ≤ nodP p := by obtain ⟨op, nm, n, ks⟩ := p; simp only [nodP]; omega
    simp only [List.length_cons, nodPs]
    omega
theorem nod_mem {k : Pr} : ∀ {l : List Pr}, k ∈ l → nodP k ≤ nodPs l
  | x :: l, h => by
    simp only [nodPs]
    rcases List.mem_cons.1 h with rfl | h
    · omega
    · have := nod_mem h
      omega
theorem text2_all (hP : G 2 = some powCells) {p : Pr} (h : WfP nmP p) : nodP p ≤ 100000 → TxC G p := by
  have hb : ∀ {q : Pr}, WfP nmP q → nodP q ≤ 100000 → (bdO oT q).length ≤ 800000000 := fun hq hn => by
    have := bd_len (fun s hs => (nm_ok hs).2.2) hq
    omega
  induction h with
  | int n h1 h2 => exact fun hn => txC_of (bd_int hP h1 h2) (hb (.int n h1 h2) hn)
  | boo n h => exact fun hn => txC_of (bd_boo h) (hb (.boo n h) hn)
  | var s h => exact fun hn => txC_of bd_var (hb (.var s h) hn)
  | app s ks h h1 h2 ih =>
    intro hn
    have hw : WfP nmP ⟨4, s, 0, ks⟩ := .app s ks h h1 h2
    have hl := len_le_nod ks
    have hB := hb hw hn
    simp only [nodP] at hn
    exact txC_of (bd_app (fun k hk => ih k hk (by have := nod_mem hk; omega)) (by omega) (by omega)) hB
  | hole s ks h h1 h2 ih =>
    intro hn
    have hw : WfP nmP ⟨5, s, 0, ks⟩ := .hole s ks h h1 h2
    have hl := len_le_nod ks
    have hB := hb hw hn
    simp only [nodP] at hn
    exact txC_of (bd_hole (fun k hk => ih k hk (by have := nod_mem hk; omega)) (by omega) (by omega)) hB
  | neg a h ih =>
    intro hn
    have hB := hb (.neg a h) hn
    simp only [nodP, nodPs] at hn
    exact txC_of (bd_neg (ih (by omega)) (by omega)) hB
  | not a h ih =>
    intro hn
    have hB := hb (.not a h) hn
    simp only [nodP, nodPs] at hn
    exact txC_of (bd_not (ih (by omega)) (by omega)) hB
  | two op lv l r s a b hf ha hb' iha ihb =>
    intro hn
    have hB := hb (.two op lv l r s a b hf ha hb') hn
    simp only [nodP, nodPs] at hn
    exact txC_of (bd_two hf (iha (by omega)) (ihb (by omega)) (by omega)) hB
/-- What Text answers. -/
def txtR (p : Pr) : DV := if chkE p = 0 then .tup [.str (bdO oT p), .int .i64 0] else .tup [.str [], .int .i64 (chkE p)]
theorem ent_predtext_Text : VM.Enters Tryz.prog 11 := VM.Enters.mk Tryz.func11 rfl
theorem predtext_Text_cs (hG : G 3 = some kwCells) (hP : G 2 = some powCells) (p : Pr) (hN : nodP p ≤ 1000000) : CS Tryz.prog G 11 [.agg (prD p)] (txtR p) none := by
  have hck := pred_Check_cs hG p hN
  unfold txtR
  refine CS.of_VK Tryz.func11 rfl Tryz.ntmps11 rfl ?_
  simp
  refine callK.mk ent_pred_Check hck ?_
  by_cases h0 : chkE p = 0
  · have hT := text2_all hP (wf_chk h0) (by have := (chk_zero h0).1; omega) 1 (by omega)
    rw [prtO_lo _ (levN_le _).1] at hT
    simp [h0]
    refine callHK.ro ent_text2 hT [(100000, 5), (100001, 6)] (by simp) (by simp) (by simp) (by simp) (by simp) ?_
    simp
  · simp [h0]
end Go.Proofs.YtlglfkdjlbcpjaaGreatDoor
end
