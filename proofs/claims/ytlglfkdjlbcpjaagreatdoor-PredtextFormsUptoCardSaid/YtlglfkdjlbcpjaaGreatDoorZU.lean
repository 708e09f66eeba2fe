/- Joined texts. The reference's reader of predicates: signs, words, operations; the walks. The reference's reader of predicates: names, arguments, a sign in front; the walks. The reference's reader of predicates: the last level; the walk. No condition. -/
import Derived.Test.YtlglfkdjlbcpjaaGreatDoorZT
import Derived.Test.YtlglfkdjlbcpjaaGreatDoorZS
section
set_option linter.unusedVariables false
set_option linter.unusedSimpArgs false
set_option linter.unusedSectionVars false
namespace Go.Proofs.YtlglfkdjlbcpjaaGreatDoor
open Go Go.VM
set_option maxRecDepth 100000
set_option maxHeartbeats 8000000
variable {G : GT}
abbrev tkD (l : List Tok) : D := .sl (l.map tokE)
theorem ent_r8_is : VM.Enters Tryz.prog 69 := VM.Enters.mk Tryz.func69 rfl
theorem r8_is_cs (l : List Tok) (i : Nat) (s : List UInt8) (hl : l.length ≤ 900000000) : CS Tryz.prog G 69 [tkD l, .int .i64 i, .str s] (.d (.bool (sgB l i s))) none := by
  refine CS.of_VK Tryz.func69 rfl Tryz.ntmps69 rfl ?_
  by_cases hlt : i < l.length
  · rw [sgB_at hlt]
    obtain ⟨t, ht⟩ : ∃ t, l[i] = t := ⟨_, rfl⟩
    rw [ht]
    simp [hlt, ht, tokE]
    by_cases h1 : t.kind = 4
    · by_cases h2 : t.text = s <;> simp [h1, h2, hlt, ht, tokE]
    · simp [h1, hlt, ht, tokE]
  · rw [sgB_no hlt]
    simp [hlt]
theorem ent_r8_word : VM.Enters Tryz.prog 129 := VM.Enters.mk Tryz.func129 rfl
theorem r8_word_cs (l : List Tok) (i : Nat) (hl : l.length ≤ 900000000) : CS Tryz.prog G 129 [tkD l, .int .i64 i] (.d (.bool (wtB l i))) none := by
  refine CS.of_VK Tryz.func129 rfl Tryz.ntmps129 rfl ?_
  by_cases hlt : i < l.length
  · rw [wtB_at hlt]
    obtain ⟨t, ht⟩ : ∃ t, l[i] = t := ⟨_, rfl⟩
    rw [ht]
    simp [hlt, ht, tokE]
    by_cases h1 : t.kind = 1
    · simp [h1, hlt, ht, tokE]
    · by_cases h2 : t.kind = 2 <;> simp [h1, h2, hlt, ht, tokE]
  · rw [wtB_no hlt]
    simp [hlt]
/-- The operation of the sign at a place at a level, and whether its kids are exchanged. -/
def opX (l : List Tok) (n k : Nat) : Option (Int × Bool) := if k = 6 then cmpAt l n else if k = 2 then (if sgB l n [61, 62] = true then some (17, false) else none) else (opAt l n k).map fun o => (o, false)
def opXR : Option (Int × Bool) → DV
  | some (o, e) => .tup [.int .i64 o, .bool e, .bool true]
  | none => .tup [.int .i64 0, .bool false, .bool false]
theorem opXR_keyless (o) : keyless (opXR o) = true := by
  cases o with
  | none => rfl
  | some q => obtain ⟨a, b⟩ := q; rfl
theorem opX_no {l : List Tok} {n k : Nat} (h : ∀ s, sgB l n s = false) : opX l n k = none := by
  unfold opX cmpAt opAt
  simp only [h]
  split
  · rfl
  split
  · simp
  · simp
theorem SW_condF {P : Program} {c : Operand} {x y : Code} {st : St} {Q : Exit → St → Prop} (hc : st.eval G c = .d (.bool false)) (h : SW P G y st Q) : SW P G (.cond c x y) st Q := fun base R μ a w hr =>
  wp_cond (t := false) (hr.evalBool hc) (h base R μ a w hr)
/-- The frame ahead of a row. -/
def opSt (t : Tok) (k v : Nat) : St := ⟨List.set (([.undef, .undef, .d (.int .i64 k), .undef, .undef, .undef, .d (.int .i64 0), .d (.bool false), .d (.bool false), .d (.str t.text)] : List DV) ++ List.replicate 108 .undef) v (.d (.bool false)), [], []⟩
theorem ent_r8_operator : VM.Enters Tryz.prog 71 := VM.Enters.mk Tryz.func71 rfl
theorem r8_operator_cs (l : List Tok) (n k : Nat) (hk : 1 ≤ k ∧ k ≤ 10) (hl : l.length ≤ 900000000) : CS Tryz.prog G 71 [tkD l, .int .i64 n, .int .i64 k] (opXR (opX l n k)) none := by
  obtain ⟨o, ho⟩ : ∃ o, opX l n k = o := ⟨_, rfl⟩
  rw [ho]
  refine CS.of_SWK Tryz.func71 rfl Tryz.ntmps71 rfl ?_
  refine SW.seqq (SW.vk ?_)
  simp
  by_cases hlt : n < l.length
  rotate_left
  · rw [opX_no fun s => sgB_no hlt s] at ho
    subst ho
    have hge : l.length ≤ n := Nat.le_of_not_lt hlt
    refine SW.seqq (SW.vk ?_)
    simp [hge, opXR]
  have hge : ¬ l.length ≤ n := by omega
  obtain ⟨t, ht⟩ : ∃ t, l[n] = t := ⟨_, rfl⟩
  by_cases h4 : t.kind = 4
  rotate_left
  · rw [opX_no fun s => by rw [sgB_at hlt, ht]; simp [h4]] at ho
    subst ho
    refine SW.seqq (SW.vk ?_)
    simp [hge, hlt, ht, tokE]
    simp [h4, opXR]
  have hs : ∀ s, sgB l n s = decide (t.text = s) := fun s => by rw [sgB_at hlt, ht]; simp [h4]
  unfold opX cmpAt opAt at ho
  simp only [hs] at ho
  refine SW_cut ⟨[.d (tkD l), .d (.int .i64 n), .d (.int .i64 k), .undef, .undef, .undef, .d (.int .i64 0), .d (.bool false), .d (.bool false)] ++ List.replicate 109 .undef, [], []⟩ (SW.vk ?_) ?_
  · simp [hge, hlt, ht, tokE]
    simp [h4, List.replicate]
  refine SW.seqq (SW.vk ?_)
  simp [hlt, ht, tokE, List.replicate]
  refine SW.seqq (SW.blockq ?_)
  by_cases q0 : k = 1 ∧ t.text = [60, 61, 62]
  · obtain ⟨rfl, e⟩ := q0
    simp [opL, cmpL, e] at ho
    subst ho
    refine SW.vk ?_
    simp [e, opXR, opSt, List.replicate]
  refine SW_cut (opSt t k 27) (SW.vk ?_) (SW_condF rfl ?_)
  · by_cases c : k = 1
    · have e : ¬ t.text = [60, 61, 62] := fun e => q0 ⟨c, e⟩
      subst c
      simp [e, opSt, List.replicate]
    · have c' : ¬ (k : Int) = 1 := by omega
      simp [c', opSt, List.replicate]
  by_cases q1 : k = 2 ∧ t.text = [61, 62]
  · obtain ⟨rfl, e⟩ := q1
    simp [opL, cmpL, e] at ho
    subst ho
    refine SW.vk ?_
    simp [e, opXR, opSt, List.replicate]
  refine SW_cut (opSt t k 34) (SW.vk ?_) (SW_condF rfl ?_)
  · by_cases c : k = 2
    · have e : ¬ t.text = [61, 62] := fun e => q1 ⟨c, e⟩
      subst c
      simp [e, opSt, List.replicate]
    · have c' : ¬ (k : Int) = 2 := by omega
      simp [c', opSt, List.replicate]
  by_cases q2 : k = 3 ∧ t.text = [124, 124]
  · obtain ⟨rfl, e⟩ := q2
    simp [opL, cmpL, e] at ho
    subst ho
    refine SW.vk ?_
    simp [e, opXR, opSt, List.replicate]
  refine SW_cut (opSt t k 41) (SW.vk ?_) (SW_condF rfl ?_)
  · by_cases c : k = 3
    · have e : ¬ t.text = [124, 124] := fun e => q2 ⟨c, e⟩
      subst c
      simp [e, opSt, List.replicate]
    · have c' : ¬ (k : Int) = 3 := by omega
      simp [c', opSt, List.replicate]
  by_cases q3 : k = 4 ∧ t.text = [38, 38]
  · obtain ⟨rfl, e⟩ := q3
    simp [opL, cmpL, e] at ho
    subst ho
    refine SW.vk ?_
    simp [e, opXR, opSt, List.replicate]
  refine SW_cut (opSt t k 48) (SW.vk ?_) (SW_condF rfl ?_)
  · by_cases c : k = 4
    · have e : ¬ t.text = [38, 38] := fun e => q3 ⟨c, e⟩
      subst c
      simp [e, opSt, List.replicate]
    · have c' : ¬ (k : Int) = 4 := by omega
      simp [c', opSt, List.replicate]
  by_cases q4 : k = 6 ∧ t.text = [61]
  · obtain ⟨rfl, e⟩ := q4
    simp [opL, cmpL, e] at ho
    subst ho
    refine SW.vk ?_
    simp [e, opXR, opSt, List.replicate]
  refine SW_cut (opSt t k 55) (SW.vk ?_) (SW_condF rfl ?_)
  · by_cases c : k = 6
    · have e : ¬ t.text = [61] := fun e => q4 ⟨c, e⟩
      subst c
      simp [e, opSt, List.replicate]
    · have c' : ¬ (k : Int) = 6 := by omega
      simp [c', opSt, List.replicate]
  by_cases q5 : k = 6 ∧ t.text = [33, 61]
  · obtain ⟨rfl, e⟩ := q5
    simp [opL, cmpL, e] at ho
    subst ho
    refine SW.vk ?_
    simp [e, opXR, opSt, List.replicate]
  refine SW_cut (opSt t k 62) (SW.vk ?_) (SW_condF rfl ?_)
  · by_cases c : k = 6
    · have e : ¬ t.text = [33, 61] := fun e => q5 ⟨c, e⟩
      subst c
      simp [e, opSt, List.replicate]
    · have c' : ¬ (k : Int) = 6 := by omega
      simp [c', opSt, List.replicate]
  by_cases q6 : k = 6 ∧ t.text = [60]
  · obtain ⟨rfl, e⟩ := q6
    simp [opL, cmpL, e] at ho
    subst ho
    refine SW.vk ?_
    simp [e, opXR, opSt, List.replicate]
  refine SW_cut (opSt t k 69) (SW.vk ?_) (SW_condF rfl ?_)
  · by_cases c : k = 6
    · have e : ¬ t.text = [60] := fun e => q6 ⟨c, e⟩
      subst c
      simp [e, opSt, List.replicate]
    · have c' : ¬ (k : Int) = 6 := by omega
      simp [c', opSt, List.replicate]
  by_cases q7 : k = 6 ∧ t.text = [60, 61]
  · obtain ⟨rfl, e⟩ := q7
    simp [opL, cmpL, e] at ho
    subst ho
    refine SW.vk ?_
    simp [e, opXR, opSt, List.replicate]
  refine SW_cut (opSt t k 76) (SW.vk ?_) (SW_condF rfl ?_)
  · by_cases c : k = 6
    · have e : ¬ t.text = [60, 61] := fun e => q7 ⟨c, e⟩
      subst c
      simp [e, opSt, List.replicate]
    · have c' : ¬ (k : Int) = 6 := by omega
      simp [c', opSt, List.replicate]
  by_cases q8 : k = 6 ∧ t.text = [62]
  · obtain ⟨rfl, e⟩ := q8
    simp [opL, cmpL, e] at ho
    subst ho
    refine SW.vk ?_
    simp [e, opXR, opSt, List.replicate]
  refine SW_cut (opSt t k 83) (SW.vk ?_) (SW_condF rfl ?_)
  · by_cases c : k = 6
    · have e : ¬ t.text = [62] := fun e => q8 ⟨c, e⟩
      subst c
      simp [e, opSt, List.replicate]
    · have c' : ¬ (k : Int) = 6 := by omega
      simp [c', opSt, List.replicate]
  by_cases q9 : k = 6 ∧ t.text = [62, 61]
  · obtain ⟨rfl, e⟩ := q9
    simp [opL, cmpL, e] at ho
    subst ho
    refine SW.vk ?_
    simp [e, opXR, opSt, List.replicate]
  refine SW_cut (opSt t k 90) (SW.vk ?_) (SW_condF rfl ?_)
  · by_cases c : k = 6
    · have e : ¬ t.text = [62, 61] := fun e => q9 ⟨c, e⟩
      subst c
      simp [e, opSt, List.replicate]
    · have c' : ¬ (k : Int) = 6 := by omega
      simp [c', opSt, List.replicate]
  by_cases q10 : k = 7 ∧ t.text = [43]
  · obtain ⟨rfl, e⟩ := q10
    simp [opL, cmpL, e] at ho
    subst ho
    refine SW.vk ?_
    simp [e, opXR, opSt, List.replicate]
  refine SW_cut (opSt t k 97) (SW.vk ?_) (SW_condF rfl ?_)
  · by_cases c : k = 7
    · have e : ¬ t.text = [43] := fun e => q10 ⟨c, e⟩
      subst c
      simp [e, opSt, List.replicate]
    · have c' : ¬ (k : Int) = 7 := by omega
      simp [c', opSt, List.replicate]
  by_cases q11 : k = 7 ∧ t.text = [45]
  · obtain ⟨rfl, e⟩ := q11
    simp [opL, cmpL, e] at ho
    subst ho
    refine SW.vk ?_
    simp [e, opXR, opSt, List.replicate]
  refine SW_cut (opSt t k 104) (SW.vk ?_) (SW_condF rfl ?_)
  · by_cases c : k = 7
    · have e : ¬ t.text = [45] := fun e => q11 ⟨c, e⟩
      subst c
      simp [e, opSt, List.replicate]
    · have c' : ¬ (k : Int) = 7 := by omega
      simp [c', opSt, List.replicate]
  by_cases q12 : k = 8 ∧ t.text = [42]
  · obtain ⟨rfl, e⟩ := q12
    simp [opL, cmpL, e] at ho
    subst ho
    refine SW.vk ?_
    simp [e, opXR, opSt, List.replicate]
  refine SW_cut (opSt t k 111) (SW.vk ?_) (SW_condF rfl ?_)
  · by_cases c : k = 8
    · have e : ¬ t.text = [42] := fun e => q12 ⟨c, e⟩
      subst c
      simp [e, opSt, List.replicate]
    · have c' : ¬ (k : Int) = 8 := by omega
      simp [c', opSt, List.replicate]
  have hno : o = none := by
    rw [← ho]
    clear ho hs h4 ht hge hlt hl o
    obtain rfl | rfl | rfl | rfl | rfl | rfl | rfl | rfl | rfl | rfl : k = 1 ∨ k = 2 ∨ k = 3 ∨ k = 4 ∨ k = 5 ∨ k = 6 ∨ k = 7 ∨ k = 8 ∨ k = 9 ∨ k = 10 := by omega
    all_goals
      simp at q0 q1 q2 q3 q4 q5 q6 q7 q8 q9 q10 q11 q12
      simp [opL, cmpL, *]
  subst hno
  refine SW.vk ?_
  simp [opSt, List.replicate]
  refine SW.vk ?_
  simp [opXR]
end Go.Proofs.YtlglfkdjlbcpjaaGreatDoor
end

section
set_option linter.unusedVariables false
set_option linter.unusedSimpArgs false
set_option linter.unusedSectionVars false
namespace Go.Proofs.YtlglfkdjlbcpjaaGreatDoor
open Go Go.VM
set_option maxRecDepth 100000
set_option maxHeartbeats 8000000
variable {G : GT}
theorem SW_cutP {P : Program} {x y : Code} {st : St} {Q : Exit → St → Prop} (A : Prop) (st' : St) (h1 : SW P G x st fun e s => match e with
    | .normal => A ∧ Weak s st'
    | e => Q e s) (h2 : A → SW P G y st' Q) : SW P G (.seq x y) st Q := SW.seqq fun base R μ a w hr =>
  wp_mono (h1 base R μ a w hr) fun e a1 w1 ⟨s, R1, μ1, q1, q2, q3⟩ => by
    cases e with
    | normal => exact ⟨s, R1, μ1, fun base R μ a w hr => h2 q1.1 base R μ a w (hr.weak q1.2), q2, q3⟩
    | _ => exact ⟨s, R1, μ1, q1, q2, q3⟩
def nmxR : Option (List UInt8 × Nat) → Nat → DV
  | some (s, n), _ => .tup [.str s, .int .i64 n, .bool true]
  | none, j => .tup [.str [], .int .i64 j, .bool false]
theorem nmxR_keyless (o) (j) : keyless (nmxR o j) = true := by
  cases o with
  | none => rfl
  | some q => obtain ⟨a, b⟩ := q; rfl
def resX : Option (Pr × Nat) → Nat → DV
  | some (p, n), _ => .tup [.agg (prD p), .int .i64 n, .bool true]
  | none, j => .tup [.agg (prD ⟨0, [], 0, []⟩), .int .i64 j, .bool false]
theorem resX_keyless (o) (j) : keyless (resX o j) = true := by
  cases o with
  | none => rfl
  | some q => obtain ⟨a, b⟩ := q; rfl
def resXL : Option (List Pr × Nat) → Nat → DV
  | some (ks, n), _ => .tup [.sl (ks.map prC), .int .i64 n, .bool true]
  | none, j => .tup [.sl [], .int .i64 j, .bool false]
theorem resXL_keyless (o) (j) : keyless (resXL o j) = true := by
  cases o with
  | none => rfl
  | some q => obtain ⟨a, b⟩ := q; rfl
theorem ent_r8_name : VM.Enters Tryz.prog 104 := VM.Enters.mk Tryz.func104 rfl
theorem r8_name_cs (l : List Tok) (i : Nat) (hl : okTs l) (hi : i ≤ l.length) : CS Tryz.prog G 104 [tkD l, .int .i64 i] (nmxR (nameR kwB l i) i) none := by
  have hll := hl.1
  obtain ⟨o, ho⟩ : ∃ o, nameR kwB l i = o := ⟨_, rfl⟩
  rw [ho]
  unfold nameR at ho
  have hwd := r8_word_cs (G := G) l i (by omega)
  refine CS.of_SWK Tryz.func104 rfl Tryz.ntmps104 rfl ?_
  refine SW.seqq (SW.vk ?_)
  simp
  refine SW_cutP (nmOk kwB l i = true) ⟨[.d (tkD l), .d (.int .i64 i), .undef, .undef, .d (.str []), .d (.int .i64 0), .d (.bool false)] ++ List.replicate 133 .undef, [], []⟩ (SW.vk ?_) (fun hok => ?_)
  · simp
    refine callK.mk ent_r8_word hwd ?_
    cases hw : wtB l i with
    | false =>
      rw [if_neg (by simp [nmOk, hw])] at ho
      subst ho
      simp [nmxR]
    | true =>
      have hlt := wtB_lt hw
      obtain ⟨t, ht⟩ : ∃ t, l[i] = t := ⟨_, rfl⟩
      have hnm : nmOk kwB l i = (!kwB t.text || decide (t.text = [118]) || decide (t.text = [116, 97, 103]) || decide (t.text = [118, 97, 108])) := by
        unfold nmOk
        rw [hw, txA_at hlt, ht, Bool.true_and]
      rw [hnm] at ho ⊢
      simp [hlt, ht, tokE]
      refine callK.mk ent_r4_Keyword (r4_Keyword_cs t.text) ?_
      by_cases q1 : kwB t.text = true
      · by_cases q2 : t.text = [118]
        · rw [q2] at q1
          simp [q1, q2, hlt, ht, tokE, List.replicate]
        · by_cases q3 : t.text = [116, 97, 103]
          · rw [q3] at q1
            simp [q1, q3, hlt, ht, tokE, List.replicate]
          · by_cases q4 : t.text = [118, 97, 108]
            · rw [q4] at q1
              simp [q1, q4, hlt, ht, tokE, List.replicate]
            · rw [if_neg (by simp [q1, q2, q3, q4])] at ho
              subst ho
              simp [q1, q2, q3, q4, hlt, ht, tokE, nmxR]
      · simp [q1, hlt, ht, tokE, List.replicate]
  · rw [if_pos hok] at ho
    have hlt : i < l.length := by
      unfold nmOk at hok
      rw [Bool.and_eq_true] at hok
      exact wtB_lt hok.1
    rw [txA_at hlt] at ho
    obtain ⟨t, ht⟩ : ∃ t, l[i] = t := ⟨_, rfl⟩
    rw [ht] at ho
    obtain ⟨rs, rn, hrr⟩ : ∃ rs rn, partsN l l.length (i + 1) t.text = (rs, rn) := ⟨_, _, rfl⟩
    rw [hrr] at ho
    subst ho
    have hw1 := wrap64s (show i < 9223372036854775807 by omega)
    refine SW.vk ?_
    simp [hw1, hlt, ht, tokE, List.replicate]
    refine SW.loopF (ι := { p : Nat × List UInt8 // p.1 ≤ l.length ∧ p.2.length ≤ txS (l.take p.1) ∧ ∃ f, l.length ≤ f + p.1 ∧ partsN l f p.1 p.2 = (rs, rn) }) (fun p => [(1, .d (.int .i64 p.1.1)), (7, .d (.str p.1.2))]) (fun _ => []) (fun _ => []) (fun p => l.length - p.1.1) ⟨(i + 1, t.text), hlt, by have := txS_take hlt; rw [ht] at this; simp only; omega, l.length, by omega, hrr⟩ (by simp) ?_
    rintro ⟨⟨j, s⟩, hj, hs, f, hf, hp⟩
    simp only at hj hs hf hp
    have hsg := r8_is_cs (G := G) l j [46] (by omega)
    have hj1 := wrap64s (show j < 9223372036854775807 by omega)
    have hj2 : IntKind.i64.wrap ((j : Int) + 2) = ((j + 2 : Nat) : Int) := by rw [wrap64 (by omega)]; simp
    have hj3 : IntKind.i64.wrap ((j : Int) + 3) = ((j + 3 : Nat) : Int) := by rw [wrap64 (by omega)]; simp
    have hw1 := r8_word_cs (G := G) l (j + 1) (by omega)
    have hw2 := r8_word_cs (G := G) l (j + 2) (by omega)
    simp
    refine callK.mk ent_r8_is hsg ?_
    cases hd : sgB l j [46] with
    | false =>
      rw [parts_stop hd] at hp
      cases hp
      simp [nmxR]
    | true =>
      have hjl := sgB_lt hd
      obtain ⟨f, rfl⟩ : ∃ g, f = g + 1 := ⟨f - 1, by omega⟩
      rw [partsN, if_pos hd] at hp
      simp [hj1]
      refine callK.mk ent_r8_word hw1 ?_
      cases hwt : wtB l (j + 1) with
      | true =>
        have hlt1 := wtB_lt hwt
        rw [if_pos hwt] at hp
        obtain ⟨u, hu⟩ : ∃ u, l[j + 1] = u := ⟨_, rfl⟩
        have hgr := parts_grow hs hlt1
        rw [txA_at hlt1, hu] at hp
        rw [hu] at hgr
        have hb := hl.le hgr
        simp at hb
        simp [hj1, hlt1, hu, tokE]
        repeat (refine stepK_len (by first | omega | (simp; omega)) ?_; simp [hj1, hj2, hlt1, hu, tokE])
        exact Again.mk ⟨(j + 2, s ++ ([46] ++ u.text)), hlt1, hgr, f, by omega, by simpa using hp⟩ (by simp [hj2]) (by simp; omega)
      | false =>
        rw [if_neg (by simp [hwt])] at hp
        simp [hj1]
        by_cases hlt1 : j + 1 < l.length
        rotate_left
        · rw [if_neg (by rw [kdB_no hlt1]; simp)] at hp
          have hlt1' : ¬ (j : Int) + 1 < (l.length : Int) := by omega
          cases hp
          simp [hj1, hlt1, hlt1', nmxR]
        obtain ⟨u, hu⟩ : ∃ u, l[j + 1] = u := ⟨_, rfl⟩
        have hgr := parts_grow hs hlt1
        rw [kdB_at hlt1, txA_at hlt1, hu] at hp
        rw [hu] at hgr
        have hb := hl.le hgr
        simp at hb
        simp [hj1, hlt1, hu, tokE]
        by_cases k3 : u.kind = 3
        rotate_left
        · simp [k3] at hp
          obtain ⟨rfl, rfl⟩ := hp
          simp [k3, hj1, hlt1, hu, tokE, nmxR]
        simp [k3] at hp
        simp [k3, hj1, hj2, hlt1, hu, tokE]
        refine callK.mk ent_r8_word hw2 ?_
        cases hwt2 : wtB l (j + 2) with
        | false =>
          rw [if_neg (by simp [hwt2])] at hp
          simp [k3, hj1, hj2, hlt1, hu, tokE]
          repeat (refine stepK_len (by first | omega | (simp; omega)) ?_; simp [hj1, hj2, hlt1, hu, tokE])
          exact Again.mk ⟨(j + 2, s ++ ([46] ++ u.text)), hlt1, hgr, f, by omega, by simpa using hp⟩ (by simp [hj2]) (by simp; omega)
        | true =>
          rw [if_pos hwt2] at hp
          have hlt2 := wtB_lt hwt2
          obtain ⟨v, hv⟩ : ∃ v, l[j + 2] = v := ⟨_, rfl⟩
          have hgr3 := parts_grow3 hgr hlt2
          rw [hv] at hgr3
          rw [txA_at hlt2, hv] at hp
          have hb3 := hl.le hgr3
          simp at hb3
          have hlt2' : (j : Int) + 2 < (l.length : Int) := by omega
          have hnn : (0 : Int) ≤ (j : Int) + 2 := by omega
          have htn : ((j : Int) + 2).toNat = j + 2 := by omega
          try simp
          refine ⟨lexOk.mk (by kernel_rfl), ?_⟩
          try simp [hj1, hj2, hj3, hlt1, hlt2, hu, hv, tokE, hlt2', hnn, htn]
          repeat (refine stepK_len (by first | omega | (simp; omega)) ?_; simp [hj1, hj2, hj3, hlt1, hlt2, hu, hv, tokE, hlt2', hnn, htn])
          exact Again.mk ⟨(j + 3, s ++ ([46] ++ u.text) ++ v.text), hlt2, hgr3, f, by omega, by simpa using hp⟩ (by simp [hj3]) (by simp; omega)
/-! ### Arguments -/
/-- The contract of the reference's reading in f steps. -/
def RdC (G : GT) (l : List Tok) (f : Nat) : Prop := ∀ i k, 1 ≤ k → k ≤ 10 → i ≤ l.length → mu l.length i k ≤ f → CS Tryz.prog G 42 [tkD l, .int .i64 i, .int .i64 k] (resX (atF kwB l f i k) i) none
section
variable {l : List Tok} {f : Nat}
theorem ent_r8_read : VM.Enters Tryz.prog 42 := VM.Enters.mk Tryz.func42 rfl
theorem ent_r8_arguments : VM.Enters Tryz.prog 105 := VM.Enters.mk Tryz.func105 rfl
theorem r8_arguments_cs (hl : okTs l) (hA : RdC G l f) (n : Nat) (hf : (l.length - n) * 12 + 10 ≤ f) : ∃ j, CS Tryz.prog G 105 [tkD l, .int .i64 n] (resXL (listG (atF kwB l f) l n) j) none := by
  have hll := hl.1
  obtain ⟨o, ho⟩ : ∃ o, listG (atF kwB l f) l n = o := ⟨_, rfl⟩
  rw [ho]
  unfold listG at ho
  have hsg := r8_is_cs (G := G) l n [40] (by omega)
  cases hd : sgB l n [40] with
  | false =>
    rw [if_neg (by simp [hd])] at ho
    subst ho
    refine ⟨n, ?_⟩
    rw [hd] at hsg
    refine CS.of_VK Tryz.func105 rfl Tryz.ntmps105 rfl ?_
    simp
    refine callK.mk ent_r8_is hsg ?_
    simp [resXL]
  | true =>
    have hnl := sgB_lt hd
    rw [if_pos hd] at ho
    rw [hd] at hsg
    obtain ⟨jj, hjj⟩ : ∃ jj : Nat → Nat → List Pr → Nat, ∀ g i acc, jj (g + 1) i acc = (match atF kwB l f (i + 1) 1 with
      | none => i
      | some (p, m) => if sgB l m [41] = true then i else if sgB l m [44] = true then jj g m (acc ++ [p]) else i) :=
      ⟨fun g => Nat.rec (motive := fun _ => Nat → List Pr → Nat) (fun _ _ => 0) (fun g ih i acc => match atF kwB l f (i + 1) 1 with
      | none => i
      | some (p, m) => if sgB l m [41] = true then i else if sgB l m [44] = true then ih m (acc ++ [p]) else i) g, fun g i acc => rfl⟩
    obtain ⟨z, hz⟩ : ∃ z, jj l.length n [] = z := ⟨_, rfl⟩
    refine ⟨z, ?_⟩
    refine CS.of_VK Tryz.func105 rfl Tryz.ntmps105 rfl ?_
    simp
    refine callK.mk ent_r8_is hsg ?_
    simp
    refine SW.loopF (ι := { p : Nat × List Pr // p.1 < l.length ∧ (l.length - p.1) * 12 + 10 ≤ f ∧ p.2.length ≤ p.1 ∧ ∃ g, l.length ≤ g + p.1 ∧ argsG (atF kwB l f) l g p.1 p.2 = o ∧ jj g p.1 p.2 = z }) (fun p => [(1, .d (.int .i64 p.1.1)), (7, .d (.sl (p.1.2.map prC)))]) (fun _ => []) (fun _ => [(25, [.t 7])]) (fun p => l.length - p.1.1) ⟨(n, []), hnl, hf, by simp, l.length, by omega, ho, hz⟩ (by simp) ?_
    rintro ⟨⟨i, acc⟩, hi, hf, hal, g, hg, hR, hz⟩
    simp only at hi hf hal hg hR hz
    have hi1 := wrap64s (show i < 9223372036854775807 by omega)
    obtain ⟨g, rfl⟩ : ∃ h, g = h + 1 := ⟨g - 1, by omega⟩
    rw [argsG] at hR
    rw [hjj] at hz
    have hat := hA (i + 1) 1 (by omega) (by omega) hi (by rw [mu_one hi]; exact hf)
    simp [hi1]
    refine callK.mk (hkl := resX_keyless _ _) ent_r8_read hat ?_
    cases hr : atF kwB l f (i + 1) 1 with
    | none =>
      rw [hr] at hR hz
      simp only at hR hz
      subst hR hz
      simp [resX, resXL]
    | some q =>
      obtain ⟨p, m⟩ := q
      have hadv := atF_adv kwB l f _ _ _ _ hr
      rw [hr] at hR hz
      simp only at hR hz
      have hm1 := wrap64s (show m < 9223372036854775807 by omega)
      have hs1 := r8_is_cs (G := G) l m [41] (by omega)
      have hs2 := r8_is_cs (G := G) l m [44] (by omega)
      have hfour := prC_four acc
      have hap : acc.map prC ++ [prD p] = (acc ++ [p]).map prC := by simp [prC_eq]
      simp [resX, rg1]
      have hsz : (acc.length + 1) * 57 ≤ 140737488355328 := by omega
      simp [hsz]
      refine callK.mk ent_r8_is hs1 ?_
      cases hd1 : sgB l m [41] with
      | true =>
        rw [if_pos hd1] at hR
        subst hR
        simp [hm1, resXL, prC_eq]
      | false =>
        rw [if_neg (by simp [hd1])] at hR hz
        simp
        refine callK.mk ent_r8_is hs2 ?_
        cases hd2 : sgB l m [44] with
        | false =>
          rw [if_neg (by simp [hd2])] at hR hz
          subst hR hz
          simp [resXL]
        | true =>
          rw [if_pos hd2] at hR hz
          have hml := sgB_lt hd2
          have hmu : (l.length - m) * 12 + 10 ≤ f := by omega
          have hac : (acc ++ [p]).length ≤ m := by simp; omega
          simp
          exact Again.mk ⟨(m, acc ++ [p]), hml, hmu, hac, g, by omega, hR, hz⟩ (by simp [prC_eq]) (by simp; omega)
/-! ### A sign in front -/
theorem ent_r8_front : VM.Enters Tryz.prog 70 := VM.Enters.mk Tryz.func70 rfl
theorem r8_front_cs (hl : okTs l) (hA : RdC G l f) (i k : Nat) (op : Int) (hk : 1 ≤ k ∧ k ≤ 10) (hi : i + 1 ≤ l.length) (hf : mu l.length (i + 1) k ≤ f) : CS Tryz.prog G 70 [tkD l, .int .i64 i, .int .i64 k, .int .i64 op] (resX ((atF kwB l f (i + 1) k).map fun q => ((⟨op, [], 0, [q.1]⟩ : Pr), q.2)) i) none := by
  have hll := hl.1
  have hi1 := wrap64s (show i < 9223372036854775807 by omega)
  have hat := hA (i + 1) k hk.1 hk.2 hi hf
  refine CS.of_VK Tryz.func70 rfl Tryz.ntmps70 rfl ?_
  simp [hi1]
  refine callK.mk (hkl := resX_keyless _ _) ent_r8_read hat ?_
  cases atF kwB l f (i + 1) k with
  | none => simp [resX]
  | some q =>
    obtain ⟨p, n⟩ := q
    simp [resX, rg1, prC_eq]
end
end Go.Proofs.YtlglfkdjlbcpjaaGreatDoor
end

section
set_option linter.unusedVariables false
set_option linter.unusedSimpArgs false
set_option linter.unusedSectionVars false
namespace Go.Proofs.YtlglfkdjlbcpjaaGreatDoor
open Go Go.VM
set_option maxRecDepth 100000
set_option maxHeartbeats 8000000
variable {G : GT}
/-- The frame ahead of a row. -/
def aSt (l : List Tok) (i : Nat) (t : Tok) (v : Nat) : St := ⟨List.set (([.d (tkD l), .d (.int .i64 i), .undef, .undef, .ptr 4 0, .d (.int .i64 0), .d (.bool false), .ptr 7 0] : List DV) ++ List.replicate 182 .undef) v (.d (.bool false)), [(4, .cells [.d (.int .i64 0), .d (.str []), .d (.int .i64 0), .d .nils]), (7, .cells [.d (.int .i64 t.kind), .d (.str t.text), .d (.int .i64 t.n), .d (.int .i64 t.line)])], []⟩
theorem ent_r8_atom : VM.Enters Tryz.prog 68 := VM.Enters.mk Tryz.func68 rfl
section
variable {l : List Tok} {f : Nat}
theorem r8_atom_cs (hl : okTs l) (hA : RdC G l f) (i : Nat) (hi : i ≤ l.length) (hf : mu l.length i 10 ≤ f + 1) : CS Tryz.prog G 68 [tkD l, .int .i64 i] (resX (primG kwB (atF kwB l f) l i) i) none := by
  have hll := hl.1
  obtain ⟨o, ho⟩ : ∃ o, primG kwB (atF kwB l f) l i = o := ⟨_, rfl⟩
  rw [ho]
  unfold primG at ho
  refine CS.of_SWK Tryz.func68 rfl Tryz.ntmps68 rfl ?_
  refine SW.seqq (SW.vk ?_)
  simp
  refine SW.seqq (SW.vk ?_)
  simp
  by_cases hlt : i < l.length
  rotate_left
  · rw [List.getElem?_eq_none (by omega)] at ho
    subst ho
    have hge : l.length ≤ i := Nat.le_of_not_lt hlt
    simp [hge, resX]
  have hge : ¬ l.length ≤ i := by omega
  rw [List.getElem?_eq_getElem hlt] at ho
  obtain ⟨t, ht⟩ : ∃ t, l[i] = t := ⟨_, rfl⟩
  rw [ht] at ho
  simp only at ho
  have hi1 := wrap64s (show i < 9223372036854775807 by omega)
  have hi2 : IntKind.i64.wrap ((i : Int) + 2) = ((i + 2 : Nat) : Int) := by rw [wrap64 (by omega)]; simp
  have hi3 : IntKind.i64.wrap ((i : Int) + 3) = ((i + 3 : Nat) : Int) := by rw [wrap64 (by omega)]; simp
  have hi4 : IntKind.i64.wrap ((i : Int) + 4) = ((i + 4 : Nat) : Int) := by rw [wrap64 (by omega)]; simp
  simp [hge]
  refine SW.seqq (SW.vk ?_)
  simp [hlt, ht, tokE]
  refine SW_cutP (namedG (atF kwB l f) l i = o) (aSt l i t 133) (SW.blockq ?_) (fun ho => ?_)
  · by_cases k3 : t.kind = 3
    · rw [if_pos k3] at ho
      subst ho
      refine SW.vk ?_
      simp [k3, hi1, resX]
    rw [if_neg k3] at ho
    refine SW_cut (aSt l i t 33) (SW.vk ?_) (SW_condF rfl ?_)
    · simp [k3, aSt, List.replicate]
    by_cases kt : t.kind = 1 ∧ t.text = [116, 114, 117, 101]
    · rw [if_pos kt] at ho
      subst ho
      refine SW.vk ?_
      simp [kt.1, kt.2, hi1, resX, aSt, List.replicate]
    rw [if_neg kt] at ho
    refine SW_cut (aSt l i t 42) (SW.vk ?_) (SW_condF rfl ?_)
    · by_cases k1 : t.kind = 1
      · have e : ¬ t.text = [116, 114, 117, 101] := fun e => kt ⟨k1, e⟩
        simp [k1, e, aSt, List.replicate]
      · simp [k1, aSt, List.replicate]
    by_cases kf : t.kind = 1 ∧ t.text = [102, 97, 108, 115, 101]
    · rw [if_pos kf] at ho
      subst ho
      refine SW.vk ?_
      simp [kf.1, kf.2, hi1, resX, aSt, List.replicate]
    rw [if_neg kf] at ho
    refine SW_cut (aSt l i t 54) (SW.vk ?_) (SW_condF rfl ?_)
    · by_cases k1 : t.kind = 1
      · have e : ¬ t.text = [102, 97, 108, 115, 101] := fun e => kf ⟨k1, e⟩
        simp [k1, e, aSt, List.replicate]
      · simp [k1, aSt, List.replicate]
    have hsq := r8_is_cs (G := G) l i [63] (by omega)
    have hsp := r8_is_cs (G := G) l i [40] (by omega)
    have hsm := r8_is_cs (G := G) l (i + 1) [45] (by omega)
    have hsc := r8_is_cs (G := G) l (i + 3) [41] (by omega)
    cases hp : sgB l i [40] with
    | false =>
      rw [hp] at hsp
      refine SW_cut (aSt l i t 66) (SW.vk ?_) (SW_condF rfl ?_)
      · simp [aSt, List.replicate]
        refine callK.mk ent_r8_is hsp ?_
        simp
      refine SW_cut (aSt l i t 108) (SW.vk ?_) (SW_condF rfl ?_)
      · simp [aSt, List.replicate]
        refine callK.mk ent_r8_is hsp ?_
        simp
      cases hq : sgB l i [63] with
      | false =>
        rw [hq] at hsq
        refine SW_cut (aSt l i t 133) (SW.vk ?_) (SW_condF rfl ?_)
        · simp [aSt, List.replicate]
          refine callK.mk ent_r8_is hsq ?_
          simp
        have hP : namedG (atF kwB l f) l i = o := by
          rw [if_neg (by simp [hq]), if_neg (by simp [hp])] at ho
          exact ho
        refine SW.vk ?_
        simp [aSt, List.replicate, hP]
      | true =>
        rw [if_pos hq] at ho
        rw [hq] at hsq
        have hnm := r8_name_cs (G := G) l (i + 1) hl hlt
        refine SW.vk ?_
        simp [aSt, List.replicate]
        refine callK.mk ent_r8_is hsq ?_
        simp [hi1]
        refine callK.mk (hkl := nmxR_keyless _ _) ent_r8_name hnm ?_
        cases hn : nameR kwB l (i + 1) with
        | none =>
          rw [hn] at ho
          subst ho
          simp [nmxR, resX]
        | some q =>
          obtain ⟨s, n⟩ := q
          have hadv := name_adv hn
          rw [hn] at ho
          simp only at ho
          obtain ⟨j, hli⟩ := r8_arguments_cs (G := G) hl hA n (prim_room hf (by omega) hadv.2)
          simp [nmxR]
          refine callK.mk (hkl := resXL_keyless _ _) ent_r8_arguments hli ?_
          cases hL : listG (atF kwB l f) l n with
          | none =>
            rw [hL] at ho
            subst ho
            simp [resXL, resX]
          | some z =>
            obtain ⟨ks, m⟩ := z
            rw [hL] at ho
            subst ho
            simp [resXL, resX]
    | true =>
      have hq : sgB l i [63] = false := by
        rw [sgB_at hlt, ht] at hp ⊢
        simp only [Bool.and_eq_true, decide_eq_true_eq] at hp
        simp [hp.2]
      rw [if_neg (by simp [hq]), if_pos hp] at ho
      rw [hp] at hsp
      by_cases hneg : sgB l (i + 1) [45] = true ∧ kdB l (i + 2) 3 = true ∧ sgB l (i + 3) [41] = true
      · rw [if_pos hneg] at ho
        subst ho
        obtain ⟨n1, n2, n3⟩ := hneg
        have h2 := kdB_lt n2
        rw [kdB_at h2] at n2
        rw [nmA_at h2]
        obtain ⟨u, hu⟩ : ∃ u, l[i + 2] = u := ⟨_, rfl⟩
        rw [hu] at n2 ⊢
        have ku : u.kind = 3 := of_decide_eq_true n2
        rw [n1] at hsm
        rw [n3] at hsc
        have h2' : (i : Int) + 2 < (l.length : Int) := by omega
        have hnn : (0 : Int) ≤ (i : Int) + 2 := by omega
        have htn : ((i : Int) + 2).toNat = i + 2 := by omega
        refine SW.vk ?_
        simp [aSt, List.replicate]
        refine callK.mk ent_r8_is hsp ?_
        simp [hi1]
        refine callK.mk ent_r8_is hsm ?_
        simp [hi2, h2, h2', hnn, htn, hu, ku, tokE, hi3]
        refine callK.mk ent_r8_is hsc ?_
        simp [hi2, h2, h2', hnn, htn, hu, ku, tokE, hi4, resX]
      · rw [if_neg hneg] at ho
        have hat := hA (i + 1) 1 (by omega) (by omega) hlt (by
          have := mu_next (L := l.length) (i := i) (i' := i + 1) (k := 10) (k' := 1) (by omega) hlt (by omega) (by omega)
          omega)
        refine SW_cut (aSt l i t 66) (SW.vk ?_) (SW_condF rfl ?_)
        · simp [aSt, List.replicate]
          refine callK.mk ent_r8_is hsp ?_
          simp [hi1]
          refine callK.mk ent_r8_is hsm ?_
          cases n1 : sgB l (i + 1) [45] with
          | false => simp
          | true =>
            have hnn : (0 : Int) ≤ (i : Int) + 2 := by omega
            have htn : ((i : Int) + 2).toNat = i + 2 := by omega
            by_cases h2 : i + 2 < l.length
            rotate_left
            · have h2' : ¬ (i : Int) + 2 < (l.length : Int) := by omega
              simp [hi2, h2']
            have h2' : (i : Int) + 2 < (l.length : Int) := by omega
            obtain ⟨u, hu⟩ : ∃ u, l[i + 2] = u := ⟨_, rfl⟩
            by_cases ku : u.kind = 3
            rotate_left
            · simp [hi2, h2, h2', hnn, htn, hu, ku, tokE]
            have n3 : sgB l (i + 3) [41] = false := by
              cases n3 : sgB l (i + 3) [41] with
              | false => rfl
              | true => exact absurd ⟨n1, by rw [kdB_at h2, hu]; simp [ku], n3⟩ hneg
            rw [n3] at hsc
            simp [hi2, h2, h2', hnn, htn, hu, ku, tokE, hi3]
            refine callK.mk ent_r8_is hsc ?_
            simp
        refine SW.vk ?_
        simp [aSt, List.replicate]
        refine callK.mk ent_r8_is hsp ?_
        simp [hi1]
        refine callK.mk (hkl := resX_keyless _ _) ent_r8_read hat ?_
        cases hr : atF kwB l f (i + 1) 1 with
        | none =>
          rw [hr] at ho
          subst ho
          simp [resX]
        | some q =>
          obtain ⟨p, n⟩ := q
          have hadv := atF_adv kwB l f _ _ _ _ hr
          have hcs := r8_is_cs (G := G) l n [41] (by omega)
          rw [hr] at ho
          simp only at ho
          simp [resX]
          refine callK.mk ent_r8_is hcs ?_
          cases hc : sgB l n [41] with
          | false =>
            rw [if_neg (by simp [hc])] at ho
            subst ho
            simp [resX]
          | true =>
            rw [if_pos hc] at ho
            subst ho
            have hn1 := wrap64s (show n < 9223372036854775807 by omega)
            simp [hn1, resX]
  · clear ht hi2 hi3 hi4
    unfold namedG at ho
    have hnm := r8_name_cs (G := G) l i hl hi
    refine SW.vk ?_
    simp [aSt, List.replicate]
    refine callK.mk (hkl := nmxR_keyless _ _) ent_r8_name hnm ?_
    cases hn : nameR kwB l i with
    | none =>
      rw [hn] at ho
      subst ho
      simp [nmxR, resX]
    | some q =>
      obtain ⟨s, n⟩ := q
      have hadv := name_adv hn
      rw [hn] at ho
      simp only at ho
      obtain ⟨j, hli⟩ := r8_arguments_cs (G := G) hl hA n (prim_room hf hadv.1 hadv.2)
      simp [nmxR]
      refine callK.mk (hkl := resXL_keyless _ _) ent_r8_arguments hli ?_
      cases hL : listG (atF kwB l f) l n with
      | none =>
        rw [hL] at ho
        subst ho
        simp [resXL, resX]
      | some z =>
        obtain ⟨ks, m⟩ := z
        rw [hL] at ho
        subst ho
        simp [resXL, resX]
end
end Go.Proofs.YtlglfkdjlbcpjaaGreatDoor
end
