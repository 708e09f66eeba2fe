/- Joined texts. The texts of types: the walks. The texts of types in the reference, and the names of specialized definitions: the walks. The statement TypesTexts. No condition. -/
import Derived.Test.YtbljhkgdeojliaaDoorZA
import Derived.Test.YtbljhkgdeojliaaDoorZ7
import Derived.Test.YtbljhkgdeojliaaDoorZD
section
set_option linter.unusedVariables false
set_option linter.unusedSimpArgs false
set_option linter.unusedSectionVars false
namespace Go.Proofs.YtbljhkgdeojliaaDoor
open Go Go.VM
set_option maxRecDepth 100000
set_option maxHeartbeats 8000000
variable {G : GT}
mutual
/-- A bound for texts. -/
def wT : Ty → Nat
  | ⟨_, nm, l, _, _, _⟩ => nm.length + 30 + wTs l
def wTs : List Ty → Nat
  | [] => 0
  | t :: r => wT t + wTs r
end
theorem wT_eq (t : Ty) : wT t = t.name.length + 30 + wTs t.args := by cases t; rfl
theorem wTs_app : ∀ a b : List Ty, wTs (a ++ b) = wTs a + wTs b
  | [], b => by simp [wTs]
  | t :: a, b => by
    simp only [List.cons_append, wTs, wTs_app a b]
    omega
theorem wTs_mem {l : List Ty} {i : Nat} (h : i < l.length) : wT l[i] ≤ wTs l := by
  have e : l = l.take i ++ l[i] :: l.drop (i + 1) := by rw [← List.drop_eq_getElem_cons h, List.take_append_drop]
  have : wTs l = wTs (l.take i) + (wT l[i] + wTs (l.drop (i + 1))) := by
    conv => lhs; rw [e]
    rw [wTs_app]
    rfl
  omega
theorem len_le_wTs : ∀ l : List Ty, l.length ≤ wTs l
  | [] => by simp
  | t :: r => by
    have h1 := wT_eq t
    have h2 := len_le_wTs r
    simp only [wTs, List.length_cons]
    omega
mutual
theorem textT_len : ∀ t : Ty, (textT t).length + 5 ≤ wT t
  | ⟨op, nm, l, ns, p, ps⟩ => by
    have h1 := textAs_len l
    have h2 := textFs_len true l
    simp only [textT, wT]
    split
    · simp; omega
    · split
      · simp; omega
      · split
        · simp; omega
        · split
          · omega
          · split
            · simp; omega
            · split
              · split
                · simp; omega
                · simp; omega
              · simp; omega
theorem textAs_len : ∀ l : List Ty, (textAs l).length ≤ wTs l
  | [] => by simp [textAs]
  | t :: r => by
    have h1 := textT_len t
    have h2 := textAs_len r
    simp only [textAs, wTs]
    split <;> simp <;> omega
theorem textFs_len : ∀ (b : Bool) (l : List Ty), (textFs b l).length ≤ wTs l
  | b, [] => by simp [textFs]
  | b, t :: r => by
    have h1 := textT_len t
    have h2 := textFs_len false r
    simp only [textFs, wTs]
    split
    · simp; omega
    · split <;> simp <;> omega
end
/-- The text of an argument. -/
def argT (t : Ty) : Nm := if decide (t.op = 6) || !t.args.isEmpty then 40 :: (textT t ++ [41]) else textT t
theorem argT_len (t : Ty) : (argT t).length ≤ (textT t).length + 2 := by
  unfold argT
  split <;> simp
theorem textAs_drop {l : List Ty} {i : Nat} (h : i < l.length) : textAs (l.drop i) = (32 :: argT l[i]) ++ textAs (l.drop (i + 1)) := by
  rw [List.drop_eq_getElem_cons h]
  simp only [textAs, argT]
  split <;> rfl
theorem textFs_drop {l : List Ty} {i : Nat} (h : i < l.length) : textFs (decide (i = 0)) (l.drop i) = (if i + 1 = l.length then [41, 32, 45, 62, 32] else if i = 0 then [] else [44, 32]) ++ (textT l[i] ++ textFs false (l.drop (i + 1))) := by
  rw [List.drop_eq_getElem_cons h]
  simp only [textFs, decide_eq_true_eq]
  by_cases he : i + 1 = l.length
  · have : (l.drop (i + 1)).isEmpty = true := by simp [List.isEmpty_iff]; omega
    simp [he, this]
  · have : (l.drop (i + 1)).isEmpty = false := by
      cases hq : l.drop (i + 1) with
      | nil => have := List.drop_eq_nil_iff.1 hq; omega
      | cons a b => rfl
    simp [he, this]
theorem ent_types_Text : VM.Enters Tryd.prog 42 := VM.Enters.mk Tryd.func42 rfl
theorem ent_types_argument : VM.Enters Tryd.prog 78 := VM.Enters.mk Tryd.func78 rfl
theorem types_argument_cs (t : Ty) (h : CS Tryd.prog G 42 [.agg (tyD t)] (.d (.str (textT t))) none) (hN : wT t ≤ 1000000000000) : CS Tryd.prog G 78 [.agg (tyD t)] (.d (.str (argT t))) none := by
  have hl := textT_len t
  obtain ⟨op, nm, l, ns, p, ps⟩ := t
  refine CS.of_VK Tryd.func78 rfl Tryd.ntmps78 rfl ?_
  by_cases h6 : op = 6
  · subst h6
    simp
    refine callK.mk ent_types_Text h ?_
    simp
    repeat (refine stepK_len (by first | omega | (simp; omega)) ?_; simp)
    simp [argT]
  · by_cases h0 : 0 < l.length
    · have he : l.isEmpty = false := by cases l <;> simp at h0 ⊢
      simp [h6, h0]
      refine callK.mk ent_types_Text h ?_
      simp
      repeat (refine stepK_len (by first | omega | (simp; omega)) ?_; simp)
      simp [argT, h6, he]
    · have he : l.isEmpty = true := by cases l <;> simp at h0 ⊢
      simp [h6, h0]
      refine callK.mk ent_types_Text h ?_
      simp [argT, h6, he]
theorem types_Text_cs : ∀ t : Ty, wT t ≤ 1000000000 → CS Tryd.prog G 42 [.agg (tyD t)] (.d (.str (textT t))) none := by
  refine Ty.ind fun t ih => ?_
  obtain ⟨op, nm, l, ns, p, ps⟩ := t
  intro hN
  simp only at ih
  have hn := wT_eq ⟨op, nm, l, ns, p, ps⟩
  have hq := textT_eq ⟨op, nm, l, ns, p, ps⟩
  have htl := textT_len ⟨op, nm, l, ns, p, ps⟩
  simp only at hn hq
  have hl := len_le_wTs l
  refine CS.of_VK Tryd.func42 rfl Tryd.ntmps42 rfl ?_
  by_cases h1 : op = 1
  · simp [h1] at hq
    simp [h1, hq]
  by_cases h2 : op = 2
  · simp [h2] at hq
    simp [h2, hq]
  by_cases h3 : op = 3
  · simp [h3] at hq
    simp [h3, hq]
  by_cases h5 : op = 5
  · simp [h5] at hq
    simp [h5, hq]
  by_cases h4 : op = 4
  · subst h4
    simp at hq
    have htl' : (nm ++ textAs l).length ≤ 1000000000 := by rw [← hq]; omega
    simp
    refine SW.loopF (ι := { x : Nat × Nm // x.1 ≤ l.length ∧ x.2 ++ textAs (l.drop x.1) = nm ++ textAs l }) (fun x => [(3, .d (.str x.1.2)), (28, .d (.int .i64 x.1.1))]) (fun _ => [(1, tyO 4 nm (.sl (l.map tyC)) (.sl (strs ns)) p (.sl (ps.map prC)))]) (fun _ => []) (fun x => l.length - x.1.1) ⟨(0, nm), by simp⟩ (by simp) ?_
    rintro ⟨⟨i, acc⟩, hi, hR⟩
    simp only at hi hR
    have hal : acc.length ≤ 1000000000 := by rw [← hR] at htl'; simp at htl'; omega
    by_cases hlt : i < l.length
    · have hg := tys_get hlt
      have hw := wrap64s (show i < 9223372036854775807 by omega)
      have hb2 := wTs_mem hlt
      have hb3 := textT_len l[i]
      have hb4 := argT_len l[i]
      rw [textAs_drop hlt] at hR
      simp [hlt, hg]
      refine callK.mk ent_types_argument (types_argument_cs l[i] (ih l[i] (List.getElem_mem hlt) (by omega)) (by omega)) ?_
      simp
      repeat (refine stepK_len (by first | omega | (simp; omega)) ?_; simp)
      exact Again.mk ⟨(i + 1, acc ++ 32 :: argT l[i]), hlt, by rw [← hR]; simp⟩ (by simp [hw]) (by simp; omega)
    · have : i = l.length := by omega
      subst this
      simp [textAs] at hR
      simp [hq, hR]
  by_cases h6 : op = 6
  · subst h6
    by_cases h0 : l.length = 0
    · have : l = [] := List.length_eq_zero_iff.1 h0
      subst this
      simp at hq
      simp [hq]
    · have he : l.isEmpty = false := by cases l <;> simp at h0 ⊢
      simp [he] at hq
      have htl' : (40 :: textFs true l).length ≤ 1000000000 := by rw [← hq]; omega
      simp [h0]
      have hw1 : IntKind.i64.wrap ((l.length : Int) - 1) = (l.length : Int) - 1 := wrap64 (by omega)
      refine SW.loopF (ι := { x : Nat × Nm // x.1 ≤ l.length ∧ x.2 ++ textFs (decide (x.1 = 0)) (l.drop x.1) = 40 :: textFs true l }) (fun x => [(6, .d (.str x.1.2)), (48, .d (.int .i64 x.1.1))]) (fun _ => [(1, tyO 6 nm (.sl (l.map tyC)) (.sl (strs ns)) p (.sl (ps.map prC)))]) (fun _ => []) (fun x => l.length - x.1.1) ⟨(0, [40]), by simp⟩ (by simp) ?_
      rintro ⟨⟨i, acc⟩, hi, hR⟩
      simp only at hi hR
      have hal : acc.length ≤ 1000000000 := by rw [← hR] at htl'; simp at htl'; omega
      by_cases hlt : i < l.length
      · have hg := tys_get hlt
        have hw := wrap64s (show i < 9223372036854775807 by omega)
        have hb2 := wTs_mem hlt
        have hb3 := textT_len l[i]
        rw [textFs_drop hlt] at hR
        by_cases he : i + 1 = l.length
        · have he' : ((i : Int) = (l.length : Int) - 1) = True := eq_true (by omega)
          rw [if_pos he] at hR
          simp [hlt, hg, hw1, he']
          repeat (refine stepK_len (by first | omega | (simp; omega)) ?_; simp)
          refine callK.mk ent_types_Text (ih l[i] (List.getElem_mem hlt) (by omega)) ?_
          simp
          repeat (refine stepK_len (by first | omega | (simp; omega)) ?_; simp)
          exact Again.mk ⟨(i + 1, acc ++ ([41, 32, 45, 62, 32] ++ textT l[i])), hlt, by rw [← hR]; simp⟩ (by simp [hw]) (by simp; omega)
        · have he' : ¬ (i : Int) = (l.length : Int) - 1 := by omega
          rw [if_neg he] at hR
          by_cases hi0 : i = 0
          · subst hi0
            have he2 : ¬ (0 : Int) = (l.length : Int) - 1 := by omega
            simp [hlt, hg, hw1, he2]
            simp at hg
            refine callK.mk ent_types_Text (ih l[0] (List.getElem_mem hlt) (by omega)) ?_
            simp
            repeat (refine stepK_len (by first | omega | (simp; omega)) ?_; simp)
            exact Again.mk ⟨(0 + 1, acc ++ textT l[0]), hlt, by rw [← hR]; simp⟩ (by simp [show IntKind.i64.wrap 1 = 1 from rfl]) (by simp; omega)
          · have hi1 : 0 < i := by omega
            rw [if_neg hi0] at hR
            simp [hlt, hg, hw1, he', hi1]
            repeat (refine stepK_len (by first | omega | (simp; omega)) ?_; simp)
            refine callK.mk ent_types_Text (ih l[i] (List.getElem_mem hlt) (by omega)) ?_
            simp
            repeat (refine stepK_len (by first | omega | (simp; omega)) ?_; simp)
            exact Again.mk ⟨(i + 1, acc ++ ([44, 32] ++ textT l[i])), hlt, by rw [← hR]; simp⟩ (by simp [hw]) (by simp; omega)
      · have : i = l.length := by omega
        subst this
        simp [textFs] at hR
        simp [hq, hR]
  · simp [h1, h2, h3, h4, h5, h6] at hq
    simp [h1, h2, h3, h4, h5, h6, hq]
end Go.Proofs.YtbljhkgdeojliaaDoor
end

section
set_option linter.unusedVariables false
set_option linter.unusedSimpArgs false
set_option linter.unusedSectionVars false
namespace Go.Proofs.YtbljhkgdeojliaaDoor
open Go Go.VM
set_option maxRecDepth 100000
set_option maxHeartbeats 8000000
variable {G : GT}
/-- A type without arguments as text. -/
def baseT (op : Int) (nm : Nm) : Nm := if op = 1 then [73, 110, 116] else if op = 2 then [66, 111, 111, 108] else if op = 3 then [67, 101, 108, 108] else if op = 4 ∨ op = 5 then nm else [63]
theorem ent_r19_base : VM.Enters Tryd.prog 79 := VM.Enters.mk Tryd.func79 rfl
theorem r19_base_cs (t : Ty) : CS Tryd.prog G 79 [.agg (tyD t)] (.d (.str (baseT t.op t.name))) none := by
  refine CS.of_VK Tryd.func79 rfl Tryd.ntmps79 rfl ?_
  by_cases h1 : t.op = 1
  · simp [baseT, h1]
  by_cases h2 : t.op = 2
  · simp [baseT, h2]
  by_cases h3 : t.op = 3
  · simp [baseT, h3]
  by_cases h4 : t.op = 4
  · simp [baseT, h4]
  by_cases h5 : t.op = 5
  · simp [baseT, h5]
  simp [baseT, h1, h2, h3, h4, h5]
theorem baseT_len (op : Int) (nm : Nm) : (baseT op nm).length ≤ nm.length + 4 := by
  unfold baseT
  split
  · simp
  · split
    · simp
    · split
      · simp
      · split <;> simp
theorem textT_base {t : Ty} (h4 : t.op ≠ 4) (h6 : t.op = 6 → t.args = []) : textT t = baseT t.op t.name := by
  rw [textT_eq]
  unfold baseT
  by_cases h1 : t.op = 1
  · simp [h1]
  by_cases h2 : t.op = 2
  · simp [h2]
  by_cases h3 : t.op = 3
  · simp [h3]
  by_cases h5 : t.op = 5
  · simp [h5]
  by_cases e6 : t.op = 6
  · simp [e6, h6 e6]
  simp [h1, h2, h3, h4, h5, e6]
theorem base_four {nm : Nm} : baseT 4 nm = nm := rfl
theorem ent_r19_Text : VM.Enters Tryd.prog 43 := VM.Enters.mk Tryd.func43 rfl
theorem r19_Text_cs : ∀ t : Ty, wT t ≤ 1000000000 → CS Tryd.prog G 43 [.agg (tyD t)] (.d (.str (textT t))) none := by
  refine Ty.ind fun t ih => ?_
  obtain ⟨op, nm, l, ns, p, ps⟩ := t
  intro hN
  simp only at ih
  have hn := wT_eq ⟨op, nm, l, ns, p, ps⟩
  have hq := textT_eq ⟨op, nm, l, ns, p, ps⟩
  have htl := textT_len ⟨op, nm, l, ns, p, ps⟩
  have hba := @textT_base ⟨op, nm, l, ns, p, ps⟩
  simp only at hn hq hba
  have hl := len_le_wTs l
  refine CS.of_VK Tryd.func43 rfl Tryd.ntmps43 rfl ?_
  by_cases h6 : op = 6
  · subst h6
    by_cases h0 : 0 < l.length
    · have he : l.isEmpty = false := by cases l <;> simp at h0 ⊢
      simp [he] at hq
      have htl' : (40 :: textFs true l).length ≤ 1000000000 := by rw [← hq]; omega
      have hw1 : IntKind.i64.wrap ((l.length : Int) - 1) = ((l.length - 1 : Nat) : Int) := by rw [wrap64 (by omega)]; omega
      have hk1 : l.length - 1 ≤ l.length := by omega
      simp [h0, hw1, hk1]
      refine SW.loopF (ι := { x : Nat × Nm // x.1 ≤ l.length - 1 ∧ x.2 ++ textFs (decide (x.1 = 0)) (l.drop x.1) = 40 :: textFs true l }) (fun x => [(3, .d (.str x.1.2)), (26, .d (.int .i64 x.1.1))]) (fun _ => [(1, tyO 6 nm (.sl (l.map tyC)) (.sl (strs ns)) p (.sl (ps.map prC)))]) (fun _ => []) (fun x => l.length - x.1.1) ⟨(0, [40]), by simp⟩ (by simp) ?_
      rintro ⟨⟨i, acc⟩, hi, hR⟩
      simp only at hi hR
      have hal : acc.length ≤ 1000000000 := by rw [← hR] at htl'; simp at htl'; omega
      by_cases hlt' : i < l.length - 1
      · have hlt : i < l.length := by omega
        have hg : (List.take (l.length - 1) (l.map tyC))[i]? = some (tyD l[i]) := by rw [List.getElem?_take_of_lt hlt', tys_get hlt]
        have hw := wrap64s (show i < 9223372036854775807 by omega)
        have hb2 := wTs_mem hlt
        have hb3 := textT_len l[i]
        rw [textFs_drop hlt, if_neg (by omega)] at hR
        by_cases hi0 : i = 0
        · subst hi0
          simp [hlt', hg]
          refine callK.mk ent_r19_Text (ih l[0] (List.getElem_mem hlt) (by omega)) ?_
          simp
          repeat (refine stepK_len (by first | omega | (simp; omega)) ?_; simp)
          exact Again.mk ⟨(0 + 1, acc ++ textT l[0]), by omega, by rw [← hR]; simp⟩ (by simp [show IntKind.i64.wrap 1 = 1 from rfl]) (by simp; omega)
        · have hi1 : 0 < i := by omega
          rw [if_neg hi0] at hR
          simp [hlt', hg, hi1]
          repeat (refine stepK_len (by first | omega | (simp; omega)) ?_; simp)
          refine callK.mk ent_r19_Text (ih l[i] (List.getElem_mem hlt) (by omega)) ?_
          simp
          repeat (refine stepK_len (by first | omega | (simp; omega)) ?_; simp)
          exact Again.mk ⟨(i + 1, acc ++ ([44, 32] ++ textT l[i])), by omega, by rw [← hR]; simp⟩ (by simp [hw]) (by simp; omega)
      · have : i = l.length - 1 := by omega
        subst this
        have hlt : l.length - 1 < l.length := by omega
        have hg := tys_get hlt
        have hb2 := wTs_mem hlt
        have hb3 := textT_len l[l.length - 1]
        rw [textFs_drop hlt, if_pos (by omega)] at hR
        have hd : l.drop (l.length - 1 + 1) = [] := List.drop_eq_nil_iff.2 (by omega)
        rw [hd] at hR
        simp only [textFs, List.append_nil] at hR
        simp [hw1, hg]
        repeat (refine stepK_len (by first | omega | (simp; omega)) ?_; simp [hw1, hg, hlt])
        refine callK.mk ent_r19_Text (ih l[l.length - 1] (List.getElem_mem hlt) (by omega)) ?_
        simp
        repeat (refine stepK_len (by first | omega | (simp; omega)) ?_; simp)
        simp [hq, ← hR]
    · have h0' : l = [] := List.length_eq_zero_iff.1 (by omega)
      have hb := hba (by decide) (fun _ => h0')
      simp [h0]
      refine callK.mk ent_r19_base (r19_base_cs ⟨6, nm, l, ns, p, ps⟩) ?_
      simp [hb]
  by_cases h4 : op = 4
  · subst h4
    simp at hq
    have htl' : (nm ++ textAs l).length ≤ 1000000000 := by rw [← hq]; omega
    simp
    refine callK.mk ent_r19_base (r19_base_cs ⟨4, nm, l, ns, p, ps⟩) ?_
    simp [base_four]
    refine SW.loopF (ι := { x : Nat × Nm // x.1 ≤ l.length ∧ x.2 ++ textAs (l.drop x.1) = nm ++ textAs l }) (fun x => [(6, .d (.str x.1.2)), (61, .d (.int .i64 x.1.1))]) (fun _ => [(1, tyO 4 nm (.sl (l.map tyC)) (.sl (strs ns)) p (.sl (ps.map prC)))]) (fun _ => []) (fun x => l.length - x.1.1) ⟨(0, nm), by simp⟩ (by simp) ?_
    rintro ⟨⟨i, acc⟩, hi, hR⟩
    simp only at hi hR
    have hal : acc.length ≤ 1000000000 := by rw [← hR] at htl'; simp at htl'; omega
    by_cases hlt : i < l.length
    · have hg := tys_get hlt
      have hw := wrap64s (show i < 9223372036854775807 by omega)
      have hb2 := wTs_mem hlt
      have hb3 := textT_len l[i]
      rw [textAs_drop hlt] at hR
      by_cases g6 : l[i].op = 6
      · have ha : argT l[i] = 40 :: (textT l[i] ++ [41]) := by simp [argT, g6]
        rw [ha] at hR
        simp [hlt, hg, g6]
        refine callK.mk ent_r19_Text (CS.args (ih l[i] (List.getElem_mem hlt) (by omega)) (by simp [g6])) ?_
        simp
        repeat (refine stepK_len (by first | omega | (simp; omega)) ?_; simp)
        exact Again.mk ⟨(i + 1, acc ++ 32 :: 40 :: (textT l[i] ++ [41])), hlt, by rw [← hR]; simp⟩ (by simp [hw]) (by simp; omega)
      · by_cases g0 : 0 < l[i].args.length
        · have ge : l[i].args.isEmpty = false := by cases hq : l[i].args <;> simp [hq] at g0 ⊢
          have ha : argT l[i] = 40 :: (textT l[i] ++ [41]) := by simp [argT, ge]
          rw [ha] at hR
          simp [hlt, hg, g6, g0]
          refine callK.mk ent_r19_Text (ih l[i] (List.getElem_mem hlt) (by omega)) ?_
          simp
          repeat (refine stepK_len (by first | omega | (simp; omega)) ?_; simp)
          exact Again.mk ⟨(i + 1, acc ++ 32 :: 40 :: (textT l[i] ++ [41])), hlt, by rw [← hR]; simp⟩ (by simp [hw]) (by simp; omega)
        · have ge : l[i].args.isEmpty = true := by cases hq : l[i].args <;> simp [hq] at g0 ⊢
          have ha : argT l[i] = textT l[i] := by simp [argT, ge, g6]
          rw [ha] at hR
          simp [hlt, hg, g6, g0]
          refine callK.mk ent_r19_Text (ih l[i] (List.getElem_mem hlt) (by omega)) ?_
          simp
          repeat (refine stepK_len (by first | omega | (simp; omega)) ?_; simp)
          exact Again.mk ⟨(i + 1, acc ++ 32 :: textT l[i]), hlt, by rw [← hR]; simp⟩ (by simp [hw]) (by simp; omega)
    · have : i = l.length := by omega
      subst this
      simp [textAs] at hR
      simp [hq, hR]
  have hb := hba h4 (fun e => absurd e h6)
  simp [h6]
  refine callK.mk ent_r19_base (r19_base_cs ⟨op, nm, l, ns, p, ps⟩) ?_
  simp [h4, hb]
/-! ### Mangle -/
mutual
/-- A type as a part of a name. -/
def mangT : Ty → Nm
  | ⟨op, nm, l, _, _, _⟩ => if op = 4 then nm ++ mangTs l else if op = 6 then [70, 117, 110, 46] ++ (Lib.itoa ((l.length - 1 : Nat) : Int) ++ mangTs l) else baseT op nm
def mangTs : List Ty → Nm
  | [] => []
  | t :: r => (46 :: mangT t) ++ mangTs r
end
theorem mangT_eq (t : Ty) : mangT t = if t.op = 4 then t.name ++ mangTs t.args else if t.op = 6 then [70, 117, 110, 46] ++ (Lib.itoa ((t.args.length - 1 : Nat) : Int) ++ mangTs t.args) else baseT t.op t.name := by cases t; rw [mangT]
theorem mangTs_drop {l : List Ty} {i : Nat} (h : i < l.length) : mangTs (l.drop i) = (46 :: mangT l[i]) ++ mangTs (l.drop (i + 1)) := by
  rw [List.drop_eq_getElem_cons h]
  rfl
mutual
theorem mangT_len : ∀ t : Ty, wT t ≤ 1000000000 → (mangT t).length + 1 ≤ wT t
  | ⟨op, nm, l, ns, p, ps⟩, hN => by
    have h0 := len_le_wTs l
    simp only [wT] at hN
    have h1 := mangTs_len l (by omega)
    have h2 := baseT_len op nm
    have h3 := Lib.itoa_length_le ((l.length - 1 : Nat) : Int) (by omega) (by omega)
    simp only [mangT, wT]
    split
    · simp; omega
    · split
      · simp; omega
      · omega
theorem mangTs_len : ∀ l : List Ty, wTs l ≤ 1000000000 → (mangTs l).length ≤ wTs l
  | [], _ => by simp [mangTs]
  | t :: r, hN => by
    simp only [wTs] at hN
    have h1 := mangT_len t (by omega)
    have h2 := mangTs_len r (by omega)
    simp only [mangTs, wTs]
    simp
    omega
end
theorem ent_types_Mangle : VM.Enters Tryd.prog 44 := VM.Enters.mk Tryd.func44 rfl
theorem types_Mangle_cs (hP : G 1 = some powCells) : ∀ t : Ty, wT t ≤ 1000000000 → CS Tryd.prog G 44 [.agg (tyD t)] (.d (.str (mangT t))) none := by
  refine Ty.ind fun t ih => ?_
  obtain ⟨op, nm, l, ns, p, ps⟩ := t
  intro hN
  simp only at ih
  have hn := wT_eq ⟨op, nm, l, ns, p, ps⟩
  have hq := mangT_eq ⟨op, nm, l, ns, p, ps⟩
  have htl := mangT_len ⟨op, nm, l, ns, p, ps⟩ hN
  simp only at hn hq
  have hl := len_le_wTs l
  refine CS.of_VK Tryd.func44 rfl Tryd.ntmps44 rfl ?_
  by_cases h1 : op = 1
  · simp [h1] at hq
    simp [h1, hq, baseT]
  by_cases h2 : op = 2
  · simp [h2] at hq
    simp [h2, hq, baseT]
  by_cases h3 : op = 3
  · simp [h3] at hq
    simp [h3, hq, baseT]
  by_cases h5 : op = 5
  · simp [h5] at hq
    simp [h5, hq, baseT]
  by_cases h4 : op = 4
  · subst h4
    simp at hq
    simp
    refine SW.loopF (ι := { x : Nat × Nm // x.1 ≤ l.length ∧ x.2 ++ mangTs (l.drop x.1) = mangT ⟨4, nm, l, ns, p, ps⟩ }) (fun x => [(3, .d (.str x.1.2)), (35, .d (.int .i64 x.1.1))]) (fun _ => [(1, tyO 4 nm (.sl (l.map tyC)) (.sl (strs ns)) p (.sl (ps.map prC)))]) (fun _ => []) (fun x => l.length - x.1.1) ⟨(0, nm), by simp [hq]⟩ (by simp) ?_
    rintro ⟨⟨i, acc⟩, hi, hR⟩
    simp only at hi hR
    have hal : acc.length ≤ 1000000000 := by rw [← hR] at htl; simp at htl; omega
    by_cases hlt : i < l.length
    · have hg := tys_get hlt
      have hw := wrap64s (show i < 9223372036854775807 by omega)
      have hb2 := wTs_mem hlt
      have hb3 := mangT_len l[i] (by omega)
      rw [mangTs_drop hlt] at hR
      simp [hlt, hg]
      refine callK.mk ent_types_Mangle (ih l[i] (List.getElem_mem hlt) (by omega)) ?_
      simp
      repeat (refine stepK_len (by first | omega | (simp; omega)) ?_; simp)
      exact Again.mk ⟨(i + 1, acc ++ 46 :: mangT l[i]), hlt, by rw [← hR]; simp⟩ (by simp [hw]) (by simp; omega)
    · have : i = l.length := by omega
      subst this
      simp [mangTs] at hR
      simp [hR]
  by_cases h6 : op = 6
  · subst h6
    simp at hq
    have hw1 : IntKind.i64.wrap ((l.length : Int) - 1) = (l.length : Int) - 1 := wrap64 (by omega)
    have hm : (if 1 < l.length then (l.length : Int) - 1 else 0) = ((l.length - 1 : Nat) : Int) := by split <;> omega
    have hd := Lib.itoa_length_le ((l.length - 1 : Nat) : Int) (by omega) (by omega)
    simp [hw1, hm]
    refine callK.mk ent_Itoa (Itoa_cs hP ((l.length - 1 : Nat) : Int) (by unfold I64; omega)) ?_
    simp
    repeat (refine stepK_len (by first | omega | (simp; omega)) ?_; simp)
    refine SW.loopF (ι := { x : Nat × Nm // x.1 ≤ l.length ∧ x.2 ++ mangTs (l.drop x.1) = mangT ⟨6, nm, l, ns, p, ps⟩ }) (fun x => [(3, .d (.str x.1.2)), (35, .d (.int .i64 x.1.1))]) (fun _ => [(1, tyO 6 nm (.sl (l.map tyC)) (.sl (strs ns)) p (.sl (ps.map prC)))]) (fun _ => []) (fun x => l.length - x.1.1) ⟨(0, ([70, 117, 110, 46] ++ Lib.itoa ((l.length - 1 : Nat) : Int))), by simp [hq]⟩ (by simp) ?_
    rintro ⟨⟨i, acc⟩, hi, hR⟩
    simp only at hi hR
    have hal : acc.length ≤ 1000000000 := by rw [← hR] at htl; simp at htl; omega
    by_cases hlt : i < l.length
    · have hg := tys_get hlt
      have hw := wrap64s (show i < 9223372036854775807 by omega)
      have hb2 := wTs_mem hlt
      have hb3 := mangT_len l[i] (by omega)
      rw [mangTs_drop hlt] at hR
      simp [hlt, hg]
      refine callK.mk ent_types_Mangle (ih l[i] (List.getElem_mem hlt) (by omega)) ?_
      simp
      repeat (refine stepK_len (by first | omega | (simp; omega)) ?_; simp)
      exact Again.mk ⟨(i + 1, acc ++ 46 :: mangT l[i]), hlt, by rw [← hR]; simp⟩ (by simp [hw]) (by simp; omega)
    · have : i = l.length := by omega
      subst this
      simp [mangTs] at hR
      simp [hR]
  simp [h4, h6] at hq
  simp [h1, h2, h3, h4, h5, h6, hq, baseT]
theorem ent_r19_Mangle : VM.Enters Tryd.prog 45 := VM.Enters.mk Tryd.func45 rfl
theorem r19_Mangle_cs : ∀ t : Ty, wT t ≤ 1000000000 → CS Tryd.prog G 45 [.agg (tyD t)] (.d (.str (mangT t))) none := by
  refine Ty.ind fun t ih => ?_
  obtain ⟨op, nm, l, ns, p, ps⟩ := t
  intro hN
  simp only at ih
  have hn := wT_eq ⟨op, nm, l, ns, p, ps⟩
  have hq := mangT_eq ⟨op, nm, l, ns, p, ps⟩
  have htl := mangT_len ⟨op, nm, l, ns, p, ps⟩ hN
  simp only at hn hq
  have hl := len_le_wTs l
  refine CS.of_VK Tryd.func45 rfl Tryd.ntmps45 rfl ?_
  simp
  refine callK.mk ent_r19_base (r19_base_cs ⟨op, nm, l, ns, p, ps⟩) ?_
  by_cases h4 : op = 4
  · subst h4
    simp at hq
    simp [base_four]
    refine SW.loopF (ι := { x : Nat × Nm // x.1 ≤ l.length ∧ x.2 ++ mangTs (l.drop x.1) = mangT ⟨4, nm, l, ns, p, ps⟩ }) (fun x => [(3, .d (.str x.1.2)), (29, .d (.int .i64 x.1.1))]) (fun _ => [(1, tyO 4 nm (.sl (l.map tyC)) (.sl (strs ns)) p (.sl (ps.map prC)))]) (fun _ => []) (fun x => l.length - x.1.1) ⟨(0, nm), by simp [hq]⟩ (by simp) ?_
    rintro ⟨⟨i, acc⟩, hi, hR⟩
    simp only at hi hR
    have hal : acc.length ≤ 1000000000 := by rw [← hR] at htl; simp at htl; omega
    by_cases hlt : i < l.length
    · have hg := tys_get hlt
      have hw := wrap64s (show i < 9223372036854775807 by omega)
      have hb2 := wTs_mem hlt
      have hb3 := mangT_len l[i] (by omega)
      rw [mangTs_drop hlt] at hR
      simp [hlt, hg]
      refine callK.mk ent_r19_Mangle (ih l[i] (List.getElem_mem hlt) (by omega)) ?_
      simp
      repeat (refine stepK_len (by first | omega | (simp; omega)) ?_; simp)
      exact Again.mk ⟨(i + 1, acc ++ 46 :: mangT l[i]), hlt, by rw [← hR]; simp⟩ (by simp [hw]) (by simp; omega)
    · have : i = l.length := by omega
      subst this
      simp [mangTs] at hR
      simp [hR]
  by_cases h6 : op = 6
  · subst h6
    simp at hq
    have hw1 : IntKind.i64.wrap ((l.length : Int) - 1) = (l.length : Int) - 1 := wrap64 (by omega)
    have hm : (if (l.length : Int) - 1 < 0 then 0 else (l.length : Int) - 1) = ((l.length - 1 : Nat) : Int) := by split <;> omega
    have hd := Lib.itoa_length_le ((l.length - 1 : Nat) : Int) (by omega) (by omega)
    simp [hw1, hm]
    refine callK.mk ent_r1_Text (r1_Text_cs ((l.length - 1 : Nat) : Int) (by unfold I64; omega)) ?_
    simp
    repeat (refine stepK_len (by first | omega | (simp; omega)) ?_; simp)
    refine SW.loopF (ι := { x : Nat × Nm // x.1 ≤ l.length ∧ x.2 ++ mangTs (l.drop x.1) = mangT ⟨6, nm, l, ns, p, ps⟩ }) (fun x => [(3, .d (.str x.1.2)), (29, .d (.int .i64 x.1.1))]) (fun _ => [(1, tyO 6 nm (.sl (l.map tyC)) (.sl (strs ns)) p (.sl (ps.map prC)))]) (fun _ => []) (fun x => l.length - x.1.1) ⟨(0, ([70, 117, 110, 46] ++ Lib.itoa ((l.length - 1 : Nat) : Int))), by simp [hq]⟩ (by simp) ?_
    rintro ⟨⟨i, acc⟩, hi, hR⟩
    simp only at hi hR
    have hal : acc.length ≤ 1000000000 := by rw [← hR] at htl; simp at htl; omega
    by_cases hlt : i < l.length
    · have hg := tys_get hlt
      have hw := wrap64s (show i < 9223372036854775807 by omega)
      have hb2 := wTs_mem hlt
      have hb3 := mangT_len l[i] (by omega)
      rw [mangTs_drop hlt] at hR
      simp [hlt, hg]
      refine callK.mk ent_r19_Mangle (ih l[i] (List.getElem_mem hlt) (by omega)) ?_
      simp
      repeat (refine stepK_len (by first | omega | (simp; omega)) ?_; simp)
      exact Again.mk ⟨(i + 1, acc ++ 46 :: mangT l[i]), hlt, by rw [← hR]; simp⟩ (by simp [hw]) (by simp; omega)
    · have : i = l.length := by omega
      subst this
      simp [mangTs] at hR
      simp [hR]
  simp [h4, h6] at hq
  simp [h4, h6, hq]
end Go.Proofs.YtbljhkgdeojliaaDoor
end

section
set_option linter.unusedVariables false
set_option linter.unusedSimpArgs false
set_option linter.unusedSectionVars false
namespace Go.Proofs.YtbljhkgdeojliaaDoor
open Go Go.VM
set_option maxRecDepth 100000
set_option maxHeartbeats 8000000
variable {G : GT}
mutual
theorem wT_sz : ∀ t : Ty, wT t ≤ 30 * szL (tyC t)
  | ⟨op, nm, l, ns, p, ps⟩ => by
    have h1 := wTs_sz l
    rw [tyC_eq]
    simp only [wT, szL, szD]
    omega
theorem wTs_sz : ∀ l : List Ty, wTs l ≤ 30 * szLL (l.map tyC)
  | [] => by simp [wTs, szLL]
  | t :: r => by
    have h1 := wT_sz t
    have h2 := wTs_sz r
    simp only [wTs, List.map_cons, szLL]
    omega
end
theorem l19_TypesTexts_cs (s t : Ty) (hs : szL (tyC s) + szL (tyC t) ≤ 1048576) : CS Tryd.prog G0 8 [.agg (tyD s), .agg (tyD t)] (.d (.bool true)) none := by
  have h1 := allT_sz s
  have h2 := allT_sz t
  have h3 := nodT_all s
  have h4 := nodT_all t
  have h5 := wT_sz s
  have h6 := wT_sz t
  have hf := l19_few_cs (G := G0) (allTs [s, t]) [s, t] (Nat.le_refl _) (by simp only [allTs]; omega)
  simp at hf
  refine CS.of_VK Tryd.func8 rfl Tryd.ntmps8 rfl ?_
  simp
  refine callK.mk ent_l19_few hf ?_
  cases hfw : fewTs [s, t]
  · simp
    refine callK.mk ent_l19_alive (l19_alive_cs ) ?_
    simp
  simp
  refine ⟨lexOk.mk (by kernel_rfl), ?_⟩
  refine callK.mk ent_types_Text (types_Text_cs s (by omega)) ?_
  simp
  refine callK.mk ent_r19_Text (r19_Text_cs s (by omega)) ?_
  simp
  refine callK.mk ent_types_Mangle (types_Mangle_cs G0_pow s (by omega)) ?_
  simp
  refine callK.mk ent_r19_Mangle (r19_Mangle_cs s (by omega)) ?_
  simp
  refine callK.mk ent_types_Same (types_Same_cs s t (by omega)) ?_
  cases hsm : sameT s t
  · simp
    refine ⟨lexOk.mk (by kernel_rfl), ?_⟩
    refine callK.mk ent_types_Check (types_Check_cs G0_kw s (by omega)) ?_
    by_cases hc : checkT s = 0
    · simp [hc]
      refine callK.mk ent_types_Check (types_Check_cs G0_kw t (by omega)) ?_
      by_cases hd : checkT t = 0
      · have hx : ¬ textT s = textT t := fun e => by
          have := (text_iff (checkT_ok hc) (checkT_ok hd)).1 e
          rw [hsm] at this
          cases this
        simp [hd]
        refine callK.mk ent_types_Text (types_Text_cs s (by omega)) ?_
        simp
        refine callK.mk ent_types_Text (types_Text_cs t (by omega)) ?_
        simp
        refine callK.mk ent_types_Same (types_Same_cs s t (by omega)) ?_
        simp [hsm, hx]
        refine callK.mk ent_l19_alive (l19_alive_cs ) ?_
        simp
      · simp [hd]
        refine callK.mk ent_l19_alive (l19_alive_cs ) ?_
        simp
    · simp [hc]
      refine callK.mk ent_l19_alive (l19_alive_cs ) ?_
      simp
  · have hx := textT_same s t hsm
    simp
    refine callK.mk ent_types_Text (types_Text_cs s (by omega)) ?_
    simp
    refine callK.mk ent_types_Text (types_Text_cs t (by omega)) ?_
    simp [hx]
    refine ⟨lexOk.mk (by kernel_rfl), ?_⟩
    refine callK.mk ent_types_Check (types_Check_cs G0_kw s (by omega)) ?_
    by_cases hc : checkT s = 0
    · simp [hc]
      refine callK.mk ent_types_Check (types_Check_cs G0_kw t (by omega)) ?_
      by_cases hd : checkT t = 0
      · simp [hd]
        refine callK.mk ent_types_Text (types_Text_cs s (by omega)) ?_
        simp
        refine callK.mk ent_types_Text (types_Text_cs t (by omega)) ?_
        simp
        refine callK.mk ent_types_Same (types_Same_cs s t (by omega)) ?_
        simp [hsm, hx]
        refine callK.mk ent_l19_alive (l19_alive_cs ) ?_
        simp
      · simp [hd]
        refine callK.mk ent_l19_alive (l19_alive_cs ) ?_
        simp
    · simp [hc]
      refine callK.mk ent_l19_alive (l19_alive_cs ) ?_
      simp
theorem typesTexts_all (xs : List D) (h : FitsAll Tryd.prog [43, 43] xs) (hsz : szL xs ≤ 1048576) : CS Tryd.prog G0 8 xs (.d (.bool true)) none := by
  match xs, h with
  | [a, b], ⟨h1, h2, _⟩ =>
    obtain ⟨s, rfl⟩ := fitV_ty h1
    obtain ⟨t, rfl⟩ := fitV_ty h2
    simp only [szL, szD] at hsz
    have := l19_TypesTexts_cs s t (by omega)
    rw [tyC_eq, tyC_eq]
    exact this
end Go.Proofs.YtbljhkgdeojliaaDoor
end
