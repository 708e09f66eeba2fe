/- The abstract machine: 'x = append(x, T{..})' in a region whose order is drawn; loops and blocks walked by hand. No condition. -/
import Derived.Test.YtcmpodbjhoeblaaDoorVmT
set_option linter.unusedVariables false
set_option linter.unusedSimpArgs false
set_option linter.unusedSectionVars false
namespace Go.VM
open Go Go.RowKit
section
variable {P : Program} {G : GT} {st : St} {Q : Exit → St → Prop}
theorem SW.blockq {id : Nat} {c : Code} (h : SW P G c st fun e s => match e with
    | .exit id' => if id' = id then Q .normal s else Q (.exit id') s
    | e => Q e s) : SW P G (.block id c) st Q := fun base R μ a w hr => wp_block (wp_mono (h base R μ a w hr) fun e a1 w1 ⟨s, R1, μ1, q1, q2, q3⟩ => by
      cases e with
      | exit id' =>
        simp only [Exit.inBlock]
        simp only at q1
        by_cases hid : id' = id
        · rw [if_pos hid] at q1 ⊢; exact ⟨s, R1, μ1, q1, q2, q3⟩
        · rw [if_neg hid] at q1 ⊢; exact ⟨s, R1, μ1, q1, q2, q3⟩
      | _ => exact ⟨s, R1, μ1, q1, q2, q3⟩)
/-- A loop whose round is walked by hand. -/
theorem SW.loopW {c : Code} {ι : Type} (ws : ι → List (Nat × DV)) (H : ι → List (Nat × AObj)) (own : ι → List (TypeId × List Loc)) (m : ι → Nat) (x0 : ι) (h0 : Weak st (frameOf c st (ws x0) (H x0) (own x0)))
    (round : ∀ x, SW P G c (frameOf c st (ws x) (H x) (own x)) fun e s => match e with
      | .normal => Again (fun y => frameOf c st (ws y) (H y) (own y)) m x s
      | e => Q e s) : SW P G (.loop c) st Q := by
  intro base R μ a w hr
  refine wp_loop_ghost (fun n a1 w1 => ∃ x R1 μ1, m x = n ∧ Rel P G base R1 μ1 (frameOf c st (ws x) (H x) (own x)) a1 w1 ∧ Step base R w R1 w1) (m x0) ⟨x0, R, μ, rfl, hr.weak h0, .refl _ _ _⟩ ?_
  rintro n a1 w1 ⟨x, R1, μ1, rfl, hr1, hs1⟩
  refine wp_mono (round x base R1 μ1 a1 w1 hr1) fun e a2 w2 ⟨s, R2, μ2, q, hr2, hs2⟩ => ?_
  cases e with
  | normal =>
    simp only at q
    unfold Again at q
    obtain ⟨y, hy, hlt⟩ := q
    exact ⟨m y, hlt, y, R2, μ2, rfl, hr2.weak hy, hs1.trans hs2⟩
  | _ => exact ⟨s, R2, μ2, q, hr2, hs1.trans hs2⟩
theorem SW.mono2 {c : Code} {Q' : Exit → St → Prop} (h : SW P G c st Q') (hq : ∀ e s, Q' e s → Q e s) : SW P G c st Q := SW.mono hq h
theorem VOps_of_VK {all : Array Oper} {rest : List Oper} {T : St → Prop} (h : VK P G [.ops true all rest] .normal st fun _ s => T s) : VOps P G true all rest st T := by
  simp only [VK] at h
  exact h
/-- What the last four operations want. -/
def TailAt (P : Program) (G : GT) (t e : TypeId) (s z r p q x b : Tmp) (Q : St → Prop) (st : St) : Prop :=
  ∃ (xs : List (List D)) (z0 c : List D) (own' : List (TypeId × List Loc)) (out : Out), (r < st.tmps.length ∧ p < st.tmps.length) ∧ st.eval G (.tmp s) = .d (.sl xs) ∧ takeOwn (.t s) st.own = some (e, own') ∧ (∀ c ∈ xs, c.length = P.cellsOf e) ∧ st.eval G (.tmp z) = .d (.sl [z0]) ∧ z0.length = P.cellsOf e ∧
    (xs.length + 1) * (P.bytesOf e + 1) ≤ 140737488355328 ∧ st.eval G (.tmp q) = .d (.int .i64 (xs.length : Int)) ∧ st.eval G (.tmp x) = .d (.agg c) ∧ c.length = P.cellsOf e ∧ vStore P G t (.tmp b) (.tmp r) (tl2 st own' e r p xs c) = some out ∧ Q out.st
def tailReady (ops : Array Oper) (m : Nat) : Bool :=
  let L := listedTo m ops.size
  decide (ops.size = m + 4) && (Region.ready .any ops L == [m]) && (Region.ready .any ops (L.setIfInBounds m true) == [m + 1, m + 3]) && (Region.ready .any ops ((L.setIfInBounds m true).setIfInBounds (m + 1) true) == [m + 2, m + 3]) && (Region.ready .any ops ((L.setIfInBounds m true).setIfInBounds (m + 3) true) == [m + 1]) &&
  (Region.ready .any ops (((L.setIfInBounds m true).setIfInBounds (m + 1) true).setIfInBounds (m + 2) true) == [m + 3]) && (Region.ready .any ops (((L.setIfInBounds m true).setIfInBounds (m + 1) true).setIfInBounds (m + 3) true) == [m + 2]) && (Region.ready .any ops (((L.setIfInBounds m true).setIfInBounds (m + 3) true).setIfInBounds (m + 1) true) == [m + 2]) &&
  (Region.ready .any ops ((((L.setIfInBounds m true).setIfInBounds (m + 1) true).setIfInBounds (m + 2) true).setIfInBounds (m + 3) true) == []) && (Region.ready .any ops ((((L.setIfInBounds m true).setIfInBounds (m + 1) true).setIfInBounds (m + 3) true).setIfInBounds (m + 2) true) == []) && (Region.ready .any ops ((((L.setIfInBounds m true).setIfInBounds (m + 3) true).setIfInBounds (m + 1) true).setIfInBounds (m + 2) true) == [])
theorem region_append_ok {id : Nat} {ops : Array Oper} {m : Nat} {t e : TypeId} {s z r p q x b : Tmp} {y0 y1 y2 y3 : TypeId} {p0 p1 p2 p3 : String} {f0 f1 f2 f3 : Array Edge}
    (h0 : ops[m]? = some ⟨some r, .call { callee := .builtin .append, args := #[.tmp s, .tmp z], argTypes := #[t, t] }, y0, p0, f0, none⟩)
    (h1 : ops[m + 1]? = some ⟨some p, .indexAddr t (.tmp r) (.tmp q), y1, p1, f1, none⟩)
    (h2 : ops[m + 2]? = some ⟨none, .store e (.tmp p) (.tmp x), y2, p2, f2, none⟩)
    (h3 : ops[m + 3]? = some ⟨none, .store t (.tmp b) (.tmp r), y3, p3, f3, none⟩)
    (hB : (P.follows .mixedOrders && lexDE ops m && tailReady ops m) = true) (hok : (elemOk P e && decide ((r ≠ q ∧ r ≠ x ∧ r ≠ p ∧ r ≠ b) ∧ p ≠ x ∧ p ≠ b)) = true) (hu : P.underlying t = some (.slice e)) (hF : freshB ops st = true)
    (h : VK P G [.ops true ops (ops.toList.take m)] .normal st fun _ s1 => TailAt P G t e s z r p q x b (fun s' => Q .normal s') s1) : SW P G (.region id ops true) st Q := by
  rw [Bool.and_eq_true, Bool.and_eq_true] at hB
  obtain ⟨⟨hm, hL⟩, hR⟩ := hB
  rw [Bool.and_eq_true, decide_eq_true_eq] at hok
  simp only [tailReady, Bool.and_eq_true, decide_eq_true_eq, beq_iff_eq] at hR
  obtain ⟨⟨⟨⟨⟨⟨⟨⟨⟨⟨hsz, r0⟩, r1⟩, r2⟩, r3⟩, r4⟩, r5⟩, r6⟩, r7⟩, r8⟩, r9⟩ := hR
  have h4 : ops.size - m = 4 := by rw [hsz]; exact Nat.add_sub_cancel_left ..
  refine region_tail_ok hm hL hF (VOps_of_VK h) ?_
  rintro s1 base R μ a w QQ ⟨xs, z0, c, own', out, k0, k1, k2, k3, k4, k5, k6, k7, k8, k9, k10, k11⟩ hr hk
  rw [h4]
  exact wp_tail (Q := fun s' => Q .normal s') h0 h1 h2 h3 r0 r1 r2 r3 r4 r5 r6 r7 r8 r9 hok.1 hu hok.2 k0 k1 k2 k3 k4 k5 k6 k7 k8 k9 k10 k11 hr hk
end
end Go.VM
