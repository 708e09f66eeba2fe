/- The abstract machine: one operation of a region that is walked by hand; '&' of integers. No condition. -/
import Derived.Test.YtcmpodbjhoeblaaDoorVmU
set_option linter.unusedVariables false
set_option linter.unusedSimpArgs false
set_option linter.unusedSectionVars false
namespace Go.VM
open Go Go.RowKit
section
variable {P : Program} {G : GT} {st : St} {Q : Exit → St → Prop}
theorem VOps_then {q : Bool} (all : Array Oper) (QQ : Exit → Act → World → Prop) (rest : List Oper) : ∀ (l : List Oper) (st : St) (K : St → Prop), VOps P G q all l st K → ∀ (base : Base) (R : Nat → Nat → Prop) (μ : Nat → Nat) (a : Act) (w : World), Rel P G base R μ st a w →
    (∀ s a' w' R' μ', K s → Rel P G base R' μ' s a' w' → Step base R w R' w' → wpList P all QQ rest a' w') → wpList P all QQ (l ++ rest) a w
  | [], st, K, h, base, R, μ, a, w, hr, hk => hk st a w R μ h hr (.refl _ _ _)
  | o :: l, st, K, h, base, R, μ, a, w, hr, hk => by
    rw [List.cons_append]
    unfold wpList
    exact vOne_ok h hr fun s v w' R' μ' h' hr' hs' => VOps_then all QQ rest l s K h' base R' μ' _ w' hr' fun s a' w2 R2 μ2 q1 q2 q3 => hk s a' w2 R2 μ2 q1 q2 (hs'.trans q3)
/-- A region in order: the first m operations by the machine, the next one by a law, the others by the machine. -/
theorem region_hand {id : Nat} {ops : Array Oper} {m : Nat} {o : Oper} (ho : ops.toList.drop m = o :: ops.toList.drop (m + 1)) (hg : o.guard = none)
    (h : VK P G [.ops false ops (ops.toList.take m)] .normal st fun _ s => ∃ out, OpOk P G o s out ∧ VK P G [.ops false ops (ops.toList.drop (m + 1))] .normal (finish out.st o.dst out.v out.act) fun _ s' => Q .normal s') : SW P G (.region id ops false) st Q := by
  intro base R μ a w hr
  refine wp_region_list ?_
  rw [← List.take_append_drop m ops.toList, ho]
  simp only [VK] at h
  refine VOps_then ops _ _ _ st _ h base R μ a w hr ?_
  rintro s a1 w1 R1 μ1 ⟨out, hok, h2⟩ hr1 hs1
  obtain ⟨v, w2, R2, μ2, hrun, hr2, hv, hact, hs2⟩ := hok base R1 μ1 a1 w1 hr1
  have hput := hr2.put (dst := o.dst) hv hact
  refine wpList_plain hg fun K hK => ?_
  have hk2 : K (a1.put o.dst v) w2 := hK _ _ (VOps_ok ops _ _ _ _ h2 base R2 μ2 _ w2 hput fun s' a' w' R' μ' q1 q2 q3 => ⟨s', R', μ', q1, q2, (hs1.trans hs2).trans q3⟩)
  unfold Oper.wp
  rcases hrun with h1 | ⟨h1, rfl⟩
  · rw [h1]; exact hk2
  · rw [h1]; exact hk2
def dand (k : IntKind) (a b : Int) : Int := k.wrap (BitVec.ofInt k.bits a &&& BitVec.ofInt k.bits b).toNat
theorem vAnd_ok {o : Oper} {t u : TypeId} {x y : Operand} {k : IntKind} {m n : Int} (ho : o.op = .binOp .and t x y u) (hx : st.eval G x = .d (.int k m)) (hy : st.eval G y = .d (.int k n)) : OpOk P G o st ⟨.d (.int k (dand k m n)), .no, st⟩ := by
  refine opOk_pure fun base R μ a w hr => ?_
  have vx := (hr.evalD hx).int_inv
  have vy := (hr.evalD hy).int_inv
  refine ⟨.int k (dand k m n), ?_, .d _ _ (.int _ _), trivial⟩
  simp [execOp, ho, vx, vy, eqGuard, binOp, Op.intBits, dand]
theorem dand_one (x : Int) : dand .i8 x 1 = 0 ∨ dand .i8 x 1 = 1 := by
  have h : (BitVec.ofInt 8 x &&& BitVec.ofInt 8 1).toNat = 0 ∨ (BitVec.ofInt 8 x &&& BitVec.ofInt 8 1).toNat = 1 := by
    generalize BitVec.ofInt 8 x = b
    have h1 : (b &&& BitVec.ofInt 8 1).toNat = b.toNat &&& 1 := by
      rw [BitVec.toNat_and]
      rfl
    rw [h1, Nat.and_one_is_mod]
    omega
  unfold dand
  have hb : IntKind.i8.bits = 8 := rfl
  rw [hb]
  rcases h with h | h <;> rw [h]
  · left; decide
  · right; decide
end
end Go.VM
