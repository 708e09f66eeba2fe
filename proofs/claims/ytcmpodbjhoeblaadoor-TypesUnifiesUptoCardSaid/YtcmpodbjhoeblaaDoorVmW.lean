/- The abstract machine: a struct that is built and stored in a region whose order is drawn: a slice in it stays owned. No condition. -/
import Derived.Test.YtcmpodbjhoeblaaDoorVmV
set_option linter.unusedVariables false
set_option linter.unusedSimpArgs false
set_option linter.unusedSectionVars false
namespace Go.VM
open Go Go.RowKit
section
variable {P : Program} {G : GT} {st : St}
/-- A cell that holds what a temporary holds shares its ownership. -/
theorem Rel.alias {base : Base} {R : Nat → Nat → Prop} {μ : Nat → Nat} {a : Act} {w : World} (hr : Rel P G base R μ st a w) {t : Tmp} {k off : Nat} (hk : ∃ o, getKey k st.H = some o) (ht : t < a.tmps.size) (h : ∀ u, w.cell? ⟨μ k, off, none⟩ = some u → u = a.eval (.tmp t)) :
    Rel P G base R μ { st with own := addAlias (.t t) (.c k off) st.own } a w := by
  obtain ⟨vs, hvs⟩ := hr.own
  refine ⟨hr.defers, hr.size, hr.tmps, hr.objs, hr.inj, fun c hc k' off' hl => ?_, ⟨vs, by simpa [addAlias] using hvs.len, fun i c v hc hv => ?_, hvs.apart⟩, hr.glob, hr.rset, hr.base, hr.pass⟩
  · obtain ⟨i, hi⟩ := List.getElem?_of_mem hc
    obtain ⟨c', hc', _, hm⟩ := mem_addAlias hi
    rcases hm _ hl with hx | ⟨hx, _⟩
    · exact hr.locs c' (List.mem_of_getElem? hc') k' off' hx
    · cases hx; exact hk
  · obtain ⟨c', hc', he, hm⟩ := mem_addAlias hc
    have ho := hvs.one i c' v hc' hv
    refine ⟨fun l hl u hu => ?_, by rw [he]; exact ho.own, ho.keys⟩
    rcases hm l hl with hx | ⟨rfl, hx⟩
    · exact ho.locs l hx u hu
    · have h1 := h u hu
      have h2 : locVal a w μ (.t t) = some (a.eval (.tmp t)) := by
        simp [locVal, Act.eval, ht]
      rw [h1]
      exact ho.locs _ hx _ h2
/-- What the last two operations want. -/
def TailB (P : Program) (G : GT) (t : TypeId) (x ad s : Tmp) (j : Nat) (parts : Array (Nat × Operand)) (Q : St → Prop) (st : St) : Prop :=
  ∃ (outB outS : Out) (k off : Nat), (s < st.tmps.length ∧ x < st.tmps.length) ∧ vBuild P G t parts st = some outB ∧ vStore P G t (.tmp ad) (.tmp x) (finish outB.st (some x) outB.v outB.act) = some outS ∧ (finish outB.st (some x) outB.v outB.act).eval G (.tmp ad) = .ptr k off ∧ outS.st.eval G (.tmp ad) = .ptr k off ∧ (∃ cs, getKey k (finish outB.st (some x) outB.v outB.act).H = some (.cells cs)) ∧
    (∀ (o : Oper), o.op = .build t parts → ∀ base R μ a w, Rel P G base R μ st a w → ∃ cs : Array Value, (execOp a.eval o).run P w = .ok (.value (.agg cs)) w ∧ cs[j]? = some (a.eval (.tmp s)) ∧ cs.size = P.cellsOf t) ∧ (getKey k outS.st.H).isSome = true ∧ Q { outS.st with own := addAlias (.t s) (.c k (off + j)) outS.st.own }
theorem region_build_ok {id : Nat} {ops ops' : Array Oper} {m : Nat} {t : TypeId} {x ad s : Tmp} {j : Nat} {parts : Array (Nat × Operand)} {y0 y1 : TypeId} {p0 p1 : String} {f0 f1 : Array Edge} {Q : Exit → St → Prop}
    (hW : sameWait ops ops') (hS : ∀ i, i < m → ∃ o, ops[i]? = some o ∧ ops'[i]? = some o ∧ o.guard = none)
    (h0 : ops[m]? = some ⟨some x, .build t parts, y0, p0, f0, none⟩) (h1 : ops[m + 1]? = some ⟨none, .store t (.tmp ad) (.tmp x), y1, p1, f1, none⟩)
    (hB : (P.follows .mixedOrders && lexDE ops' m && (decide (ops.size = m + 2) && (Region.ready .any ops (listedTo m ops.size) == [m]) && (Region.ready .any ops ((listedTo m ops.size).setIfInBounds m true) == [m + 1]) && (Region.ready .any ops (((listedTo m ops.size).setIfInBounds m true).setIfInBounds (m + 1) true) == []))) = true)
    (hF : freshB ops' st = true) (hne : x ≠ s ∧ x ≠ ad) (hct : P.cellsOf t ≠ 0)
    (h : VK P G [.ops true ops' (ops'.toList.take m)] .normal st fun _ s1 => TailB P G t x ad s j parts (fun s' => Q .normal s') s1) : SW P G (.region id ops true) st Q := by
  simp only [Bool.and_eq_true, decide_eq_true_eq, beq_iff_eq] at hB
  obtain ⟨⟨hm, hL⟩, ⟨⟨hsz, r0⟩, r1⟩, r2⟩ := hB
  refine region_tail_ok2 hW hS hm hL hF (VOps_of_VK h) ?_
  rintro s1 base R μ a w QQ ⟨outB, outS, k, off, k0, k1, k2, k3, k4, ⟨cs0, k5⟩, hraw, k6, k7⟩ hr hk
  have h2s : ops.size - m = 2 := by rw [hsz]; exact Nat.add_sub_cancel_left ..
  rw [h2s]
  obtain ⟨cs, e0, e1, e2⟩ := hraw ⟨some x, .build t parts, y0, p0, f0, none⟩ rfl base R μ a w hr
  obtain ⟨v, w1, R1, μ1, hrun, hr1, hv1, ha1, hs1⟩ := vBuild_ok (o := ⟨some x, .build t parts, y0, p0, f0, none⟩) rfl k1 base R μ a w hr
  rw [e0] at hrun
  have hv : v = .agg cs ∧ w1 = w := by
    rcases hrun with hrun | ⟨hrun, _⟩
    · cases hrun; exact ⟨rfl, rfl⟩
    · cases hrun
  obtain ⟨rfl, rfl⟩ := hv
  have hr2 := hr1.put (dst := some x) hv1 ha1
  generalize ha : a.put (some x) (.agg cs) = a1 at hr2
  have hsa : s < a.tmps.size := by rw [hr.size]; exact k0.1
  have hxa : x < a.tmps.size := by rw [hr.size]; exact k0.2
  have hsa1 : s < a1.tmps.size := by rw [← ha, size_put]; exact hsa
  have es : a1.eval (.tmp s) = a.eval (.tmp s) := by rw [← ha]; exact eval_put_ne _ _ (Ne.symm hne.1)
  obtain ⟨v2, w2, R2, μ2, hrun2, hr3, _, _, hs2⟩ := vStore_ok (o := ⟨none, .store t (.tmp ad) (.tmp x), y1, p1, f1, none⟩) rfl k2 base R1 μ1 a1 w1 hr2
  -- what is stored
  obtain ⟨_, _, cur, T0, hh, hcz, _⟩ := hr2.objs k _ k5
  have had := hr2.evalPtr k3
  have hxv : a1.eval (.tmp x) = .agg cs := by
    rw [← ha]
    exact eval_put_same _ _ hxa
  have hcc : (Value.agg cs).cells = cs := rfl
  unfold vStore at k2
  rw [k3] at k2
  split at k2
  rotate_left
  · cases k2
  rename_i k' off' ys hk' hys
  cases hk'
  rw [k5] at k2
  simp only at k2
  split at k2
  rotate_left
  · cases k2
  rename_i hcd
  have hvx : vcells ((finish outB.st (some x) outB.v outB.act).eval G (.tmp x)) = some ys := hys
  obtain ⟨hvs, hvc⟩ := vcells_ok (hr2.eval (.tmp x)) hvx
  rw [hxv, hcc] at hvs hvc
  have hone : ∀ u ∈ cs.toList, u.oneCell' = true := fun u hu => by
    obtain ⟨i, hi⟩ := List.getElem?_of_mem hu
    have hil : i < ys.length := by rw [← hvs]; simpa using (List.getElem?_eq_some_iff.1 hi).1
    obtain ⟨_, _, h2⟩ := hvc i ys[i] (by simp [hil])
    have : cs.getD i undef = u := by
      have : cs[i]? = some u := by simpa using hi
      simp [Array.getD_eq_getD_getElem?, this]
    rw [this] at h2
    exact h2
  have hfit : off + cs.size ≤ cur.size := by rw [hcz, hvs]; omega
  have hst := run_store_at (P := P) (a := a1) (w := w1) (o := ⟨none, .store t (.tmp ad) (.tmp x), y1, p1, f1, none⟩) rfl had hh (by rw [hxv, hcc]; exact e2) hct (by rw [hxv, hcc]; exact hone) (by rw [hxv, hcc]; exact hfit)
  rw [hxv, hcc] at hst
  have hw2 : w2 = w1.setRow (μ1 k) (spl cur off cs.toList) := by
    rw [hst] at hrun2
    rcases hrun2 with hrun2 | ⟨hrun2, _⟩
    · cases hrun2
    · cases hrun2; rfl
  have hμ : μ2 k = μ1 k := by
    have h1 := hr3.evalPtr k4
    rw [had] at h1
    have h2 := (Addr.mk.inj (Option.some.inj (Value.pointer.inj h1))).1
    exact h2.symm
  have hcell : ∀ u, w2.cell? ⟨μ2 k, off + j, none⟩ = some u → u = a1.eval (.tmp s) := fun u hu => by
    have hjl : j < cs.size := (Array.getElem?_eq_some_iff.1 e1).1
    rw [hμ, hw2, cell_of_row _ _ _ _ T0 (0, 0) (setRow_heap w1 (μ1 k) cur _ T0 _ hh), spl_get (by simpa using hfit), if_neg (by omega), if_pos (by simp; omega), Nat.add_sub_cancel_left] at hu
    have : cs.toList[j]? = some (a.eval (.tmp s)) := by simpa using e1
    rw [this] at hu
    cases hu
    exact es.symm
  have hr4 := hr3.alias (t := s) (k := k) (off := off + j) (Option.isSome_iff_exists.1 k6) hsa1 hcell
  refine wpAny_all r0 (by simp) fun i hi => ?_
  simp only [List.mem_singleton] at hi
  subst hi
  refine wpOp_run h0 rfl (.inl e0) ha ?_
  refine wpAny_all r1 (by simp) fun j' hj => ?_
  simp only [List.mem_singleton] at hj
  subst hj
  exact wpOp_run h1 rfl (.inr ⟨by rw [hw2]; exact hst, rfl⟩) rfl (wpAny_done r2 (hk _ _ _ R2 μ2 k7 hr4 (hs1.trans hs2)) _)
/-- The region, its operation m turned to one that appends to s: so the machine keeps what s shares. -/
def fakeOps (ops : Array Oper) (m s x : Nat) : Array Oper := ops.setIfInBounds m ⟨some x, .call { callee := .builtin .append, args := #[.tmp s, .tmp s], argTypes := #[] }, 0, "", ((ops[m]?).map fun o : Oper => o.after).getD #[], none⟩
theorem fake_wait (ops : Array Oper) (m s x : Nat) (hm : m < ops.size) : sameWait ops (fakeOps ops m s x) := by
  refine ⟨by simp [fakeOps], fun i => ?_⟩
  unfold fakeOps
  rw [Array.getElem?_setIfInBounds]
  by_cases h : m = i
  · subst h
    simp [hm]
  · simp [h]
def noGuard (ops : Array Oper) (m : Nat) : Bool := (List.range m).all fun i => match ops[i]? with
  | some o => o.guard == none
  | none => false
theorem region_build {id : Nat} {ops : Array Oper} {m : Nat} {t : TypeId} {x ad : Tmp} {parts : Array (Nat × Operand)} {y0 y1 : TypeId} {p0 p1 : String} {f0 f1 : Array Edge} {Q : Exit → St → Prop} (s : Tmp) (j : Nat)
    (h0 : ops[m]? = some ⟨some x, .build t parts, y0, p0, f0, none⟩) (h1 : ops[m + 1]? = some ⟨none, .store t (.tmp ad) (.tmp x), y1, p1, f1, none⟩)
    (hB : (P.follows .mixedOrders && lexDE (fakeOps ops m s x) m && (decide (ops.size = m + 2) && (Region.ready .any ops (listedTo m ops.size) == [m]) && (Region.ready .any ops ((listedTo m ops.size).setIfInBounds m true) == [m + 1]) && (Region.ready .any ops (((listedTo m ops.size).setIfInBounds m true).setIfInBounds (m + 1) true) == [])) && noGuard ops m) = true)
    (hF : freshB (fakeOps ops m s x) st = true) (hne : x ≠ s ∧ x ≠ ad) (hct : P.cellsOf t ≠ 0)
    (h : VK P G [.ops true (fakeOps ops m s x) (ops.toList.take m)] .normal st fun _ s1 => TailB P G t x ad s j parts (fun s' => Q .normal s') s1) : SW P G (.region id ops true) st Q := by
  rw [Bool.and_eq_true] at hB
  obtain ⟨hB, hG⟩ := hB
  have hsz : ops.size = m + 2 := by
    simp only [Bool.and_eq_true, decide_eq_true_eq] at hB
    exact hB.2.1.1.1
  have htk : (fakeOps ops m s x).toList.take m = ops.toList.take m := by
    unfold fakeOps
    rw [Array.toList_setIfInBounds, List.take_set_of_le (Nat.le_refl _)]
  refine region_build_ok (ops' := fakeOps ops m s x) (fake_wait ops m s x (by omega)) (fun i hi => ?_) h0 h1 hB hF hne hct (by rw [htk]; exact h)
  have hg := List.all_eq_true.1 hG i (List.mem_range.2 hi)
  split at hg
  · rename_i o ho
    refine ⟨o, ho, ?_, by simpa using hg⟩
    unfold fakeOps
    rw [Array.getElem?_setIfInBounds, if_neg (by omega)]
    exact ho
  · cases hg
end
end Go.VM
