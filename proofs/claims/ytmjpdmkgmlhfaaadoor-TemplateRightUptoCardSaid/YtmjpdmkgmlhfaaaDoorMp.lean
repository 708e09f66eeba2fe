/- Template: added. No condition. -/
import Derived.Test.YtmjpdmkgmlhfaaaDoorMg
import Derived.Test.YtmjpdmkgmlhfaaaDoorMo
set_option linter.unusedVariables false
set_option linter.unusedSimpArgs false
set_option linter.unusedSectionVars false
namespace Go.VM
open Go Go.RowKit
section
variable {P : Program} {G : GT} {st : St} {base : Base} {R R' : Nat → Nat → Prop} {μ : Nat → Nat} {a : Act} {w w' : World}
/-- Behind a call: a value that is nobody else's. -/
theorem act_fresh (hr : Rel P G base R μ st a w) (hs : Step (From w.heap.size) R w R' w') {e : TypeId} {v : Value} (hown : OwnSl P (From w.heap.size) R' w' e v) : ActOk P base R' μ st a w' v (.fresh e) := by
  refine ⟨?_, fun k o' hk hsp => ?_, ?_⟩
  · rcases hown with q | ⟨g, n, cap, cur, q1, q2, q3⟩
    · exact .inl q
    · exact .inr ⟨g, n, cap, cur, q1, hr.base _ q2, q3⟩
  · obtain ⟨_, _, h3⟩ := hr.objs k o' hk
    have h1 : w.heap.size ≤ μ k := hown.base_le hsp
    have h2 := h3.lt
    omega
  · obtain ⟨vs, hvs⟩ := hr.own
    refine ⟨vs, hvs.step hr hs.below.below.block (fun b o hb q => by
      by_cases hR : R b o
      · exact hR
      · have := hs.new b o q hR; omega), fun v' hv' => ⟨fun g hg hg' => ?_, fun g hg hg' => ?_⟩⟩
    · have h1 : w.heap.size ≤ g := hown.base_le hg
      have h2 := hvs.lt hv' hg'
      omega
    · have h1 : w.heap.size ≤ g := hown.base_le hg'
      have h2 := hvs.lt hv' hg
      omega
theorem put_two (a : Act) {i j : Nat} (u v : Value) (h : i ≠ j) : (a.put (some i) u).put (some j) v = (a.put (some j) v).put (some i) u := by
  cases a with
  | mk tmps defers =>
    simp only [Act.put]
    congr 1
    apply Array.ext_getElem?
    intro k
    simp [Array.getElem?_setIfInBounds]
    by_cases hk : i = k
    · have : ¬ j = k := fun e => h (hk.trans e.symm)
      simp [hk, this]
    · simp [hk]
theorem exec_call {f : FuncId} (he : Enters P f) (a : Act) (w : World) {o : Oper} {xs : Array Operand} {ts : Array TypeId} (ho : o.op = .call { callee := .value (.func f), args := xs, argTypes := ts }) : (execOp a.eval o).run P w = .ok (.enter f (xs.map a.eval)) w := by
  obtain ⟨fn, hf1, hf2, hf3⟩ := he
  have hf2' : ¬ fn.body = none := fun he => by simp [he] at hf2
  have hf3' : ¬ fn.name = "runtime.NumGoroutine" := by simpa using hf3
  simp [execOp, ho, resolve, Act.eval, Deferred.ofValue, invoke, callFunc, hf1, hf2', hf3']
end
end Go.VM
namespace Go.Proofs.YtmjpdmkgmlhfaaaDoor
open Go Go.VM Go.RowKit
set_option maxRecDepth 100000
set_option maxHeartbeats 8000000
variable {G : GT}
abbrev tVr : TypeId := 76
theorem cells_vr : Tryd.prog.cellsOf tVr = 2 := by kernel_rfl
theorem ent_cloneVr : VM.Enters Tryd.prog 82 := VM.Enters.mk Tryd.func82 rfl
theorem ent_del : VM.Enters Tryd.prog fDel := VM.Enters.mk Tryd.func81 rfl
theorem cloneVr_cs (l : List Vr) (hl : l.length ≤ 900000000) : CS Tryd.prog G 82 [.sl (l.map vrC)] (.d (.sl (l.map vrC))) (some 76) := by
  refine CS.of_VK Tryd.func82 rfl Tryd.ntmps82 rfl ?_
  have hsz : l.length * 33 ≤ 140737488355328 := by omega
  by_cases h0 : l = []
  · subst h0
    simp
  · have h1 : ¬ l.length = 0 := fun h => h0 (List.eq_nil_of_length_eq_zero h)
    simp [h0, h1, hsz]
/-- An owned slice of variables: its row. -/
theorem rowV_of {R : Nat → Nat → Prop} {w w0 : World} {v : Value} {l : List Vr} (hv : V R w v (.sl (l.map vrC))) (ho : OwnSl Tryd.prog (From w0.heap.size) R w tVr v) (hl : l ≠ []) :
    ∃ g cap, v = .slice (some ⟨g, 0, none⟩) l.length cap ∧ w0.heap.size ≤ g ∧ cap ≤ maxLen ∧ RowV g cap l w := by
  obtain ⟨ao, cap, hv1, hle, hne⟩ := hv.sl_inv
  obtain ⟨b, o, size, rfl, hs0, hs1, hrun⟩ := hne (by simpa using hl)
  rw [List.length_map] at hv1 hle
  have h2 : size = 2 := by
    cases l with
    | nil => exact absurd rfl hl
    | cons x r => rw [← hs1 (vrC x) (by simp)]; simp
  subst h2
  rcases ho with ⟨ao', h0⟩ | ⟨g, n, cap', cur, q1, q2, q3, q4, q5, q6, q7⟩
  · rw [hv1] at h0
    injection h0 with _ h0 _
    exact absurd (List.eq_nil_of_length_eq_zero h0) hl
  rw [hv1] at q1
  have e1 : b = g ∧ o = 0 ∧ n = l.length ∧ cap' = cap := by
    injection q1 with z1 z2 z3
    injection z1 with z1
    injection z1 with z4 z5
    exact ⟨z4, z5, z2.symm, z3.symm⟩
  obtain ⟨rfl, rfl, rfl, rfl⟩ := e1
  rw [cells_vr] at q6
  refine ⟨b, cap', hv1, q2, q5, cur, q3, q6, hle, fun j hj => ?_⟩
  have hc : (l.map vrC)[j]? = some [.str l[j].1, .str l[j].2] := by simp [hj, vrC]
  have h1 := hrun j _ hc
  obtain ⟨_, _, v0, p0, p1⟩ := h1 0 (.str l[j].1) rfl
  obtain ⟨_, _, v1, p2, p3⟩ := h1 1 (.str l[j].2) rfl
  rw [cell_of_row w _ _ cur tVr (0, 0) q3] at p0 p2
  rw [p1.str_inv] at p0
  rw [p3.str_inv] at p2
  simp only [Nat.zero_add, Nat.add_zero] at p0 p2
  exact ⟨p0, p2⟩
/-- What Clone and DeleteFunc leave. -/
theorem added_core {st : St} {base : Base} {R : Nat → Nat → Prop} {μ : Nat → Nat} {a : Act} {w : World} (hr : Rel Tryd.prog G base R μ st a w) {l : List Vr} (hl : l.length ≤ 1000000) (x : Vr) {k : Nat} (hk : getKey k st.H = some (.cells [.d (.str x.1), .d (.str x.2)]))
    {s : Value} (hs : V R w s (.sl (l.map vrC))) {Q : Value → World → Prop} 
    (hQ : ∀ v w' R', V R' w' v (.sl ((l.filter fun y => !decide (y.1 = x.1)).map vrC)) → Step (From w.heap.size) R w R' w' → (∀ b o, R' b o → b < w'.heap.size) → OwnSl Tryd.prog (From w.heap.size) R' w' tVr v → Q v w') :
    Calls Tryd.prog 82 #[s] w fun e w1 => ∃ v1, e = .returned v1 ∧ Calls Tryd.prog fDel #[v1, fullT x (μ k)] w1 fun e w' => ∃ v, e = .returned v ∧ Q v w' := by
  have hcl := cloneVr_cs (G := G) l (by omega) w R #[s] (hr.glob.up hr.base) hr.rset rfl (fun i d hi => by
    cases i with
    | zero => simp at hi; subst hi; exact hs
    | succ i => simp at hi)
  refine hcl.mono ?_
  rintro e w1 ⟨v1, R1, rfl, hv1, hs1, hb1, ho1⟩
  refine ⟨v1, rfl, ?_⟩
  have hv1 := (hv1 μ).dinv
  have ho1 := ho1 _ rfl
  obtain ⟨_, _, hob⟩ := hr.objs k _ hk
  have hbx := hob.lt
  obtain ⟨vs, T, hh, hsz, hc, _⟩ := hob
  have h0 := (hc 0 _ rfl).2.dinv.str_inv
  have hcell : w1.cell? ⟨μ k, 0, none⟩ = some (strV x.1) := by
    rw [World.cell?_of_block (hs1.below.below.block _ hbx), cell_of_row w _ _ vs T (0, 0) hh]
    have h2 : 0 < vs.size := by rw [hsz]; simp
    simp [Array.getD_eq_getD_getElem?, h2] at h0
    simp [h2, h0, strV]
  by_cases hl0 : l = []
  · subst hl0
    obtain ⟨ao, cap, rfl, _⟩ := hv1.sl_inv
    refine (delF_emp ao cap (μ k) x w1).mono ?_
    rintro e w' ⟨rfl, hB⟩
    have hst : Step (From w.heap.size) R1 w1 R1 w' := ⟨⟨hB.os, hB.tape, hB.output, hB.size, fun q hq => by
      by_cases h : q < w1.heap.size
      · exact hB.block q h
      · have := hs1.below.size
        simp only [From] at hq
        omega⟩, fun _ _ h => h, fun _ _ h h' => absurd h h', fun b o h => World.cell?_of_block (hB.block b (hb1 b o h))⟩
    exact ⟨_, rfl, hQ _ _ R1 (hv1.of_step hst) (hs1.trans hst) (fun b o h => Nat.lt_of_lt_of_le (hb1 b o h) hB.size) (ho1.keep (fun g _ hg => hB.block g hg) fun _ _ _ h => h)⟩
  · obtain ⟨g, cap, rfl, hg, hcm, hrow⟩ := rowV_of hv1 ho1 hl0
    have hne : μ k ≠ g := by omega
    refine (delF_all g cap (μ k) l x w1 hrow (Nat.lt_of_lt_of_le hbx hs1.below.size) hne hcell hl).mono ?_
    rintro e w' ⟨rfl, hX, cur, q1, q2, q3, q4⟩
    generalize l.filter (fun y => !decide (y.1 = x.1)) = f at hQ q3 q4 ⊢
    have hblk : ∀ q, q < w.heap.size → w'.heap[q]? = w.heap[q]? := fun q hq => by
      rw [hX.block q (Nat.lt_of_lt_of_le hq hs1.below.size) (by omega)]
      exact hs1.below.below.block q hq
    refine ⟨_, rfl, hQ _ _ (fun b o => R b o ∨ (b = g ∧ o < f.length * 2)) ?_ ⟨⟨?_, ?_, ?_, ?_, fun q hq => hblk q (by simpa [From] using hq)⟩, fun b o h => .inl h, fun b o h hn => ?_, fun b o h => World.cell?_of_block (hblk b (hr.rset b o h))⟩ (fun b o h => ?_) ?_⟩
    · by_cases hf : f = []
      · subst hf
        exact .emp _ _
      refine .sl g 0 f.length cap 2 _ (fun i j => if j = 0 then strV (f[i]?.getD ([], [])).1 else strV (f[i]?.getD ([], [])).2) (by simp) q3 (by decide) (fun e he => ?_) (fun i j hi hj => ⟨.inr ⟨rfl, by omega⟩, ?_⟩) (fun i j e d hi hj => ?_) (fun i j e d hi hj => ?_)
      · obtain ⟨y, _, rfl⟩ := List.mem_map.1 he
        simp
      · rw [cell_of_row w' _ _ cur tVr (0, 0) q1]
        obtain ⟨z1, z2⟩ := q4 i hi
        have : j = 0 ∨ j = 1 := by omega
        rcases this with rfl | rfl
        · simp [hi, z1]
        · simp [hi, z2]
      · rw [List.getElem?_map] at hi
        obtain ⟨y, hy, rfl⟩ := Option.map_eq_some_iff.1 hi
        match j, hj with
        | 0, hj => simp [vrC] at hj; subst hj; rfl
        | 1, hj => simp [vrC] at hj; subst hj; rfl
        | j + 2, hj => simp [vrC] at hj
      · rw [List.getElem?_map] at hi
        obtain ⟨y, hy, rfl⟩ := Option.map_eq_some_iff.1 hi
        match j, hj with
        | 0, hj => simp [vrC] at hj; subst hj; simp [hy, strV]; exact .str _
        | 1, hj => simp [vrC] at hj; subst hj; simp [hy, strV]; exact .str _
        | j + 2, hj => simp [vrC] at hj
    · exact hX.os.trans hs1.below.os
    · exact hX.tape.trans hs1.below.tape
    · exact hX.output.trans hs1.below.output
    · exact Nat.le_trans hs1.below.size hX.size
    · rcases h with h | ⟨rfl, _⟩
      · exact absurd h hn
      · exact hg
    · rcases h with h | ⟨rfl, _⟩
      · exact Nat.lt_of_lt_of_le (hr.rset b o h) (Nat.le_trans hs1.below.size hX.size)
      · exact (Array.getElem?_eq_some_iff.1 q1).1
    · refine .inr ⟨g, f.length, cap, cur, rfl, hg, q1, q3, hcm, by rw [cells_vr]; exact q2, fun off hoff h => ?_⟩
      rw [cells_vr] at hoff
      rcases h with h | ⟨_, h⟩
      · have := hr.rset g off h
        omega
      · omega
/-- The statement 'out := slices.DeleteFunc(slices.Clone(scope), ..)'. -/
theorem SW_added {st : St} {l : List Vr} {x : Vr} {id : Nat} (hl : l.length ≤ 1000000) (h0 : st.eval G (.tmp 0) = .d (.sl (l.map vrC))) (h3 : st.eval G (.tmp 3) = .ptr 3 0) (hk : getKey 3 st.H = some (.cells [.d (.str x.1), .d (.str x.2)])) (hlen : st.tmps.length = 14)
    {y1 y2 y3 y4 y5 : TypeId} {p1 p2 p3 p4 p5 : String} {f1 f2 f3 f4 f5 : Array Edge} {t1 t2 : Array TypeId} {Q : Exit → St → Prop}
    (h : Q .normal (finish (finish (finish (finish (finish st (some 5) (.d (.sl ((l.filter fun y => !decide (y.1 = x.1)).map vrC))) (.fresh tVr)) (some 6) .undef .no) (some 7) .undef .no) (some 8) .undef .no) (some 9) .undef .no)) :
    SW Tryd.prog G (.region id #[⟨some 6, .move (.tmp 0), y1, p1, f1, none⟩, ⟨some 7, .call { callee := .value (.func 82), args := #[.tmp 6], argTypes := t1 }, y2, p2, f2, none⟩, ⟨some 8, .makeFunc (.func fCl) #[] #[.tmp 3], y3, p3, f3, none⟩,
      ⟨some 9, .call { callee := .value (.func fDel), args := #[.tmp 7, .tmp 8], argTypes := t2 }, y4, p4, f4, none⟩, ⟨some 5, .assign (.tmp 9), y5, p5, f5, none⟩] false) st Q := by
  intro base R μ a w hr
  have hsz := hr.size
  rw [hlen] at hsz
  have hs := hr.evalD h0
  have hp := hr.evalPtr h3
  refine wp_region_list ?_
  refine wpList_plain rfl fun K hK => ?_
  unfold Oper.wp
  simp only [execOp, Result.andThen, Sem.run_pure]
  refine hK _ _ ?_
  obtain ⟨a1, ha1⟩ : ∃ a1, a.put (some 6) (a.eval (.tmp 0)) = a1 := ⟨_, rfl⟩
  have z1 : a1.tmps.size = 14 := by rw [← ha1, size_put]; exact hsz
  have e6 : a1.eval (.tmp 6) = a.eval (.tmp 0) := by rw [← ha1]; exact eval_put_same _ _ (by omega)
  have b3 : a1.eval (.tmp 3) = .pointer (some ⟨μ 3, 0, none⟩) := by rw [← ha1, eval_put_ne _ _ (by decide)]; exact hp
  rw [ha1]
  refine wpList_plain rfl fun K hK => ?_
  unfold Oper.wp
  rw [exec_call ent_cloneVr a1 w rfl]
  simp only [List.map_toArray, List.map_cons, List.map_nil]
  show Calls _ _ #[a1.eval (.tmp 6)] w _
  rw [e6]
  refine (added_core hr hl x hk hs (Q := fun v w' => ∃ R', V R' w' v (.sl ((l.filter fun y => !decide (y.1 = x.1)).map vrC)) ∧ Step (From w.heap.size) R w R' w' ∧ (∀ b o, R' b o → b < w'.heap.size) ∧ OwnSl Tryd.prog (From w.heap.size) R' w' tVr v) fun v w' R' q1 q2 q3 q4 => ⟨R', q1, q2, q3, q4⟩).mono ?_
  rintro e w1 ⟨v1, rfl, hdel⟩
  refine hK _ _ ?_
  obtain ⟨a2, ha2⟩ : ∃ a2, a1.put (some 7) v1 = a2 := ⟨_, rfl⟩
  have z2 : a2.tmps.size = 14 := by rw [← ha2, size_put]; exact z1
  have e7 : a2.eval (.tmp 7) = v1 := by rw [← ha2]; exact eval_put_same _ _ (by omega)
  have b4 : a2.eval (.tmp 3) = .pointer (some ⟨μ 3, 0, none⟩) := by rw [← ha2, eval_put_ne _ _ (by decide)]; exact b3
  rw [ha2]
  refine wpList_plain rfl fun K hK => ?_
  unfold Oper.wp
  simp only [execOp, Result.andThen, Sem.run_pure, List.map_toArray, List.map_cons, List.map_nil, b4]
  refine hK _ _ ?_
  obtain ⟨a3, ha3⟩ : ∃ a3, a2.put (some 8) (fullT x (μ 3)) = a3 := ⟨_, rfl⟩
  have z3 : a3.tmps.size = 14 := by rw [← ha3, size_put]; exact z2
  have e8 : a3.eval (.tmp 8) = fullT x (μ 3) := by rw [← ha3]; exact eval_put_same _ _ (by omega)
  have e7' : a3.eval (.tmp 7) = v1 := by rw [← ha3, eval_put_ne _ _ (by decide)]; exact e7
  show wpList _ _ _ _ (a2.put (some 8) (fullT x (μ 3))) w1
  rw [ha3]
  refine wpList_plain rfl fun K hK => ?_
  unfold Oper.wp
  rw [exec_call ent_del a3 w1 rfl]
  simp only [List.map_toArray, List.map_cons, List.map_nil]
  show Calls _ _ #[a3.eval (.tmp 7), a3.eval (.tmp 8)] w1 _
  rw [e7', e8]
  refine hdel.mono ?_
  rintro e w' ⟨v, rfl, R', q1, q2, q3, q4⟩
  refine hK _ _ ?_
  obtain ⟨a4, ha4⟩ : ∃ a4, a3.put (some 9) v = a4 := ⟨_, rfl⟩
  have e9 : a4.eval (.tmp 9) = v := by rw [← ha4]; exact eval_put_same _ _ (by omega)
  rw [ha4]
  refine wpList_plain rfl fun K hK => ?_
  unfold Oper.wp
  simp only [execOp, Result.andThen, Sem.run_pure, e9]
  refine hK _ _ (wpList_nil ?_)
  show ∃ st' R' μ', _
  have hsb : Step base R w R' w' := ⟨q2.below.mono hr.base, q2.mono, fun b o h1 h2 => hr.base b (q2.new b o h1 h2), q2.cells⟩
  have h1 := hr.step hsb q2.below.below.block q2.new q3
  have hact := act_fresh hr q2 q4
  have n0 := h1.put (dst := some 5) (v := v) (act := .fresh tVr) (.d _ _ q1) hact
  have n1 := n0.put (dst := some 6) (v := a.eval (.tmp 0)) (act := .no) (.undef _) trivial
  have n2 := n1.put (dst := some 7) (v := v1) (act := .no) (.undef _) trivial
  have n3 := n2.put (dst := some 8) (v := fullT x (μ 3)) (act := .no) (.undef _) trivial
  have n4 := n3.put (dst := some 9) (v := v) (act := .no) (.undef _) trivial
  rw [put_two a (i := 5) (j := 6) _ _ (by decide), put_two _ (i := 5) (j := 7) _ _ (by decide), put_two _ (i := 5) (j := 8) _ _ (by decide), put_two _ (i := 5) (j := 9) _ _ (by decide), ha1, ha2, ha3, ha4] at n4
  exact ⟨_, R', μ, h, n4, hsb⟩
theorem added_ok : AddC G := by
  intro sc x hl
  refine CS.of_SWK Tryd.func43 rfl Tryd.ntmps43 rfl ?_
  refine SW.seqq (SW.vk ?_)
  simp [vrC]
  refine SW.seqq (SW_added hl rfl rfl rfl rfl ?_)
  simp
  refine SW.vk ?_
  have hfl : (sc.filter fun y => !decide (y.1 = x.1)).length ≤ sc.length := List.length_filter_le _ _
  simp
  refine stepK_len (by omega) ?_
  simp [addVr, vrC]
end Go.Proofs.YtmjpdmkgmlhfaaaDoor
