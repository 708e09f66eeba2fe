/- The abstract machine: statements walked by hand between the machine's; a row that is made and filled by copying. No condition. -/
import Derived.Test.YtcmpodbjhoeblaaDoorZ6
import Derived.Laws.CopyRow
import Derived.Laws.MakeOwn
import Derived.RangeFuncOwn
set_option linter.unusedVariables false
set_option linter.unusedSimpArgs false
set_option linter.unusedSectionVars false
namespace Go.VM
open Go Go.RowKit
section
variable {P : Program} {G : GT} {st : St} {Q : Exit → St → Prop}
theorem SW.seqq {x y : Code} (h : SW P G x st fun e s => match e with
    | .normal => SW P G y s Q
    | e => Q e s) : SW P G (.seq x y) st Q := fun base R μ a w hr =>
  wp_seq (wp_mono (h base R μ a w hr) fun e a1 w1 ⟨s, R1, μ1, q1, q2, q3⟩ => by
    cases e with
    | normal => exact wp_mono (q1 base R1 μ1 a1 w1 q2) fun e2 a2 w2 ⟨s2, R2, μ2, p1, p2, p3⟩ => ⟨s2, R2, μ2, p1, p2, q3.trans p3⟩
    | _ => exact ⟨s, R1, μ1, q1, q2, q3⟩)
theorem SW.vk {c : Code} (h : VK P G [.code c] .normal st Q) : SW P G c st Q := VW_ok _ _ _ (VW_of_VK h)
theorem CS.of_SWK {f : FuncId} {fn : Func} {c : Code} {n : Nat} {ds : List D} {r : DV} {own : Option TypeId} (hf : P.funcs[f]? = some fn) (hb : fn.body = some c) (hn : fn.ntmps = n) {rs : List ResultVar} (hrs : fn.results.toList = rs)
    (h : SW P G c (initSt ds n) fun e s => (e = .normal ∨ e = .ret) ∧ resOk (vres P s rs) r ∧ ownOk s rs own) : CS P G f ds r own := by
  subst hrs
  intro w R args hg hR hl hv
  refine calls_of_wp hf hb ?_
  have hrel := Rel.init (P := P) (G := G) fn hg hR hl hv
  rw [← hn] at h
  refine wp_mono (h (From w.heap.size) R _ _ w hrel) fun e a' w' ⟨s, R', μ', ⟨he, hres, hown⟩, hr', hs⟩ => ?_
  obtain ⟨r0, hres, hwk⟩ := resOk_spec hres
  obtain ⟨v, hv1, hv2⟩ := vres_ok hr' hres
  have hpost : a'.defers = [] ∧ ∃ v, (results fn a'.tmps).run P w' = .ok v w' ∧ ∃ v' R', Ending.returned v = .returned v' ∧ (∀ μ, TV R' μ w' v' r) ∧ Step (From w.heap.size) R w R' w' ∧ (∀ b o, R' b o → b < w'.heap.size) ∧ (∀ e, own = some e → OwnSl P (From w.heap.size) R' w' e v') :=
    ⟨hr'.defers, v, hv1, v, R', rfl, fun μ => (hv2 μ).wk hwk, hs, hr'.rset, fun e he' => by
      subst he'
      exact ownOk_ok hr' hown hv1⟩
  rcases he with rfl | rfl
  · exact hpost
  · exact hpost
theorem eval_put_same (a : Act) {d : Nat} (v : Value) (h : d < a.tmps.size) : (a.put (some d) v).eval (.tmp d) = v := by
  simp [Act.put, Act.eval, h]
theorem eval_put_ne (a : Act) {d x : Nat} (v : Value) (h : x ≠ d) : (a.put (some d) v).eval (.tmp x) = a.eval (.tmp x) := by
  simp [Act.put, Act.eval, Array.getElem?_setIfInBounds, Ne.symm h]
theorem size_put (a : Act) (d : Option Tmp) (v : Value) : (a.put d v).tmps.size = a.tmps.size := by
  cases d <;> simp [Act.put]
/-- A row that lies new, all its cells written: as if it had been laid so. -/
theorem setRow_alloc (w : World) (z cs : Array Value) (e : TypeId) : (w.alloc (.cells z e)).setRow w.heap.size cs = w.alloc (.cells cs e) := by
  unfold World.setRow World.alloc
  cases w with
  | mk heap tape drawn os output =>
    simp only
    congr 1
    apply Array.ext
    · simp
    · intro k h1 h2
      simp only [Array.getElem_modify, Array.getElem_push]
      split
      · rename_i hk
        subst hk
        simp
      · rename_i hk
        have hk2 : k < heap.size := by simp at h2; omega
        simp [hk2]
theorem run_copy_rows (w : World) (dT sT ty elem : TypeId) (g n dCap : Nat) (ad : Option Addr) (sCap : Nat) (cur : Array Value) (t : TypeId) (cs : List Value) (i : TypeInfo)
    (hu : P.underlying dT = some (.slice elem)) (hi : P.info? elem = some i) (hg : w.heap[g]? = some (.cells cur t (0, 0))) (hn : cs.length = n * i.size)
    (hsrc : n ≠ 0 → ∃ b, ad = some b ∧ ∀ j v, cs[j]? = some v → w.cell? (b.add j) = some v) (hfit : cs.length = cur.size) (h1 : ∀ v ∈ cs, v.oneCell' = true) :
    (Builtin.copy_ #[dT, sT] ty #[.slice (some ⟨g, 0, none⟩) n dCap, .slice ad n sCap]).run P w = .ok (goInt n) (w.setRow g cs.toArray) := by
  by_cases h0 : n = 0
  · subst h0
    have hcs : cs = [] := List.eq_nil_of_length_eq_zero (by simpa using hn)
    subst hcs
    have hcur : cur = #[] := Array.eq_empty_of_size_eq_zero (by simpa using hfit.symm)
    subst hcur
    have hself := setRow_self w g #[] t (0, 0) hg
    cases ad <;> simp [Builtin.copy_, run_underlying hu, Builtin.lenOf, Builtin.firstCells, sizeOf, typeInfo, hi, storeCells, loadCells, loadCellsFrom, hself]
  · obtain ⟨b, rfl, hsrc2⟩ := hsrc h0
    have hl := run_loadCells_list (P := P) w b cs hsrc2
    have hst := run_storeCells_at P g 0 t cs 0 cur w hg (by omega) h1
    have e1 : cur.toList.take (0 + 0) ++ cs ++ cur.toList.drop (0 + 0 + cs.length) = cs := by
      rw [hfit]
      simp
    rw [e1] at hst
    simp [Builtin.copy_, run_underlying hu, Builtin.lenOf, Builtin.firstCells, sizeOf, typeInfo, hi, ← hn, hl, hst]
theorem run_make_n {t e : TypeId} {i : TypeInfo} {z : Value} (ht : P.underlying t = some (.slice e)) (hi : P.info? e = some i) (hz : i.zero = some z) (n : Nat) (hb : i.bytes * n ≤ 281474976710656) (h63 : n ≤ 9223372036854775807) (w : World) :
    (Instr.makeSlice t (.int .i64 (n : Int)) (.int .i64 (n : Int))).run P w = .ok (.slice (some ⟨w.heap.size, 0, none⟩) n n) (w.alloc (.cells (madeCells z.cells (n * i.size)) e)) := by
  have hb : (i.bytes : Int) * (n : Int) ≤ 281474976710656 := by
    have h : ((i.bytes * n : Nat) : Int) ≤ 281474976710656 := by omega
    rwa [Int.natCast_mul] at h
  have hr := run_make (P := P) w t e i z ht hi hz .i64 .i64 n n (by omega) (by omega) hb (by omega)
  simp only [Int.toNat_natCast] at hr
  exact hr
end
section
variable {P : Program} {G : GT} {st : St} {Q : Exit → St → Prop}
/-- What the temporaries hold behind 'x := make([]T, len(y)); copy(x, y)'. -/
abbrev mkSt (st : St) (es : List (List D)) (t1 t2 t3 t4 t5 t6 t7 : Nat) : St :=
  finish (finish (finish (finish (finish (finish (finish st (some t1) .undef .no) (some t2) .undef .no) (some t3) .undef .no) (some t4) (.d (.sl es)) .no) (some t5) .undef .no) (some t6) .undef .no) (some t7) .undef .no
theorem SW_makecopy {t e : TypeId} {es : List (List D)} {s t1 t2 t3 t4 t5 t6 t7 : Nat} {i1 i2 : Nat} {y1 y2 y3 y4 y5 y6 y7 : TypeId} {p1 p2 p3 p4 p5 p6 p7 : String} {f1 f2 f3 f4 f5 f6 f7 : Array Edge} {rest : Code}
    (hu : P.underlying t = some (.slice e)) (hok : elemOk P e = true) (hs : st.eval G (.tmp s) = .d (.sl es)) (hall : (es.all fun c => c.length == P.cellsOf e) = true) (hbd : es.length * (P.bytesOf e + 1) ≤ 140737488355328)
    (hlt : (t1 < st.tmps.length ∧ t2 < st.tmps.length ∧ t3 < st.tmps.length ∧ t4 < st.tmps.length) ∧ t5 < st.tmps.length ∧ t6 < st.tmps.length ∧ t7 < st.tmps.length)
    (hne : (s ≠ t1 ∧ s ≠ t2 ∧ s ≠ t3 ∧ s ≠ t4 ∧ s ≠ t5) ∧ (t4 ≠ t5 ∧ t5 ≠ t6))
    (h : SW P G rest (mkSt st es t1 t2 t3 t4 t5 t6 t7) Q) :
    SW P G (.seq (.region i1 #[⟨some t1, .move (.tmp s), y1, p1, f1, none⟩, ⟨some t2, .call { callee := .builtin .len, args := #[.tmp t1], argTypes := #[t] }, y2, p2, f2, none⟩, ⟨some t3, .makeSlice t (.tmp t2) (.tmp t2), y3, p3, f3, none⟩, ⟨some t4, .assign (.tmp t3), y4, p4, f4, none⟩] false)
      (.seq (.region i2 #[⟨some t5, .move (.tmp t4), y5, p5, f5, none⟩, ⟨some t6, .move (.tmp s), y6, p6, f6, none⟩, ⟨some t7, .call { callee := .builtin .copy, args := #[.tmp t5, .tmp t6], argTypes := #[t, t] }, y7, p7, f7, none⟩] false) rest)) st Q := by
  intro base R μ a w hr
  obtain ⟨⟨l1, l2, l3, l4⟩, l5, l6, l7⟩ := hlt
  obtain ⟨⟨n1, n2, n3, n4, n5⟩, n6, n7⟩ := hne
  obtain ⟨ti, z, hi, hsize, hbytes, hpos, hz, hzs⟩ := elemOk_spec hok
  have hsz := hr.size
  rw [← hsz] at l1 l2 l3 l4 l5 l6 l7
  obtain ⟨ao, cap, hv, hrun⟩ := asSl_spec (ys := es) hr (by rw [hs]; rfl)
  have hlen : ∀ c ∈ es, c.length = P.cellsOf e := fun c hc => by simpa using List.all_eq_true.1 hall c hc
  -- the cells that are copied
  obtain ⟨cs, c1, c2, c3, c4⟩ : ∃ cs : List Value, cs.length = es.length * P.cellsOf e ∧ (es.length ≠ 0 → ∃ b, ao = some b ∧ ∀ (j : Nat) (v : Value), cs[j]? = some v → w.cell? (b.add j) = some v) ∧ (∀ v ∈ cs, v.oneCell' = true) ∧
      ∀ (i j : Nat) (c : List D) (d : D), es[i]? = some c → c[j]? = some d → d.one = true ∧ ∃ v, cs[i * P.cellsOf e + j]? = some v ∧ V R w v d := by
    by_cases h0 : es = []
    · subst h0
      exact ⟨[], by simp, fun h => absurd rfl h, by simp, by simp⟩
    · obtain ⟨b, off, size, rfl, q1, q2, q3⟩ := hrun h0
      have hsz2 : size = P.cellsOf e := by
        cases es with
        | nil => exact absurd rfl h0
        | cons c l => rw [← q2 c (.head _), hlen c (.head _)]
      subst hsz2
      obtain ⟨news, m1, m2, m3, m4⟩ := rowCells q2 q3
      exact ⟨news, m1, fun _ => ⟨_, rfl, m2⟩, m3, m4⟩
  have hb1 : es.length ≤ 140737488355328 := by rw [Nat.mul_add] at hbd; omega
  have hb2 : ti.bytes * es.length ≤ 281474976710656 := by rw [hbytes, Nat.mul_comm]; rw [Nat.mul_add] at hbd; omega
  have hmk := fun w => run_make_n (P := P) hu hi hz es.length hb2 (by omega) w
  -- the new row
  have hN := hr.newRow (w1 := w) (.inl rfl) (e := e) (cs := cs.toArray) (es := es) (n := es.length) (cap := es.length) (by simpa using c1) hpos rfl (Nat.le_refl _) (by unfold maxLen; omega) hlen (fun i j c d hi hj => by
    obtain ⟨k1, v, k2, k3⟩ := c4 i j c d hi hj
    exact ⟨k1, v, by simpa using k2, k3⟩)
  obtain ⟨N1, N2, N3, _⟩ := hN
  have hcell : ∀ (b : Addr) (j : Nat) (v : Value), w.cell? (b.add j) = some v → (w.alloc (.cells (madeCells z.cells (es.length * ti.size)) e)).cell? (b.add j) = some v := fun b j v hc => by
    obtain ⟨o, ho, _⟩ := cells_of_cell hc
    exact (World.cell?_of_block (Below.heap_alloc w _ _ (Array.getElem?_eq_some_iff.1 ho).1)).trans hc
  have hcp := run_copy_rows (P := P) (w.alloc (.cells (madeCells z.cells (es.length * ti.size)) e)) t t y7 e w.heap.size es.length es.length ao cap (madeCells z.cells (es.length * ti.size)) e cs ti hu hi (heap_alloc_new w _) (by rw [c1, hsize]) (fun h0 => by
    obtain ⟨b, q1, q2⟩ := c2 h0
    exact ⟨b, q1, fun j v hj => hcell b j v (q2 j v hj)⟩) (by rw [c1, hsize]; simp [madeCells]) c3
  rw [setRow_alloc] at hcp
  have hfin : ∀ (v1 v2 v3 v5 v6 v7 : Value), ∃ R', Rel P G base R' μ (mkSt st es t1 t2 t3 t4 t5 t6 t7) (((((((a.put (some t1) v1).put (some t2) v2).put (some t3) v3).put (some t4) (.slice (some ⟨w.heap.size, 0, none⟩) es.length es.length)).put (some t5) v5).put (some t6) v6).put (some t7) v7) (w.alloc (.cells cs.toArray e)) ∧ Step base R w R' (w.alloc (.cells cs.toArray e)) := by
    intro v1 v2 v3 v5 v6 v7
    refine ⟨_, ?_, N2⟩
    have h1 := N1.put (dst := some t1) (act := .no) (.undef v1) trivial
    have h2 := h1.put (dst := some t2) (act := .no) (.undef v2) trivial
    have h3 := h2.put (dst := some t3) (act := .no) (.undef v3) trivial
    have h4 := h3.put (dst := some t4) (act := .no) (.d _ _ N3) trivial
    have h5 := h4.put (dst := some t5) (act := .no) (.undef v5) trivial
    have h6 := h5.put (dst := some t6) (act := .no) (.undef v6) trivial
    exact h6.put (dst := some t7) (act := .no) (.undef v7) trivial
  refine wp_seq (wp_region_list ?_)
  refine wpList_plain rfl fun K hK => ?_
  unfold Oper.wp
  simp only [execOp, Result.andThen, Sem.run_pure]
  refine hK _ _ ?_
  refine wpList_plain rfl fun K hK => ?_
  unfold Oper.wp
  simp [execOp, resolve, invoke, builtin, Builtin.len_, run_underlying hu, eval_put_same _ _ l1, hv, Result.andThen]
  refine hK _ _ ?_
  generalize hX : a.put (some t1) (.slice ao es.length cap) = a1
  have z1 : a1.tmps.size = a.tmps.size := by rw [← hX]; exact size_put _ _ _
  have b1 : a1.eval (.tmp s) = .slice ao es.length cap := by rw [← hX, eval_put_ne _ _ n1]; exact hv
  refine wpList_plain rfl fun K hK => ?_
  unfold Oper.wp
  simp [execOp, eval_put_same a1 (.int .i64 es.length) (z1.symm ▸ l2), goInt, hmk, Result.andThen]
  refine hK _ _ ?_
  generalize hX2 : a1.put (some t2) (.int .i64 es.length) = a2
  have z2 : a2.tmps.size = a.tmps.size := by rw [← hX2, size_put]; exact z1
  have b2 : a2.eval (.tmp s) = .slice ao es.length cap := by rw [← hX2, eval_put_ne _ _ n2]; exact b1
  refine wpList_plain rfl fun K hK => ?_
  unfold Oper.wp
  simp [execOp, eval_put_same a2 (.slice (some ⟨w.heap.size, 0, none⟩) es.length es.length) (z2.symm ▸ l3), Result.andThen]
  refine hK _ _ ?_
  generalize hX3 : a2.put (some t3) (.slice (some ⟨w.heap.size, 0, none⟩) es.length es.length) = a3
  have z3 : a3.tmps.size = a.tmps.size := by rw [← hX3, size_put]; exact z2
  have b3 : a3.eval (.tmp s) = .slice ao es.length cap := by rw [← hX3, eval_put_ne _ _ n3]; exact b2
  refine wpList_nil ?_
  show Code.wp _ _ _ _ _
  refine wp_seq (wp_region_list ?_)
  generalize hX4 : a3.put (some t4) (.slice (some ⟨w.heap.size, 0, none⟩) es.length es.length) = a4
  have z4 : a4.tmps.size = a.tmps.size := by rw [← hX4, size_put]; exact z3
  have b4 : a4.eval (.tmp s) = .slice ao es.length cap := by rw [← hX4, eval_put_ne _ _ n4]; exact b3
  have d4 : a4.eval (.tmp t4) = .slice (some ⟨w.heap.size, 0, none⟩) es.length es.length := by rw [← hX4]; exact eval_put_same _ _ (z3.symm ▸ l4)
  refine wpList_plain rfl fun K hK => ?_
  unfold Oper.wp
  simp [execOp, d4, Result.andThen]
  refine hK _ _ ?_
  generalize hX5 : a4.put (some t5) (.slice (some ⟨w.heap.size, 0, none⟩) es.length es.length) = a5
  have z5 : a5.tmps.size = a.tmps.size := by rw [← hX5, size_put]; exact z4
  have b5 : a5.eval (.tmp s) = .slice ao es.length cap := by rw [← hX5, eval_put_ne _ _ n5]; exact b4
  have d5 : a5.eval (.tmp t5) = .slice (some ⟨w.heap.size, 0, none⟩) es.length es.length := by rw [← hX5]; exact eval_put_same _ _ (z4.symm ▸ l5)
  refine wpList_plain rfl fun K hK => ?_
  unfold Oper.wp
  simp [execOp, b5, Result.andThen]
  refine hK _ _ ?_
  generalize hX6 : a5.put (some t6) (.slice ao es.length cap) = a6
  have z6 : a6.tmps.size = a.tmps.size := by rw [← hX6, size_put]; exact z5
  have d6 : a6.eval (.tmp t5) = .slice (some ⟨w.heap.size, 0, none⟩) es.length es.length := by rw [← hX6, eval_put_ne _ _ n7]; exact d5
  have b6 : a6.eval (.tmp t6) = .slice ao es.length cap := by rw [← hX6]; exact eval_put_same _ _ (z5.symm ▸ l6)
  refine wpList_plain rfl fun K hK => ?_
  unfold Oper.wp
  simp [execOp, resolve, invoke, builtin, d6, b6, hcp, Result.andThen]
  refine hK _ _ ?_
  refine wpList_nil ?_
  show Code.wp _ _ _ _ _
  subst hX6 hX5 hX4 hX3 hX2 hX
  obtain ⟨R', hr', hs'⟩ := hfin (.slice ao es.length cap) (.int .i64 es.length) (.slice (some ⟨w.heap.size, 0, none⟩) es.length es.length) (.slice (some ⟨w.heap.size, 0, none⟩) es.length es.length) (.slice ao es.length cap) (goInt es.length)
  refine wp_mono (h base R' μ _ _ hr') fun e2 a2 w2 ⟨s2, R2, μ2, p1, p2, p3⟩ => ⟨s2, R2, μ2, p1, p2, hs'.trans p3⟩
end
end Go.VM
