/- Joined texts. The abstract machine: statements walked by hand between the machine's; a row that is made and filled by copying. The abstract machine: a region whose last operations append a zero element, and write it. The abstract machine: a zero element is appended, and then written. The abstract machine: 'x = append(x, T{..})' in a region whose order is drawn; loops and blocks walked by hand. The abstract machine: one operation of a region that is walked by hand; '&' of integers. The abstract machine: a struct that is built and stored in a region whose order is drawn: a slice in it stays owned. No condition. -/
import Derived.Test.YtbacejmdgfalpaaDoorZ6
import Derived.Laws.CopyRow
import Derived.Laws.MakeOwn
import Derived.RangeFuncOwn
section
set_option linter.unusedVariables false
set_option linter.unusedSimpArgs false
set_option linter.unusedSectionVars false
namespace Go.VM
open Go Go.RowKit
section
variable {P : Program} {G : GT} {st : St} {Q : Exit → St → Prop}
theorem SW.seqq {x y : Code} (h : SW P G x st fun e s => match e with
    | .normal => SW P G y s Q
    | e => Q e s) : SW P G (.seq x y) st Q := fun base R μ a w hr =>
  wp_seq (wp_mono (h base R μ a w hr) fun e a1 w1 ⟨s, R1, μ1, q1, q2, q3⟩ => by
    cases e with
    | normal => exact wp_mono (q1 base R1 μ1 a1 w1 q2) fun e2 a2 w2 ⟨s2, R2, μ2, p1, p2, p3⟩ => ⟨s2, R2, μ2, p1, p2, q3.trans p3⟩
    | _ => exact ⟨s, R1, μ1, q1, q2, q3⟩)
theorem SW.vk {c : Code} (h : VK P G [.code c] .normal st Q) : SW P G c st Q := VW_ok _ _ _ (VW_of_VK h)
theorem CS.of_SWK {f : FuncId} {fn : Func} {c : Code} {n : Nat} {ds : List D} {r : DV} {own : Option TypeId} (hf : P.funcs[f]? = some fn) (hb : fn.body = some c) (hn : fn.ntmps = n) {rs : List ResultVar} (hrs : fn.results.toList = rs)
    (h : SW P G c (initSt ds n) fun e s => (e = .normal ∨ e = .ret) ∧ resOk (vres P s rs) r ∧ ownOk s rs own) : CS P G f ds r own := by
  subst hrs
  intro w R args hg hR hl hv
  refine calls_of_wp hf hb ?_
  have hrel := Rel.init (P := P) (G := G) fn hg hR hl hv
  rw [← hn] at h
  refine wp_mono (h (From w.heap.size) R _ _ w hrel) fun e a' w' ⟨s, R', μ', ⟨he, hres, hown⟩, hr', hs⟩ => ?_
  obtain ⟨r0, hres, hwk⟩ := resOk_spec hres
  obtain ⟨v, hv1, hv2⟩ := vres_ok hr' hres
  have hpost : a'.defers = [] ∧ ∃ v, (results fn a'.tmps).run P w' = .ok v w' ∧ ∃ v' R', Ending.returned v = .returned v' ∧ (∀ μ, TV R' μ w' v' r) ∧ Step (From w.heap.size) R w R' w' ∧ (∀ b o, R' b o → b < w'.heap.size) ∧ (∀ e, own = some e → OwnSl P (From w.heap.size) R' w' e v') :=
    ⟨hr'.defers, v, hv1, v, R', rfl, fun μ => (hv2 μ).wk hwk, hs, hr'.rset, fun e he' => by
      subst he'
      exact ownOk_ok hr' hown hv1⟩
  rcases he with rfl | rfl
  · exact hpost
  · exact hpost
theorem eval_put_same (a : Act) {d : Nat} (v : Value) (h : d < a.tmps.size) : (a.put (some d) v).eval (.tmp d) = v := by
  simp [Act.put, Act.eval, h]
theorem eval_put_ne (a : Act) {d x : Nat} (v : Value) (h : x ≠ d) : (a.put (some d) v).eval (.tmp x) = a.eval (.tmp x) := by
  simp [Act.put, Act.eval, Array.getElem?_setIfInBounds, Ne.symm h]
theorem size_put (a : Act) (d : Option Tmp) (v : Value) : (a.put d v).tmps.size = a.tmps.size := by
  cases d <;> simp [Act.put]
/-- A row that lies new, all its cells written: as if it had been laid so. -/
theorem setRow_alloc (w : World) (z cs : Array Value) (e : TypeId) : (w.alloc (.cells z e)).setRow w.heap.size cs = w.alloc (.cells cs e) := by
  unfold World.setRow World.alloc
  cases w with
  | mk heap tape drawn os output =>
    simp only
    congr 1
    apply Array.ext
    · simp
    · intro k h1 h2
      simp only [Array.getElem_modify, Array.getElem_push]
      split
      · rename_i hk
        subst hk
        simp
      · rename_i hk
        have hk2 : k < heap.size := by simp at h2; omega
        simp [hk2]
theorem run_copy_rows (w : World) (dT sT ty elem : TypeId) (g n dCap : Nat) (ad : Option Addr) (sCap : Nat) (cur : Array Value) (t : TypeId) (cs : List Value) (i : TypeInfo)
    (hu : P.underlying dT = some (.slice elem)) (hi : P.info? elem = some i) (hg : w.heap[g]? = some (.cells cur t (0, 0))) (hn : cs.length = n * i.size)
    (hsrc : n ≠ 0 → ∃ b, ad = some b ∧ ∀ j v, cs[j]? = some v → w.cell? (b.add j) = some v) (hfit : cs.length = cur.size) (h1 : ∀ v ∈ cs, v.oneCell' = true) :
    (Builtin.copy_ #[dT, sT] ty #[.slice (some ⟨g, 0, none⟩) n dCap, .slice ad n sCap]).run P w = .ok (goInt n) (w.setRow g cs.toArray) := by
  by_cases h0 : n = 0
  · subst h0
    have hcs : cs = [] := List.eq_nil_of_length_eq_zero (by simpa using hn)
    subst hcs
    have hcur : cur = #[] := Array.eq_empty_of_size_eq_zero (by simpa using hfit.symm)
    subst hcur
    have hself := setRow_self w g #[] t (0, 0) hg
    cases ad <;> simp [Builtin.copy_, run_underlying hu, Builtin.lenOf, Builtin.firstCells, sizeOf, typeInfo, hi, storeCells, loadCells, loadCellsFrom, hself]
  · obtain ⟨b, rfl, hsrc2⟩ := hsrc h0
    have hl := run_loadCells_list (P := P) w b cs hsrc2
    have hst := run_storeCells_at P g 0 t cs 0 cur w hg (by omega) h1
    have e1 : cur.toList.take (0 + 0) ++ cs ++ cur.toList.drop (0 + 0 + cs.length) = cs := by
      rw [hfit]
      simp
    rw [e1] at hst
    simp [Builtin.copy_, run_underlying hu, Builtin.lenOf, Builtin.firstCells, sizeOf, typeInfo, hi, ← hn, hl, hst]
theorem run_make_n {t e : TypeId} {i : TypeInfo} {z : Value} (ht : P.underlying t = some (.slice e)) (hi : P.info? e = some i) (hz : i.zero = some z) (n : Nat) (hb : i.bytes * n ≤ 281474976710656) (h63 : n ≤ 9223372036854775807) (w : World) :
    (Instr.makeSlice t (.int .i64 (n : Int)) (.int .i64 (n : Int))).run P w = .ok (.slice (some ⟨w.heap.size, 0, none⟩) n n) (w.alloc (.cells (madeCells z.cells (n * i.size)) e)) := by
  have hb : (i.bytes : Int) * (n : Int) ≤ 281474976710656 := by
    have h : ((i.bytes * n : Nat) : Int) ≤ 281474976710656 := by omega
    rwa [Int.natCast_mul] at h
  have hr := run_make (P := P) w t e i z ht hi hz .i64 .i64 n n (by omega) (by omega) hb (by omega)
  simp only [Int.toNat_natCast] at hr
  exact hr
end
section
variable {P : Program} {G : GT} {st : St} {Q : Exit → St → Prop}
/-- What the temporaries hold behind 'x := make([]T, len(y)); copy(x, y)'. -/
abbrev mkSt (st : St) (es : List (List D)) (t1 t2 t3 t4 t5 t6 t7 : Nat) : St :=
  finish (finish (finish (finish (finish (finish (finish st (some t1) .undef .no) (some t2) .undef .no) (some t3) .undef .no) (some t4) (.d (.sl es)) .no) (some t5) .undef .no) (some t6) .undef .no) (some t7) .undef .no
theorem SW_makecopy {t e : TypeId} {es : List (List D)} {s t1 t2 t3 t4 t5 t6 t7 : Nat} {i1 i2 : Nat} {y1 y2 y3 y4 y5 y6 y7 : TypeId} {p1 p2 p3 p4 p5 p6 p7 : String} {f1 f2 f3 f4 f5 f6 f7 : Array Edge} {rest : Code}
    (hu : P.underlying t = some (.slice e)) (hok : elemOk P e = true) (hs : st.eval G (.tmp s) = .d (.sl es)) (hall : (es.all fun c => c.length == P.cellsOf e) = true) (hbd : es.length * (P.bytesOf e + 1) ≤ 140737488355328)
    (hlt : (t1 < st.tmps.length ∧ t2 < st.tmps.length ∧ t3 < st.tmps.length ∧ t4 < st.tmps.length) ∧ t5 < st.tmps.length ∧ t6 < st.tmps.length ∧ t7 < st.tmps.length)
    (hne : (s ≠ t1 ∧ s ≠ t2 ∧ s ≠ t3 ∧ s ≠ t4 ∧ s ≠ t5) ∧ (t4 ≠ t5 ∧ t5 ≠ t6))
    (h : SW P G rest (mkSt st es t1 t2 t3 t4 t5 t6 t7) Q) :
    SW P G (.seq (.region i1 #[⟨some t1, .move (.tmp s), y1, p1, f1, none⟩, ⟨some t2, .call { callee := .builtin .len, args := #[.tmp t1], argTypes := #[t] }, y2, p2, f2, none⟩, ⟨some t3, .makeSlice t (.tmp t2) (.tmp t2), y3, p3, f3, none⟩, ⟨some t4, .assign (.tmp t3), y4, p4, f4, none⟩] false)
      (.seq (.region i2 #[⟨some t5, .move (.tmp t4), y5, p5, f5, none⟩, ⟨some t6, .move (.tmp s), y6, p6, f6, none⟩, ⟨some t7, .call { callee := .builtin .copy, args := #[.tmp t5, .tmp t6], argTypes := #[t, t] }, y7, p7, f7, none⟩] false) rest)) st Q := by
  intro base R μ a w hr
  obtain ⟨⟨l1, l2, l3, l4⟩, l5, l6, l7⟩ := hlt
  obtain ⟨⟨n1, n2, n3, n4, n5⟩, n6, n7⟩ := hne
  obtain ⟨ti, z, hi, hsize, hbytes, hpos, hz, hzs⟩ := elemOk_spec hok
  have hsz := hr.size
  rw [← hsz] at l1 l2 l3 l4 l5 l6 l7
  obtain ⟨ao, cap, hv, hrun⟩ := asSl_spec (ys := es) hr (by rw [hs]; rfl)
  have hlen : ∀ c ∈ es, c.length = P.cellsOf e := fun c hc => by simpa using List.all_eq_true.1 hall c hc
  -- the cells that are copied
  obtain ⟨cs, c1, c2, c3, c4⟩ : ∃ cs : List Value, cs.length = es.length * P.cellsOf e ∧ (es.length ≠ 0 → ∃ b, ao = some b ∧ ∀ (j : Nat) (v : Value), cs[j]? = some v → w.cell? (b.add j) = some v) ∧ (∀ v ∈ cs, v.oneCell' = true) ∧
      ∀ (i j : Nat) (c : List D) (d : D), es[i]? = some c → c[j]? = some d → d.one = true ∧ ∃ v, cs[i * P.cellsOf e + j]? = some v ∧ V R w v d := by
    by_cases h0 : es = []
    · subst h0
      exact ⟨[], by simp, fun h => absurd rfl h, by simp, by simp⟩
    · obtain ⟨b, off, size, rfl, q1, q2, q3⟩ := hrun h0
      have hsz2 : size = P.cellsOf e := by
        cases es with
        | nil => exact absurd rfl h0
        | cons c l => rw [← q2 c (.head _), hlen c (.head _)]
      subst hsz2
      obtain ⟨news, m1, m2, m3, m4⟩ := rowCells q2 q3
      exact ⟨news, m1, fun _ => ⟨_, rfl, m2⟩, m3, m4⟩
  have hb1 : es.length ≤ 140737488355328 := by rw [Nat.mul_add] at hbd; omega
  have hb2 : ti.bytes * es.length ≤ 281474976710656 := by rw [hbytes, Nat.mul_comm]; rw [Nat.mul_add] at hbd; omega
  have hmk := fun w => run_make_n (P := P) hu hi hz es.length hb2 (by omega) w
  -- the new row
  have hN := hr.newRow (w1 := w) (.inl rfl) (e := e) (cs := cs.toArray) (es := es) (n := es.length) (cap := es.length) (by simpa using c1) hpos rfl (Nat.le_refl _) (by unfold maxLen; omega) hlen (fun i j c d hi hj => by
    obtain ⟨k1, v, k2, k3⟩ := c4 i j c d hi hj
    exact ⟨k1, v, by simpa using k2, k3⟩)
  obtain ⟨N1, N2, N3, _⟩ := hN
  have hcell : ∀ (b : Addr) (j : Nat) (v : Value), w.cell? (b.add j) = some v → (w.alloc (.cells (madeCells z.cells (es.length * ti.size)) e)).cell? (b.add j) = some v := fun b j v hc => by
    obtain ⟨o, ho, _⟩ := cells_of_cell hc
    exact (World.cell?_of_block (Below.heap_alloc w _ _ (Array.getElem?_eq_some_iff.1 ho).1)).trans hc
  have hcp := run_copy_rows (P := P) (w.alloc (.cells (madeCells z.cells (es.length * ti.size)) e)) t t y7 e w.heap.size es.length es.length ao cap (madeCells z.cells (es.length * ti.size)) e cs ti hu hi (heap_alloc_new w _) (by rw [c1, hsize]) (fun h0 => by
    obtain ⟨b, q1, q2⟩ := c2 h0
    exact ⟨b, q1, fun j v hj => hcell b j v (q2 j v hj)⟩) (by rw [c1, hsize]; simp [madeCells]) c3
  rw [setRow_alloc] at hcp
  have hfin : ∀ (v1 v2 v3 v5 v6 v7 : Value), ∃ R', Rel P G base R' μ (mkSt st es t1 t2 t3 t4 t5 t6 t7) (((((((a.put (some t1) v1).put (some t2) v2).put (some t3) v3).put (some t4) (.slice (some ⟨w.heap.size, 0, none⟩) es.length es.length)).put (some t5) v5).put (some t6) v6).put (some t7) v7) (w.alloc (.cells cs.toArray e)) ∧ Step base R w R' (w.alloc (.cells cs.toArray e)) := by
    intro v1 v2 v3 v5 v6 v7
    refine ⟨_, ?_, N2⟩
    have h1 := N1.put (dst := some t1) (act := .no) (.undef v1) trivial
    have h2 := h1.put (dst := some t2) (act := .no) (.undef v2) trivial
    have h3 := h2.put (dst := some t3) (act := .no) (.undef v3) trivial
    have h4 := h3.put (dst := some t4) (act := .no) (.d _ _ N3) trivial
    have h5 := h4.put (dst := some t5) (act := .no) (.undef v5) trivial
    have h6 := h5.put (dst := some t6) (act := .no) (.undef v6) trivial
    exact h6.put (dst := some t7) (act := .no) (.undef v7) trivial
  refine wp_seq (wp_region_list ?_)
  refine wpList_plain rfl fun K hK => ?_
  unfold Oper.wp
  simp only [execOp, Result.andThen, Sem.run_pure]
  refine hK _ _ ?_
  refine wpList_plain rfl fun K hK => ?_
  unfold Oper.wp
  simp [execOp, resolve, invoke, builtin, Builtin.len_, run_underlying hu, eval_put_same _ _ l1, hv, Result.andThen]
  refine hK _ _ ?_
  generalize hX : a.put (some t1) (.slice ao es.length cap) = a1
  have z1 : a1.tmps.size = a.tmps.size := by rw [← hX]; exact size_put _ _ _
  have b1 : a1.eval (.tmp s) = .slice ao es.length cap := by rw [← hX, eval_put_ne _ _ n1]; exact hv
  refine wpList_plain rfl fun K hK => ?_
  unfold Oper.wp
  simp [execOp, eval_put_same a1 (.int .i64 es.length) (z1.symm ▸ l2), goInt, hmk, Result.andThen]
  refine hK _ _ ?_
  generalize hX2 : a1.put (some t2) (.int .i64 es.length) = a2
  have z2 : a2.tmps.size = a.tmps.size := by rw [← hX2, size_put]; exact z1
  have b2 : a2.eval (.tmp s) = .slice ao es.length cap := by rw [← hX2, eval_put_ne _ _ n2]; exact b1
  refine wpList_plain rfl fun K hK => ?_
  unfold Oper.wp
  simp [execOp, eval_put_same a2 (.slice (some ⟨w.heap.size, 0, none⟩) es.length es.length) (z2.symm ▸ l3), Result.andThen]
  refine hK _ _ ?_
  generalize hX3 : a2.put (some t3) (.slice (some ⟨w.heap.size, 0, none⟩) es.length es.length) = a3
  have z3 : a3.tmps.size = a.tmps.size := by rw [← hX3, size_put]; exact z2
  have b3 : a3.eval (.tmp s) = .slice ao es.length cap := by rw [← hX3, eval_put_ne _ _ n3]; exact b2
  refine wpList_nil ?_
  show Code.wp _ _ _ _ _
  refine wp_seq (wp_region_list ?_)
  generalize hX4 : a3.put (some t4) (.slice (some ⟨w.heap.size, 0, none⟩) es.length es.length) = a4
  have z4 : a4.tmps.size = a.tmps.size := by rw [← hX4, size_put]; exact z3
  have b4 : a4.eval (.tmp s) = .slice ao es.length cap := by rw [← hX4, eval_put_ne _ _ n4]; exact b3
  have d4 : a4.eval (.tmp t4) = .slice (some ⟨w.heap.size, 0, none⟩) es.length es.length := by rw [← hX4]; exact eval_put_same _ _ (z3.symm ▸ l4)
  refine wpList_plain rfl fun K hK => ?_
  unfold Oper.wp
  simp [execOp, d4, Result.andThen]
  refine hK _ _ ?_
  generalize hX5 : a4.put (some t5) (.slice (some ⟨w.heap.size, 0, none⟩) es.length es.length) = a5
  have z5 : a5.tmps.size = a.tmps.size := by rw [← hX5, size_put]; exact z4
  have b5 : a5.eval (.tmp s) = .slice ao es.length cap := by rw [← hX5, eval_put_ne _ _ n5]; exact b4
  have d5 : a5.eval (.tmp t5) = .slice (some ⟨w.heap.size, 0, none⟩) es.length es.length := by rw [← hX5]; exact eval_put_same _ _ (z4.symm ▸ l5)
  refine wpList_plain rfl fun K hK => ?_
  unfold Oper.wp
  simp [execOp, b5, Result.andThen]
  refine hK _ _ ?_
  generalize hX6 : a5.put (some t6) (.slice ao es.length cap) = a6
  have z6 : a6.tmps.size = a.tmps.size := by rw [← hX6, size_put]; exact z5
  have d6 : a6.eval (.tmp t5) = .slice (some ⟨w.heap.size, 0, none⟩) es.length es.length := by rw [← hX6, eval_put_ne _ _ n7]; exact d5
  have b6 : a6.eval (.tmp t6) = .slice ao es.length cap := by rw [← hX6]; exact eval_put_same _ _ (z5.symm ▸ l6)
  refine wpList_plain rfl fun K hK => ?_
  unfold Oper.wp
  simp [execOp, resolve, invoke, builtin, d6, b6, hcp, Result.andThen]
  refine hK _ _ ?_
  refine wpList_nil ?_
  show Code.wp _ _ _ _ _
  subst hX6 hX5 hX4 hX3 hX2 hX
  obtain ⟨R', hr', hs'⟩ := hfin (.slice ao es.length cap) (.int .i64 es.length) (.slice (some ⟨w.heap.size, 0, none⟩) es.length es.length) (.slice (some ⟨w.heap.size, 0, none⟩) es.length es.length) (.slice ao es.length cap) (goInt es.length)
  refine wp_mono (h base R' μ _ _ hr') fun e2 a2 w2 ⟨s2, R2, μ2, p1, p2, p3⟩ => ⟨s2, R2, μ2, p1, p2, hs'.trans p3⟩
end
end Go.VM
end

section
set_option linter.unusedVariables false
set_option linter.unusedSimpArgs false
set_option linter.unusedSectionVars false
namespace Go.VM
open Go Go.RowKit

/-! ### The first operations of a region whose order is drawn -/
/-- The first k of n are listed. -/
def listedTo (k n : Nat) : Array Bool := ((List.range n).map fun j => decide (j < k)).toArray
def lexFromE (ops : Array Oper) (m : Nat) : Nat → Nat → Array Bool → Bool
  | 0, _, listed => decide (listed = listedTo m ops.size)
  | fuel + 1, k, listed => (Region.ready .any ops listed).contains k &&
    (match ops[k]? with
    | none => false
    | some oi =>
      (List.range ops.size).all fun j => j == k || listed.getD j true || reachB ops ops.size j k || (match ops[j]? with
        | some oj => oi.apart ops oj && pairOk ops oi oj
        | none => true)) &&
    lexFromE ops m fuel (k + 1) (listed.setIfInBounds k true)
/-- From number m on each operation comes behind each of the first m. -/
def tailAll (ops : Array Oper) (m : Nat) : Bool := (List.range ops.size).all fun j => decide (j < m) || (List.range m).all fun i => reachB ops ops.size j i
def lexDE (ops : Array Oper) (m : Nat) : Bool := ((newKeys ops).isEmpty || (ops.toList.all (tame ops) && decide ((newKeys ops).Nodup))) && (decide (m ≤ ops.size) && tailAll ops m) && lexFromE ops m m 0 (Array.replicate ops.size false)
section
variable {P : Program} {G : GT} {st : St}
theorem getD_listedTo {k n j : Nat} (h : (listedTo k n).getD j true = false) : k ≤ j ∧ j < n := by
  unfold listedTo at h
  rw [Array.getD_eq_getD_getElem?] at h
  by_cases hj : j < n
  · simp [hj] at h
    omega
  · simp [hj] at h
theorem tail_reach {ops : Array Oper} {m j i : Nat} {o : Oper} (h : tailAll ops m = true) (hj : m ≤ j) (ho : ops[j]? = some o) (hi : i < m) : reachB ops ops.size j i = true := by
  unfold tailAll at h
  have hjs := (Array.getElem?_eq_some_iff.1 ho).1
  have h1 := List.all_eq_true.1 h j (List.mem_range.2 hjs)
  simp only [Bool.or_eq_true, decide_eq_true_eq] at h1
  rcases h1 with h1 | h1
  · omega
  · exact List.all_eq_true.1 h1 i (List.mem_range.2 hi)
def VAnyE (P : Program) (G : GT) (ops : Array Oper) (m : Nat) (Q : St → Prop) : Nat → Array Bool → St → Prop
  | 0, listed, st => listed = listedTo m ops.size ∧ Q st
  | fuel + 1, listed, st => Region.ready .any ops listed ≠ [] ∧ ∀ i ∈ Region.ready .any ops listed, i < m ∧ match ops[i]? with
    | none => VAnyE P G ops m Q fuel (listed.setIfInBounds i true) st
    | some o => vOne P G true ops o (VAnyE P G ops m Q fuel (listed.setIfInBounds i true)) st
theorem VAnyE_ok {ops : Array Oper} {m r : Nat} {Q : St → Prop} {QQ : Exit → Act → World → Prop} : ∀ (fuel : Nat) (listed : Array Bool) (st : St), VAnyE P G ops m Q fuel listed st → ∀ (base : Base) (R : Nat → Nat → Prop) (μ : Nat → Nat) (a : Act) (w : World), Rel P G base R μ st a w →
    (∀ s a' w' R' μ', Q s → Rel P G base R' μ' s a' w' → Step base R w R' w' → wpAny P .any ops QQ r (listedTo m ops.size) a' w') → wpAny P .any ops QQ (fuel + r) listed a w
  | 0, _, st, h, base, R, μ, a, w, hr, hk => by
    rw [Nat.zero_add, h.1]
    exact hk st a w R μ h.2 hr (.refl _ _ _)
  | fuel + 1, listed, st, h, base, R, μ, a, w, hr, hk => by
    rw [show fuel + 1 + r = (fuel + r) + 1 by omega]
    refine ⟨fun h0 => absurd h0 h.1, fun i hi => ?_⟩
    have h1 := (h.2 i hi).2
    unfold wpOp
    split
    · rename_i ho
      rw [ho] at h1
      exact VAnyE_ok fuel _ st h1 base R μ a w hr hk
    · rename_i o ho
      rw [ho] at h1
      exact vOne_ok h1 hr fun s v w' R' μ' h' hr' hs' => VAnyE_ok fuel _ s h' base R' μ' _ w' hr' fun s a' w2 R2 μ2 q1 q2 q3 => hk s a' w2 R2 μ2 q1 q2 (hs'.trans q3)
theorem set_listed {listed : Array Bool} {i j : Nat} (hj : listed.getD j true = false) (hne : j ≠ i) : (listed.setIfInBounds i true).getD j true = false := by
  rw [getD_set_ne true (Ne.symm hne)]; exact hj
/-- An operation taken first. -/
theorem VAnyE_first {ops : Array Oper} {m : Nat} {Q : St → Prop} {i : Nat} {oi : Oper} (him : i < m) (hT : tailAll ops m = true) (hA : NewApart ops) (hi : ops[i]? = some oi) (hsi : (quietOp oi.op = true ∧ aloneO ops oi = false) ∨ semi oi = true) :
    ∀ (fuel : Nat) (listed : Array Bool) (st s : St), Closed ops listed →
      (∀ j oj, ops[j]? = some oj → j ≠ i → listed.getD j true = false → reachB ops ops.size j i = false → oi.apart ops oj = true ∧ pairOk ops oi oj = true) →
      i ∈ Region.ready .any ops listed → NewInv ops listed st → Eff P G ops oi st s →
      VAnyE P G ops m Q fuel (listed.setIfInBounds i true) s → VAnyE P G ops m Q (fuel + 1) listed st := by
  have low : ∀ (listed : Array Bool), Closed ops listed → i ∈ Region.ready .any ops listed → ∀ j ∈ Region.ready .any ops listed, j < m := fun listed hcl hr j hj => by
    apply Classical.byContradiction
    intro hjm
    obtain ⟨_, oj, hoj, hall⟩ := mem_ready.1 hj
    obtain ⟨hiun, _⟩ := mem_ready.1 hr
    have h1 := tail_reach hT (Nat.le_of_not_lt hjm) hoj him
    rw [reach_listed hcl hiun ops.size j fun o ho => by rw [hoj] at ho; cases ho; exact hall] at h1
    cases h1
  intro fuel
  induction fuel with
  | zero =>
    intro listed st s hcl _ hr _ hy H
    refine ⟨fun h => (by rw [h] at hr; cases hr), fun j hj => ⟨low listed hcl hr j hj, ?_⟩⟩
    by_cases hji : j = i
    · subst hji; rw [hi]; exact (vOne_eff hsi).2 ⟨s, hy, H⟩
    · exfalso
      obtain ⟨hjun, oj, hoj, hall⟩ := mem_ready.1 hj
      obtain ⟨hiun, _⟩ := mem_ready.1 hr
      have h1 := set_listed hjun hji
      rw [H.1] at h1
      have h2 := getD_listedTo h1
      have := low listed hcl hr j hj
      omega
  | succ fuel ih =>
    intro listed st s hcl hfree hr hI hy H
    refine ⟨fun h => (by rw [h] at hr; cases hr), fun j hj => ⟨low listed hcl hr j hj, ?_⟩⟩
    by_cases hji : j = i
    · subst hji; rw [hi]; exact (vOne_eff hsi).2 ⟨s, hy, H⟩
    · have h1 := (H.2 j (ready_mono hj hji)).2
      obtain ⟨hjun, oj, hoj, hall⟩ := mem_ready.1 hj
      rw [hoj] at h1 ⊢
      simp only at h1 ⊢
      obtain ⟨hiun, oi', hoi', halli⟩ := mem_ready.1 hr
      have hnot : reachB ops ops.size j i = false := reach_listed hcl hiun _ _ fun o ho => by rw [hoj] at ho; cases ho; exact hall
      obtain ⟨hap, hpo⟩ := hfree j oj hoj hji hjun hnot
      have hsj : (quietOp oj.op = true ∧ aloneO ops oj = false) ∨ semi oj = true := by
        by_cases hs : semi oj = true
        · exact .inr hs
        · refine .inl ⟨?_, ?_⟩
          · unfold pairOk at hpo
            simp only [semi, Bool.or_eq_true, Bool.and_eq_true, Bool.not_eq_true'] at hpo hs
            rcases hpo with ((((((h | h) | h) | h) | h) | h) | h) | h
            · exact h.1.2
            · exact absurd (.inl (.inl h.1.2)) hs
            · exact h.1.1.2
            · exact absurd (.inl (.inr h.2)) hs
            · exact h.1.2
            · exact absurd (.inl h.1.2) hs
            · exact absurd (.inr h.2) hs
            · exact (pure_quiet (G := G) (st := st) h.1.2).1
          · cases hx : aloneO ops oj with
            | false => rfl
            | true =>
              have hlt : i < ops.size := (Array.getElem?_eq_some_iff.1 hi).1
              rcases alone_spec hx hoj hlt (fun e => hji e.symm) with h' | h'
              · have := reach_listed hcl hjun ops.size i fun o ho => by rw [hoi'] at ho; cases ho; exact halli
                rw [h'] at this; cases this
              · rw [hnot] at h'; cases h'
      obtain ⟨s12, hu, hk⟩ := (vOne_eff hsj).1 h1
      obtain ⟨s2, e1, e2⟩ := diamond hap hpo (fun hn d hd => hI i oi d hi hn hiun hd) (fun hn d hd => hI j oj d hoj hn hjun hd) hy hu
      refine (vOne_eff hsj).2 ⟨s2, e1, ?_⟩
      refine ih (listed.setIfInBounds j true) s2 s12 (hcl.set hj) (fun k ok hk' hki hun hno => ?_) (ready_mono hr (Ne.symm hji)) (hI.step hA hoj fun k hf hn => Eff_keep e1 hf hn) e2 ?_
      · exact hfree k ok hk' hki (unlisted_set hun).2 hno
      · rw [Array.setIfInBounds_comm _ _ hji]
        exact hk
theorem VAnyE_lex {ops : Array Oper} {m : Nat} {Q : St → Prop} (hTA : tailAll ops m = true) (hA : NewApart ops) (hT : newKeys ops = [] ∨ ∀ o ∈ ops.toList, tame ops o = true) : ∀ (l : List Oper) (k : Nat) (listed : Array Bool) (st : St), k + l.length = m → (∀ j, j < l.length → l[j]? = ops[k + j]?) → Closed ops listed → NewInv ops listed st →
    lexFromE ops m l.length k listed = true → VOps P G true ops l st Q → VAnyE P G ops m Q l.length listed st
  | [], _, _, _, _, _, _, _, hB, h => ⟨by simpa [lexFromE] using hB, h⟩
  | o :: l, k, listed, st, hkm, hl, hcl, hI, hB, h => by
    have hkm2 : k < m := by simp only [List.length_cons] at hkm; omega
    have h0 : ops[k]? = some o := by simpa using (hl 0 (by simp)).symm
    simp only [List.length_cons, lexFromE, Bool.and_eq_true, h0] at hB
    obtain ⟨⟨hr, hf⟩, hB'⟩ := hB
    have hrk : k ∈ Region.ready .any ops listed := by simpa using hr
    have hnext : ∀ s, NewInv ops (listed.setIfInBounds k true) s → VOps P G true ops l s Q → VAnyE P G ops m Q l.length (listed.setIfInBounds k true) s := fun s hs h =>
      VAnyE_lex hTA hA hT l (k + 1) _ s (by simp only [List.length_cons] at hkm; omega) (fun j hj => by have := hl (j + 1) (by simpa using hj); simpa [Nat.add_assoc, Nat.add_comm 1 j] using this) (hcl.set hrk) hs hB' h
    have hspec : ∀ j oj, ops[j]? = some oj → j ≠ k → listed.getD j true = false → reachB ops ops.size j k = false → o.apart ops oj = true ∧ pairOk ops o oj = true := by
      intro j oj hj hne hun hno
      rw [List.all_eq_true] at hf
      have h1 := hf j (List.mem_range.2 (Array.getElem?_eq_some_iff.1 hj).1)
      simp only [hj, Bool.or_eq_true, beq_iff_eq, hne, false_or, hun, Bool.false_eq_true, hno, Bool.and_eq_true] at h1
      exact h1
    have only : (∀ j oj, ops[j]? = some oj → j ≠ k → listed.getD j true = false → reachB ops ops.size j k = false → False) → VAnyE P G ops m Q (l.length + 1) listed st := fun hno => by
      have low : ∀ j ∈ Region.ready .any ops listed, j < m := fun j hj => by
        apply Classical.byContradiction
        intro hjm
        obtain ⟨_, oj, hoj, hall⟩ := mem_ready.1 hj
        obtain ⟨hiun, _⟩ := mem_ready.1 hrk
        have h1 := tail_reach hTA (Nat.le_of_not_lt hjm) hoj hkm2
        rw [reach_listed hcl hiun ops.size j fun o ho => by rw [hoj] at ho; cases ho; exact hall] at h1
        cases h1
      refine ⟨fun h' => (by rw [h'] at hrk; cases hrk), fun j hj => ⟨low j hj, ?_⟩⟩
      by_cases hjk : j = k
      · subst hjk
        rw [h0]
        have hkeep : vOne P G true ops o (fun s => VOps P G true ops l s Q ∧ NewInv ops (listed.setIfInBounds j true) s) st := by
          by_cases hT0 : newKeys ops = []
          · refine vOne_mono (fun s hs => ⟨hs, fun i oi d hi hn _ hd => ?_⟩) h
            have : d ∈ newKeys ops := List.mem_filterMap.2 ⟨oi, by rw [Array.mem_toList_iff]; exact Array.mem_of_getElem? hi, by rw [if_pos hn]; exact hd⟩
            rw [hT0] at this; cases this
          · have hT := hT.resolve_left hT0
            refine vOne_mono (fun s hs => ⟨hs.1, hI.step hA h0 hs.2⟩) (vOne_keep hT0 (hT o (by rw [Array.mem_toList_iff]; exact Array.mem_of_getElem? h0)) h)
        exact vOne_mono (fun s hs => hnext s hs.2 hs.1) hkeep
      · obtain ⟨hjun, oj, hoj, hall⟩ := mem_ready.1 hj
        have hnot : reachB ops ops.size j k = false := reach_listed hcl (mem_ready.1 hrk).1 _ _ fun o' ho' => by rw [hoj] at ho'; cases ho'; exact hall
        exact (hno j oj hoj hjk hjun hnot).elim
    by_cases hs : (quietOp o.op = true ∧ aloneO ops o = false) ∨ semi o = true
    · obtain ⟨s, hd, hk⟩ := (vOne_eff hs).1 h
      exact VAnyE_first hkm2 hTA hA h0 hs l.length listed st s hcl (fun j oj hj hne hun hno => hspec j oj hj hne hun hno) hrk hI hd (hnext _ (hI.step hA h0 fun k hf hn => Eff_keep hd hf hn) hk)
    · refine only fun j oj hj hne hun hno => ?_
      obtain ⟨_, hpo⟩ := hspec j oj hj hne hun hno
      cases hal : aloneO ops o with
      | true =>
        obtain ⟨_, ok, hok, hallk⟩ := mem_ready.1 hrk
        have hnot2 : reachB ops ops.size k j = false := reach_listed hcl hun _ _ fun o' ho' => by rw [hok] at ho'; cases ho'; exact hallk
        rcases alone_spec hal h0 (Array.getElem?_eq_some_iff.1 hj).1 hne with h' | h'
        · rw [hno] at h'; cases h'
        · rw [hnot2] at h'; cases h'
      | false =>
        unfold pairOk at hpo
        simp only [semi, Bool.or_eq_true, Bool.and_eq_true, Bool.not_eq_true'] at hpo hs
        rcases hpo with ((((((h' | h') | h') | h') | h') | h') | h') | h'
        · exact hs (.inl ⟨h'.1.1, hal⟩)
        · exact hs (.inl ⟨h'.1.1, hal⟩)
        · exact hs (.inr (.inl (.inl h'.1.1.1)))
        · exact hs (.inl ⟨h'.1, hal⟩)
        · exact hs (.inr (.inl (.inr h'.1.1)))
        · exact hs (.inr (.inl h'.1.1))
        · exact hs (.inl ⟨(pure_quiet (G := G) (st := st) h'.1.1).1, hal⟩)
        · exact hs (.inr (.inr h'.1.1))
/-- A region whose order is drawn: the first m operations by the machine, the others by a law. -/
theorem region_tail_ok {id : Nat} {ops : Array Oper} {m : Nat} {T : St → Prop} {Q : Exit → St → Prop} (hm : P.follows .mixedOrders = true) (hB : lexDE ops m = true) (hF : freshB ops st = true) (h : VOps P G true ops (ops.toList.take m) st T)
    (hT : ∀ s base R μ a w (QQ : Exit → Act → World → Prop), T s → Rel P G base R μ s a w → (∀ s' a' w' R' μ', Q .normal s' → Rel P G base R' μ' s' a' w' → Step base R w R' w' → QQ .normal a' w') → wpAny P .any ops QQ (ops.size - m) (listedTo m ops.size) a w) : SW P G (.region id ops true) st Q := by
  intro base R μ a w hr
  obtain ⟨hr', hs'⟩ := hr.drew
  unfold lexDE at hB
  rw [Bool.and_eq_true, Bool.and_eq_true, Bool.and_eq_true, decide_eq_true_eq] at hB
  obtain ⟨⟨hN, hmle, hTA⟩, hB⟩ := hB
  rw [Bool.or_eq_true, List.isEmpty_iff, Bool.and_eq_true, List.all_eq_true, decide_eq_true_eq] at hN
  have mem : ∀ {i oi d}, ops[i]? = some oi → isNew oi = true → oi.dst = some d → d ∈ newKeys ops := fun hi hn hd => List.mem_filterMap.2 ⟨_, by rw [Array.mem_toList_iff]; exact Array.mem_of_getElem? hi, by rw [if_pos hn]; exact hd⟩
  have hA : NewApart ops := fun i j oi oj d hi hj hni hnj hdi hdj => by
    rcases hN with hN | ⟨_, hN⟩
    · have := mem hi hni hdi; rw [hN] at this; cases this
    · exact nodup_at (l := ops.toList) (f := fun o => if isNew o then o.dst else none) hN i j (by simpa using hi) (by simpa using hj) (by rw [if_pos hni]; exact hdi) (by rw [if_pos hnj]; exact hdj)
  have hI : NewInv ops (Array.replicate ops.size false) st := fun j oj d hj hn _ hd => List.all_eq_true.1 hF d (mem hj hn hd)
  have hlen : (ops.toList.take m).length = m := by simp; omega
  have h1 := VAnyE_lex (P := P) (G := G) hTA hA (hN.imp (fun h => h) (fun h => h.1)) (ops.toList.take m) 0 (Array.replicate ops.size false) st (by rw [hlen]; omega) (fun j hj => by
    rw [hlen] at hj
    rw [List.getElem?_take, if_pos hj]
    simp) (fun k hk => by
    rcases Nat.lt_or_ge k ops.size with h' | h'
    · simp [h'] at hk
    · simp [Nat.not_lt.2 h'] at hk) hI (by rw [hlen]; exact hB) h
  rw [hlen] at h1
  refine wp_region_any hm ?_
  have h2 := VAnyE_ok (r := ops.size - m) (QQ := fun e a' w' => ∃ s' R' μ', Q e s' ∧ Rel P G base R' μ' s' a' w' ∧ Step base R w R' w') m _ st h1 base R μ a w.drew hr' fun s a' w' R' μ' q1 q2 q3 =>
    hT s base R' μ' a' w' _ q1 q2 fun s2 a2 w2 R2 μ2 p1 p2 p3 => ⟨s2, R2, μ2, p1, p2, (hs'.trans q3).trans p3⟩
  rw [show m + (ops.size - m) = ops.size by omega] at h2
  exact h2
/-- The operations wait alike. -/
def sameWait (ops ops' : Array Oper) : Prop := ops'.size = ops.size ∧ ∀ i : Nat, (ops'[i]?).map (fun o : Oper => o.after) = (ops[i]?).map (fun o : Oper => o.after)
theorem sameWait.ready {ops ops' : Array Oper} (h : sameWait ops ops') (listed : Array Bool) : Region.ready .any ops' listed = Region.ready .any ops listed := by
  obtain ⟨hs, h⟩ := h
  unfold Region.ready
  rw [hs]
  refine List.filter_congr fun i _ => ?_
  have := h i
  cases h1 : ops'[i]? with
  | none =>
    rw [h1] at this
    cases h2 : ops[i]? with
    | none => simp
    | some o => rw [h2] at this; simp at this
  | some o' =>
    rw [h1] at this
    cases h2 : ops[i]? with
    | none => rw [h2] at this; simp at this
    | some o =>
      rw [h2] at this
      simp only [Option.map_some, Option.some.injEq] at this
      simp [this]
theorem wpOp_swap {ops ops' : Array Oper} {Q : Exit → Act → World → Prop} {i : Nat} {K : Act → World → Prop} {a : Act} {w : World} {o : Oper} (h : ops[i]? = some o) (h' : ops'[i]? = some o) (hg : o.guard = none) (hw : wpOp P ops' Q i K a w) : wpOp P ops Q i K a w := by
  unfold wpOp at hw ⊢
  rw [h'] at hw
  rw [h]
  have e : ∀ y, Region.wanted o y = true := fun y => by unfold Region.wanted; rw [hg]
  simp only [e, if_true] at hw ⊢
  exact hw
theorem VAnyE_cross {ops ops' : Array Oper} {m r : Nat} {Q : St → Prop} {QQ : Exit → Act → World → Prop} (hW : sameWait ops ops') (hS : ∀ i, i < m → ∃ o, ops[i]? = some o ∧ ops'[i]? = some o ∧ o.guard = none) : ∀ (fuel : Nat) (listed : Array Bool) (st : St), VAnyE P G ops' m Q fuel listed st → ∀ (base : Base) (R : Nat → Nat → Prop) (μ : Nat → Nat) (a : Act) (w : World), Rel P G base R μ st a w →
    (∀ s a' w' R' μ', Q s → Rel P G base R' μ' s a' w' → Step base R w R' w' → wpAny P .any ops QQ r (listedTo m ops.size) a' w') → wpAny P .any ops QQ (fuel + r) listed a w
  | 0, _, st, h, base, R, μ, a, w, hr, hk => by
    rw [Nat.zero_add, h.1, hW.1]
    exact hk st a w R μ h.2 hr (.refl _ _ _)
  | fuel + 1, listed, st, h, base, R, μ, a, w, hr, hk => by
    rw [show fuel + 1 + r = (fuel + r) + 1 by omega]
    refine ⟨fun h0 => absurd ((hW.ready listed).trans h0) h.1, fun i hi => ?_⟩
    obtain ⟨him, h1⟩ := h.2 i (by rw [hW.ready]; exact hi)
    obtain ⟨o, ho, ho', hg⟩ := hS i him
    rw [ho'] at h1
    simp only at h1
    refine wpOp_swap ho ho' hg ?_
    unfold wpOp
    rw [ho']
    exact vOne_ok h1 hr fun s v w' R' μ' h' hr' hs' => VAnyE_cross hW hS fuel _ s h' base R' μ' _ w' hr' fun s a' w2 R2 μ2 q1 q2 q3 => hk s a' w2 R2 μ2 q1 q2 (hs'.trans q3)
/-- The same, the machine's view of the region being another one (with the same first m operations). -/
theorem region_tail_ok2 {id : Nat} {ops ops' : Array Oper} {m : Nat} {T : St → Prop} {Q : Exit → St → Prop} (hW : sameWait ops ops') (hS : ∀ i, i < m → ∃ o, ops[i]? = some o ∧ ops'[i]? = some o ∧ o.guard = none) (hm : P.follows .mixedOrders = true) (hB : lexDE ops' m = true) (hF : freshB ops' st = true) (h : VOps P G true ops' (ops'.toList.take m) st T)
    (hT : ∀ s base R μ a w (QQ : Exit → Act → World → Prop), T s → Rel P G base R μ s a w → (∀ s' a' w' R' μ', Q .normal s' → Rel P G base R' μ' s' a' w' → Step base R w R' w' → QQ .normal a' w') → wpAny P .any ops QQ (ops.size - m) (listedTo m ops.size) a w) : SW P G (.region id ops true) st Q := by
  intro base R μ a w hr
  obtain ⟨hr', hs'⟩ := hr.drew
  unfold lexDE at hB
  rw [Bool.and_eq_true, Bool.and_eq_true, Bool.and_eq_true, decide_eq_true_eq] at hB
  obtain ⟨⟨hN, hmle, hTA⟩, hB⟩ := hB
  rw [Bool.or_eq_true, List.isEmpty_iff, Bool.and_eq_true, List.all_eq_true, decide_eq_true_eq] at hN
  have mem : ∀ {i oi d}, ops'[i]? = some oi → isNew oi = true → oi.dst = some d → d ∈ newKeys ops' := fun hi hn hd => List.mem_filterMap.2 ⟨_, by rw [Array.mem_toList_iff]; exact Array.mem_of_getElem? hi, by rw [if_pos hn]; exact hd⟩
  have hA : NewApart ops' := fun i j oi oj d hi hj hni hnj hdi hdj => by
    rcases hN with hN | ⟨_, hN⟩
    · have := mem hi hni hdi; rw [hN] at this; cases this
    · exact nodup_at (l := ops'.toList) (f := fun o => if isNew o then o.dst else none) hN i j (by simpa using hi) (by simpa using hj) (by rw [if_pos hni]; exact hdi) (by rw [if_pos hnj]; exact hdj)
  have hI : NewInv ops' (Array.replicate ops'.size false) st := fun j oj d hj hn _ hd => List.all_eq_true.1 hF d (mem hj hn hd)
  have hlen : (ops'.toList.take m).length = m := by simp; omega
  have h1 := VAnyE_lex (P := P) (G := G) hTA hA (hN.imp (fun h => h) (fun h => h.1)) (ops'.toList.take m) 0 (Array.replicate ops'.size false) st (by rw [hlen]; omega) (fun j hj => by
    rw [hlen] at hj
    rw [List.getElem?_take, if_pos hj]
    simp) (fun k hk => by
    rcases Nat.lt_or_ge k ops'.size with h' | h'
    · simp [h'] at hk
    · simp [Nat.not_lt.2 h'] at hk) hI (by rw [hlen]; exact hB) h
  rw [hlen] at h1
  refine wp_region_any hm ?_
  have h2 := VAnyE_cross (r := ops.size - m) (QQ := fun e a' w' => ∃ s' R' μ', Q e s' ∧ Rel P G base R' μ' s' a' w' ∧ Step base R w R' w') hW hS m _ st h1 base R μ a w.drew hr' fun s a' w' R' μ' q1 q2 q3 =>
    hT s base R' μ' a' w' _ q1 q2 fun s2 a2 w2 R2 μ2 p1 p2 p3 => ⟨s2, R2, μ2, p1, p2, (hs'.trans q3).trans p3⟩
  rw [hW.1] at h2
  rw [show m + (ops.size - m) = ops.size by rw [hW.1] at hmle; omega] at h2
  exact h2
end
end Go.VM
end

section
set_option linter.unusedVariables false
set_option linter.unusedSimpArgs false
set_option linter.unusedSectionVars false
namespace Go.VM
open Go Go.RowKit
/-- Cells written over others, from a place on. -/
def spl (cur : Array Value) (off : Nat) (l : List Value) : Array Value := (cur.toList.take off ++ l ++ cur.toList.drop (off + l.length)).toArray
theorem spl_get {cur : Array Value} {off : Nat} {l : List Value} (h : off + l.length ≤ cur.size) (k : Nat) : (spl cur off l)[k]? = if k < off then cur[k]? else if k < off + l.length then l[k - off]? else cur[k]? := by
  unfold spl
  rw [List.getElem?_toArray, splice_get _ _ _ (by simpa using h)]
  simp
theorem spl_size {cur : Array Value} {off : Nat} {l : List Value} (h : off + l.length ≤ cur.size) : (spl cur off l).size = cur.size := by
  unfold spl
  simp only [List.size_toArray, List.length_append, List.length_take, List.length_drop, Array.length_toList]
  omega
theorem spl_spl {cur : Array Value} {off : Nat} {l l' : List Value} (h : off + l.length ≤ cur.size) (hl : l'.length = l.length) : spl (spl cur off l) off l' = spl cur off l' := by
  apply Array.ext_getElem?
  intro k
  have h1 := spl_size h
  rw [spl_get (by rw [h1]; omega), spl_get h, spl_get (by omega)]
  rw [hl]
  split
  · rfl
  · split
    · rfl
    · rfl
theorem spl_mid (a b c : List Value) (b' : List Value) (h : b'.length = b.length) : spl (a.toArray ++ b.toArray ++ c.toArray) a.length b' = a.toArray ++ b'.toArray ++ c.toArray := by
  unfold spl
  rw [h]
  simp
theorem setRow_setRow (w : World) (g : Nat) (a b : Array Value) : (w.setRow g a).setRow g b = w.setRow g b := by
  unfold World.setRow
  cases w with
  | mk heap tape drawn os output =>
    simp only
    congr 1
    apply Array.ext
    · simp
    · intro k h1 h2
      simp only [Array.getElem_modify]
      by_cases hk : g = k
      · simp only [hk, if_true]
        generalize heap[k]'(by simpa using h1) = o
        cases o <;> rfl
      · simp [hk]
theorem setRow_comm (w : World) {g b : Nat} (hne : g ≠ b) (x y : Array Value) : (w.setRow g x).setRow b y = (w.setRow b y).setRow g x := by
  unfold World.setRow
  cases w with
  | mk heap tape drawn os output =>
    simp only
    congr 1
    apply Array.ext
    · simp
    · intro k h1 h2
      simp only [Array.getElem_modify]
      by_cases hk : g = k
      · subst hk
        simp [Ne.symm hne]
      · by_cases hb : b = k
        · subst hb
          simp [hk]
        · simp [hk, hb]
section
variable {P : Program} {G : GT} {st : St}
theorem run_store_at {a : Act} {w : World} {o : Oper} {t : TypeId} {ad x : Operand} (ho : o.op = .store t ad x) {b off : Nat} {cur : Array Value} {T : TypeId} (had : a.eval ad = .pointer (some ⟨b, off, none⟩)) (hh : w.heap[b]? = some (.cells cur T (0, 0)))
    (hsz : (a.eval x).cells.size = P.cellsOf t) (hne : P.cellsOf t ≠ 0) (hone : ∀ u ∈ (a.eval x).cells.toList, u.oneCell' = true) (hfit : off + (a.eval x).cells.size ≤ cur.size) :
    (execOp a.eval o).run P w = .ok .skip (w.setRow b (spl cur off (a.eval x).cells.toList)) := by
  have hst := run_storeCells_at P b off T (a.eval x).cells.toList 0 cur w hh (by simpa using hfit) hone
  simp only [Nat.add_zero] at hst
  have hnn : ¬ ((a.eval x).cells.size ≠ P.cellsOf t) := by rw [hsz]; simp
  unfold spl
  simp only [execOp, ho, Sem.run_bind, had, Instr.storeAt, Instr.sureAddr, storeVar, Sem.run_pure, Result.andThen_ok, info_ok (info_of_cells hne) w, if_neg hnn, hst]
theorem run_indexAddr_at {a : Act} {w : World} {o : Oper} {t e : TypeId} {x i : Operand} (ho : o.op = .indexAddr t x i) (hu : P.underlying t = some (.slice e)) {b n cap k : Nat} {kd : IntKind} (hx : a.eval x = .slice (some ⟨b, 0, none⟩) n cap) (hi : a.eval i = .int kd (k : Int)) (hk : k < n) (hs : 0 < P.cellsOf e) :
    (execOp a.eval o).run P w = .ok (.value (.pointer (some ⟨b, k * P.cellsOf e, none⟩))) w := by
  have hso := info_ok (info_of_cells (P := P) (t := e) (by omega)) w
  have hkn : ¬ (n ≤ k) := by omega
  simp [execOp, ho, hx, hi, Instr.indexAt, run_underlying hu, asIntOf, hk, hso, add_none]
/-- A ZERO ELEMENT IS APPENDED: the world, and what it comes to when other cells are written there. -/
theorem append_hole {base : Base} {R : Nat → Nat → Prop} {μ : Nat → Nat} {a : Act} {w : World} (hr : Rel P G base R μ st a w) {t ty e : TypeId} (hok : elemOk P e = true) (hu : P.underlying t = some (.slice e)) {i : Tmp} {x : Operand} {xs : List (List D)} {z0 : List D} {own' : List (TypeId × List Loc)}
    (hsx : st.eval G (.tmp i) = .d (.sl xs)) (htk : takeOwn (.t i) st.own = some (e, own')) (hlx : ∀ c ∈ xs, c.length = P.cellsOf e) (hx : st.eval G x = .d (.sl [z0])) (hz0 : z0.length = P.cellsOf e) (hbd : (xs.length + 1) * (P.bytesOf e + 1) ≤ 140737488355328) :
    ∃ g cap cur1 w1, (Builtin.append_ #[t, t] ty #[a.eval (.tmp i), a.eval x]).run P w = .ok (.slice (some ⟨g, 0, none⟩) (xs.length + 1) cap) w1 ∧ w1.heap[g]? = some (.cells cur1 e (0, 0)) ∧ xs.length * P.cellsOf e + P.cellsOf e ≤ cur1.size ∧
      (∀ k o, getKey k st.H = some o → μ k ≠ g ∧ w1.heap[μ k]? = w.heap[μ k]?) ∧
      ∀ (news : List Value) (c : List D), news.length = P.cellsOf e → c.length = P.cellsOf e → (∀ u ∈ news, u.oneCell' = true) → (∀ (j : Nat) (d : D), c[j]? = some d → d.one = true ∧ ∃ v, news[j]? = some v ∧ V R w v d) →
        ∃ R1, Rel P G base R1 μ { st with own := own' } a (w1.setRow g (spl cur1 (xs.length * P.cellsOf e) news)) ∧ V R1 (w1.setRow g (spl cur1 (xs.length * P.cellsOf e) news)) (.slice (some ⟨g, 0, none⟩) (xs.length + 1) cap) (.sl (xs ++ [c])) ∧
          ActOk P base R1 μ { st with own := own' } a (w1.setRow g (spl cur1 (xs.length * P.cellsOf e) news)) (.slice (some ⟨g, 0, none⟩) (xs.length + 1) cap) (.fresh e) ∧ Step base R w R1 (w1.setRow g (spl cur1 (xs.length * P.cellsOf e) news)) := by
  obtain ⟨ti, z, hi, hsize, hbytes, hpos, hz, hzs⟩ := elemOk_spec hok
  have hb1 : xs.length + 1 ≤ 140737488355328 := by rw [Nat.mul_add] at hbd; omega
  have hb2 : (xs.length + 1) * P.bytesOf e ≤ 140737488355328 := by rw [Nat.mul_add] at hbd; omega
  obtain ⟨ao2, capx, hv2, hrun2⟩ := asSl_spec (ys := [z0]) hr (by rw [hx]; rfl)
  obtain ⟨b2, off2, size2, rfl, q1, q2, q3⟩ := hrun2 (by simp)
  have hsz2 : size2 = P.cellsOf e := by rw [← q2 z0 (.head _), hz0]
  subst hsz2
  obtain ⟨n0, m1, m2, m3, m4⟩ := rowCells q2 q3
  simp only [List.length_singleton, Nat.one_mul] at m1 hv2
  obtain ⟨hr', v0, vs, hv0, hown, hkeys, hvs, hap⟩ := hr.takeOwn htk
  have hsv : a.eval (.tmp i) = v0 := by
    refine hv0 _ ?_
    show a.tmps[i]? = some (a.tmps.getD i undef)
    by_cases hs : i < a.tmps.size
    · simp [hs]
    · have h3 : ¬ i < st.tmps.length := by rw [← hr.size]; exact hs
      simp [St.eval, List.getD, List.getElem?_eq_none (Nat.le_of_not_lt h3)] at hsx
  have hV := hr.evalD hsx
  have hlt : ∀ k o, getKey k st.H = some o → μ k < w.heap.size := fun k o hk => (hr.objs k o hk).2.2.lt
  -- a new row
  have hnew : ∀ (olds : List Value) (old : Nat), olds.length = xs.length * P.cellsOf e → (∀ (i j : Nat) (c : List D) (d : D), xs[i]? = some c → c[j]? = some d → d.one = true ∧ ∃ v, olds[i * P.cellsOf e + j]? = some v ∧ V R w v d) →
      (Builtin.append_ #[t, t] ty #[a.eval (.tmp i), a.eval x]).run P w = .ok (.slice (some ⟨w.heap.size, 0, none⟩) (xs.length + 1) (grownCap w (xs.length + 1) old e)) (w.drew.alloc (.cells (olds.toArray ++ n0.toArray ++ Builtin.zeroCells z.cells (grownCap w (xs.length + 1) old e - (xs.length + 1))) e)) →
      ∃ g cap cur1 w1, (Builtin.append_ #[t, t] ty #[a.eval (.tmp i), a.eval x]).run P w = .ok (.slice (some ⟨g, 0, none⟩) (xs.length + 1) cap) w1 ∧ w1.heap[g]? = some (.cells cur1 e (0, 0)) ∧ xs.length * P.cellsOf e + P.cellsOf e ≤ cur1.size ∧
      (∀ k o, getKey k st.H = some o → μ k ≠ g ∧ w1.heap[μ k]? = w.heap[μ k]?) ∧
      ∀ (news : List Value) (c : List D), news.length = P.cellsOf e → c.length = P.cellsOf e → (∀ u ∈ news, u.oneCell' = true) → (∀ (j : Nat) (d : D), c[j]? = some d → d.one = true ∧ ∃ v, news[j]? = some v ∧ V R w v d) →
        ∃ R1, Rel P G base R1 μ { st with own := own' } a (w1.setRow g (spl cur1 (xs.length * P.cellsOf e) news)) ∧ V R1 (w1.setRow g (spl cur1 (xs.length * P.cellsOf e) news)) (.slice (some ⟨g, 0, none⟩) (xs.length + 1) cap) (.sl (xs ++ [c])) ∧
          ActOk P base R1 μ { st with own := own' } a (w1.setRow g (spl cur1 (xs.length * P.cellsOf e) news)) (.slice (some ⟨g, 0, none⟩) (xs.length + 1) cap) (.fresh e) ∧ Step base R w R1 (w1.setRow g (spl cur1 (xs.length * P.cellsOf e) news)) := by
    intro olds old ho1 ho2 hrun
    refine ⟨w.heap.size, _, _, _, hrun, heap_alloc_new w.drew _, ?_, fun k o hk => ⟨by have := hlt k o hk; omega, Below.heap_alloc w.drew _ _ (hlt k o hk)⟩, ?_⟩
    · simp only [Array.size_append, List.size_toArray, ho1, m1]
      omega
    · intro news c hn hc h1 hcn
      have hsp : spl (olds.toArray ++ n0.toArray ++ Builtin.zeroCells z.cells (grownCap w (xs.length + 1) old e - (xs.length + 1))) (xs.length * P.cellsOf e) news = olds.toArray ++ news.toArray ++ Builtin.zeroCells z.cells (grownCap w (xs.length + 1) old e - (xs.length + 1)) := by
        have := spl_mid olds n0 (Builtin.zeroCells z.cells (grownCap w (xs.length + 1) old e - (xs.length + 1))).toList news (by rw [hn, m1])
        rw [ho1] at this
        simpa using this
      rw [hsp]
      have hal := setRow_alloc w.drew (olds.toArray ++ n0.toArray ++ Builtin.zeroCells z.cells (grownCap w (xs.length + 1) old e - (xs.length + 1))) (olds.toArray ++ news.toArray ++ Builtin.zeroCells z.cells (grownCap w (xs.length + 1) old e - (xs.length + 1))) e
      have hhs : w.drew.heap.size = w.heap.size := rfl
      rw [hhs] at hal
      rw [hal]
      obtain ⟨R', n1, n2, n3, n4⟩ := append_new hr' (e := e) (z := z) hpos hzs (xs := xs) (ys := [c]) (olds := olds) (news := news) old (by unfold maxLen; simp; omega) hlx (by simpa using hc) ho1 (by simpa using hn) ho2 (fun i j c' d hi hj => by
        cases i with
        | zero =>
          simp at hi
          subst hi
          simpa using hcn j d hj
        | succ i => simp at hi) _ rfl
      exact ⟨R', n1, n3, n4, n2⟩
  have hnil : xs = [] → (∃ ao, v0 = .slice ao 0 0) → _ := fun hx0 ⟨ao, hao⟩ => hnew [] 0 (by rw [hx0]; simp) (by rw [hx0]; simp) (by
    rw [hsv, hao, hv2, hx0]
    cases ao with
    | none =>
      have := run_append_nil (P := P) w t ty e ti z hu hi hz ⟨b2, off2, none⟩ 1 capx n0 (by rw [m1, hsize, Nat.one_mul]) m2 (by omega) (by omega) (by rw [hbytes]; rw [hx0] at hb2; simp at hb2; omega)
      simpa using this
    | some b0 =>
      have := run_append_grow (P := P) w t ty e ti z hu hi hz b0 0 0 [] (by simp) (by simp) ⟨b2, off2, none⟩ 1 capx n0 (by rw [m1, hsize, Nat.one_mul]) m2 (by omega) (by omega) (by rw [hbytes]; rw [hx0] at hb2; exact growslice_fits (by omega) (by simpa using hb2))
      simpa using this)
  rcases hown with ⟨ao, rfl⟩ | ⟨g, n, cap, cur, rfl, hbg, hg, hnc, hcm, hcs, hnR⟩
  · have hx0 : xs = [] := by
      obtain ⟨ao', cap', h1, _⟩ := hV.sl_inv
      rw [hsv] at h1
      exact List.eq_nil_of_length_eq_zero (Value.slice.inj h1).2.1.symm
    exact hnil hx0 ⟨ao, rfl⟩
  · obtain ⟨ao', cap', h1, _, hrunx⟩ := hV.sl_inv
    rw [hsv] at h1
    cases h1
    have holds : ∃ olds : List Value, olds.length = xs.length * P.cellsOf e ∧ (∀ (j : Nat) (u : Value), olds[j]? = some u → w.cell? ((⟨g, 0, none⟩ : Addr).add j) = some u) ∧
        ∀ (i j : Nat) (c : List D) (d : D), xs[i]? = some c → c[j]? = some d → d.one = true ∧ ∃ v, olds[i * P.cellsOf e + j]? = some v ∧ V R w v d := by
      by_cases hx0 : xs = []
      · subst hx0; exact ⟨[], by simp, by simp, by simp⟩
      · obtain ⟨b, o', size, hba, q1, q2, q3⟩ := hrunx hx0
        cases hba
        have hsz : size = P.cellsOf e := by
          cases xs with
          | nil => exact absurd rfl hx0
          | cons c l => rw [← q2 c (.head _), hlx c (.head _)]
        subst hsz
        obtain ⟨olds, n1, n2, _, n4⟩ := rowCells q2 q3
        exact ⟨olds, n1, n2, n4⟩
    obtain ⟨olds, o1, o2, o3⟩ := holds
    by_cases hroom : xs.length + 1 ≤ cap
    · have hmul : (xs.length + 1) * P.cellsOf e ≤ cap * P.cellsOf e := Nat.mul_le_mul_right _ hroom
      have hfit0 : xs.length * P.cellsOf e + P.cellsOf e ≤ cur.size := by rw [hcs]; rw [Nat.add_mul, Nat.one_mul] at hmul; exact hmul
      have hfit : xs.length * P.cellsOf e + n0.length ≤ cur.size := by rw [m1]; exact hfit0
      have hrun := run_append_room (P := P) w t ty e ti hu hi g xs.length cap cur hg ⟨b2, off2, none⟩ 1 capx n0 (by rw [m1, hsize, Nat.one_mul]) m2 m3 hroom (by rw [hsize]; exact hfit)
      rw [hsize] at hrun
      have hrun2 : (Builtin.append_ #[t, t] ty #[a.eval (.tmp i), a.eval x]).run P w = .ok (.slice (some ⟨g, 0, none⟩) (xs.length + 1) cap) (w.setRow g (spl cur (xs.length * P.cellsOf e) n0)) := by
        rw [hsv, hv2]
        exact hrun
      have hspg : spareBlk (.slice (some ⟨g, 0, none⟩) xs.length cap) = some g := by simp [spareBlk]; omega
      have hgne : ∀ k o, getKey k st.H = some o → μ k ≠ g := fun k o hk he => hkeys k o hk (by rw [hspg, he])
      refine ⟨g, cap, _, _, hrun2, setRow_heap w g cur _ e _ hg, ?_, fun k o hk => ⟨hgne k o hk, setRow_other w g _ _ (hgne k o hk)⟩, ?_⟩
      · rw [spl_size hfit]; exact hfit0
      · intro news c hn hc h1n hcn
        have hnl : news.length = n0.length := by rw [hn, m1]
        rw [spl_spl hfit hnl, setRow_setRow]
        have hfitn : xs.length * P.cellsOf e + news.length ≤ cur.size := by rw [hnl]; exact hfit
        generalize hcur' : spl cur (xs.length * P.cellsOf e) news = cur'
        have hget : ∀ k, cur'[k]? = if k < xs.length * P.cellsOf e then cur[k]? else if k < xs.length * P.cellsOf e + news.length then news[k - xs.length * P.cellsOf e]? else cur[k]? := fun k => by
          rw [← hcur']; exact spl_get hfitn k
        obtain ⟨p1, p2, p3⟩ := hr'.growRow (g := g) (n := xs.length) (m := 1) (s := P.cellsOf e) (cur' := cur') (fun k o' hk he => hkeys k o' hk (by rw [hspg, he])) hvs (fun v' hv' hsp => (hap v' hv').1 g hspg hsp) hbg hg hnR (fun off hoff => by rw [hget, if_pos hoff])
        have hnewg : (w.setRow g cur').heap[g]? = some (.cells cur' e (0, 0)) := setRow_heap w g cur _ e _ hg
        have hcsz : cur'.size = cap * P.cellsOf e := by rw [← hcur', spl_size hfitn, hcs]
        refine ⟨_, p1, ?_, ?_, p2⟩
        · have hly : ∀ c' ∈ [c], c'.length = P.cellsOf e := by simpa using hc
          have hcell : ∀ (i j : Nat) (c' : List D) (d : D), (xs ++ [c])[i]? = some c' → c'[j]? = some d → d.one = true ∧ ∃ v, (w.setRow g cur').cell? ⟨g, 0 + i * P.cellsOf e + j, none⟩ = some v ∧ V R w v d := fun i j c' d hi' hj => by
            rw [Nat.zero_add, cell_of_row _ _ _ cur' e (0, 0) hnewg, hget]
            by_cases hil : i < xs.length
            · rw [List.getElem?_append_left hil] at hi'
              obtain ⟨w1, v, w2, w3⟩ := o3 i j c' d hi' hj
              have hlt := (List.getElem?_eq_some_iff.1 w2).1
              have hcellv := o2 _ v w2
              rw [add_none, Nat.zero_add, cell_of_row _ _ _ cur e (0, 0) hg] at hcellv
              rw [if_pos (by omega)]
              exact ⟨w1, v, hcellv, w3⟩
            · rw [List.getElem?_append_right (by omega)] at hi'
              have hi0 : i = xs.length := by
                have := (List.getElem?_eq_some_iff.1 hi').1
                simp at this
                omega
              subst hi0
              simp at hi'
              subst hi'
              obtain ⟨w1, v, w2, w3⟩ := hcn j d hj
              have hlt := (List.getElem?_eq_some_iff.1 w2).1
              rw [if_neg (by omega), if_pos (by omega), Nat.add_sub_cancel_left]
              exact ⟨w1, v, w2, w3⟩
          refine .sl g 0 _ cap (P.cellsOf e) _ (fun i j => ((w.setRow g cur').cell? ⟨g, 0 + i * P.cellsOf e + j, none⟩).getD undef) (by simp) hroom hpos (fun c' hc' => by simp at hc'; rcases hc' with hc' | hc'; exact hlx c' hc'; exact hly c' (by simpa using hc')) (fun i j hi' hj => ⟨.inr ⟨rfl, ?_⟩, ?_⟩) (fun i j c' d hi' hj => (hcell i j c' d hi' hj).1) (fun i j c' d hi' hj => ?_)
          · have : (i + 1) * P.cellsOf e ≤ (xs.length + 1) * P.cellsOf e := Nat.mul_le_mul_right _ (by omega)
            rw [Nat.add_mul] at this; omega
          · have hil : i < (xs ++ [c]).length := by simp; omega
            have hei := List.getElem?_eq_getElem hil
            have hjl : j < ((xs ++ [c])[i]).length := by
              have hm : (xs ++ [c])[i] ∈ xs ++ [c] := List.getElem_mem hil
              rw [List.mem_append] at hm
              rcases hm with hm | hm
              · rw [hlx _ hm]; exact hj
              · rw [hly _ hm]; exact hj
            obtain ⟨_, v, hv, _⟩ := hcell i j _ _ hei (List.getElem?_eq_getElem hjl)
            rw [hv]; rfl
          · obtain ⟨_, v, hv, hvd⟩ := hcell i j c' d hi' hj
            rw [hv]; exact hvd.of_step p2
        · refine ⟨.inr ⟨g, _, cap, cur', rfl, hbg, hnewg, hroom, hcm, hcsz, fun off hoff hR => ?_⟩, fun k o' hk => by have := hkeys k o' hk; rw [hspg] at this; simpa [spareBlk, show cap ≠ 0 by omega] using this, vs, p3, fun v' hv' => ?_⟩
          · rcases hR with hR | ⟨_, hR⟩
            · have : xs.length * P.cellsOf e ≤ (xs.length + 1) * P.cellsOf e := Nat.mul_le_mul_right _ (by omega)
              exact hnR off (by omega) hR
            · omega
          · have hsp2 : spareBlk (.slice (some ⟨g, 0, none⟩) (xs.length + 1) cap) = some g := by simp [spareBlk]; omega
            exact ⟨fun g' hg' hg'' => (hap v' hv').1 g' (by rw [hspg, ← hsp2]; exact hg') hg'', fun g' hg' hg'' => (hap v' hv').2 g' hg' (by rw [hspg, ← hsp2]; exact hg'')⟩
    · refine hnew olds cap o1 o3 ?_
      rw [hsv, hv2]
      exact run_append_grow (P := P) w t ty e ti z hu hi hz ⟨g, 0, none⟩ xs.length cap olds (by rw [o1, hsize]) o2 ⟨b2, off2, none⟩ 1 capx n0 (by rw [m1, hsize, Nat.one_mul]) m2 (by omega) (by omega) (by rw [hbytes]; exact growslice_fits (by omega) hb2)
/-- What the temporaries hold behind the two steps. -/
abbrev tl2 (s : St) (own' : List (TypeId × List Loc)) (e : TypeId) (r p : Tmp) (xs : List (List D)) (c : List D) : St := finish (finish { s with own := own' } (some r) (.d (.sl (xs ++ [c]))) (.fresh e)) (some p) .undef .no
theorem wpOp_run {ops : Array Oper} {Q : Exit → Act → World → Prop} {i : Nat} {K : Act → World → Prop} {a a' : Act} {w w' : World} {o : Oper} (ho : ops[i]? = some o) (hg : o.guard = none) {v : Value} (hrun : (execOp a.eval o).run P w = .ok (.value v) w' ∨ ((execOp a.eval o).run P w = .ok .skip w' ∧ v = Go.undef)) (ha : a.put o.dst v = a') (h : K a' w') : wpOp P ops Q i K a w := by
  unfold wpOp
  rw [ho]
  have hw : ∀ y, Region.wanted o y = true := fun y => by unfold Region.wanted; rw [hg]
  simp only [hw, if_true]
  left
  unfold Oper.wp
  rcases hrun with h1 | ⟨h1, rfl⟩
  · rw [h1]
    show K (a.put o.dst v) w'
    rw [ha]; exact h
  · rw [h1]
    show K (a.put o.dst Go.undef) w'
    rw [ha]; exact h
/-- THE LAST FOUR OPERATIONS of 'x = append(x, T{..})': a zero element is appended, its place is found, it is written; the slice is stored: in whatever order. -/
theorem wp_tail {ops : Array Oper} {i0 i1 i2 i3 : Nat} {L0 : Array Bool} {t e : TypeId} {s z r p q x b : Tmp} {y0 y1 y2 y3 : TypeId} {p0 p1 p2 p3 : String} {f0 f1 f2 f3 : Array Edge} {xs : List (List D)} {z0 c : List D} {own' : List (TypeId × List Loc)} {out : Out} {Q : St → Prop} {QQ : Exit → Act → World → Prop}
    (h0 : ops[i0]? = some ⟨some r, .call { callee := .builtin .append, args := #[.tmp s, .tmp z], argTypes := #[t, t] }, y0, p0, f0, none⟩)
    (h1 : ops[i1]? = some ⟨some p, .indexAddr t (.tmp r) (.tmp q), y1, p1, f1, none⟩)
    (h2 : ops[i2]? = some ⟨none, .store e (.tmp p) (.tmp x), y2, p2, f2, none⟩)
    (h3 : ops[i3]? = some ⟨none, .store t (.tmp b) (.tmp r), y3, p3, f3, none⟩)
    (r0 : Region.ready .any ops L0 = [i0]) (r1 : Region.ready .any ops (L0.setIfInBounds i0 true) = [i1, i3]) (r2 : Region.ready .any ops ((L0.setIfInBounds i0 true).setIfInBounds i1 true) = [i2, i3]) (r3 : Region.ready .any ops ((L0.setIfInBounds i0 true).setIfInBounds i3 true) = [i1])
    (r4 : Region.ready .any ops (((L0.setIfInBounds i0 true).setIfInBounds i1 true).setIfInBounds i2 true) = [i3]) (r5 : Region.ready .any ops (((L0.setIfInBounds i0 true).setIfInBounds i1 true).setIfInBounds i3 true) = [i2]) (r6 : Region.ready .any ops (((L0.setIfInBounds i0 true).setIfInBounds i3 true).setIfInBounds i1 true) = [i2])
    (r7 : Region.ready .any ops ((((L0.setIfInBounds i0 true).setIfInBounds i1 true).setIfInBounds i2 true).setIfInBounds i3 true) = []) (r8 : Region.ready .any ops ((((L0.setIfInBounds i0 true).setIfInBounds i1 true).setIfInBounds i3 true).setIfInBounds i2 true) = []) (r9 : Region.ready .any ops ((((L0.setIfInBounds i0 true).setIfInBounds i3 true).setIfInBounds i1 true).setIfInBounds i2 true) = [])
    (hok : elemOk P e = true) (hu : P.underlying t = some (.slice e)) (hne : (r ≠ q ∧ r ≠ x ∧ r ≠ p ∧ r ≠ b) ∧ p ≠ x ∧ p ≠ b)
    (hlt : r < st.tmps.length ∧ p < st.tmps.length)
    (hsx : st.eval G (.tmp s) = .d (.sl xs)) (htk : takeOwn (.t s) st.own = some (e, own')) (hlx : ∀ c ∈ xs, c.length = P.cellsOf e) (hx : st.eval G (.tmp z) = .d (.sl [z0])) (hz0 : z0.length = P.cellsOf e) (hbd : (xs.length + 1) * (P.bytesOf e + 1) ≤ 140737488355328)
    (hq : st.eval G (.tmp q) = .d (.int .i64 (xs.length : Int))) (hxv : st.eval G (.tmp x) = .d (.agg c)) (hc : c.length = P.cellsOf e)
    (hst : vStore P G t (.tmp b) (.tmp r) (tl2 st own' e r p xs c) = some out) (hQ : Q out.st)
    {base : Base} {R : Nat → Nat → Prop} {μ : Nat → Nat} {a : Act} {w : World} (hr : Rel P G base R μ st a w)
    (hk : ∀ s' a' w' R' μ', Q s' → Rel P G base R' μ' s' a' w' → Step base R w R' w' → QQ .normal a' w') : wpAny P .any ops QQ 4 L0 a w := by
  obtain ⟨⟨n1, n2, n3, n4⟩, n5, n6⟩ := hne
  obtain ⟨l1, l2⟩ := hlt
  have hsz := hr.size
  obtain ⟨_, _, _, _, _, hpos, _, _⟩ := elemOk_spec hok
  obtain ⟨g, cap, cur1, w1, e0, hg, hfit, hobj, hnews⟩ := append_hole (ty := y0) hr hok hu (x := .tmp z) hsx htk hlx hx hz0 hbd
  -- what is written
  obtain ⟨pc, hpc, hpc1, hpc2⟩ := (hr.evalD hxv).agg_inv
  have hone : ∀ u ∈ pc.toList, u.oneCell' = true := fun u hu => by
    obtain ⟨j, hj⟩ := List.getElem?_of_mem hu
    have hjl : j < c.length := by rw [← hpc1]; simpa using (List.getElem?_eq_some_iff.1 hj).1
    obtain ⟨k1, k2⟩ := hpc2 j c[j] (by simp [hjl])
    have : pc.getD j Go.undef = u := by
      have : pc[j]? = some u := by simpa using hj
      simp [Array.getD_eq_getD_getElem?, this]
    rw [this] at k2
    exact k2.oneCell k1
  obtain ⟨R1, hr1, hV1, hA1, hs1⟩ := hnews pc.toList c (by simpa [hpc1] using hc) hc hone (fun j d hj => by
    obtain ⟨k1, k2⟩ := hpc2 j d hj
    have hjl : j < pc.size := by rw [hpc1]; exact (List.getElem?_eq_some_iff.1 hj).1
    refine ⟨k1, pc[j], by simp [hjl], ?_⟩
    simpa [Array.getD_eq_getD_getElem?, hjl] using k2)
  generalize hvS : (Value.slice (some ⟨g, 0, none⟩) (xs.length + 1) cap) = vS at *
  generalize hcur2 : spl cur1 (xs.length * P.cellsOf e) pc.toList = cur2 at *
  -- the temporaries
  have hra : r < a.tmps.size := by rw [hsz]; exact l1
  have hpa : p < a.tmps.size := by rw [hsz]; exact l2
  have hr1' := hr1.put (dst := some r) (.d _ _ hV1) hA1
  have hr2 := hr1'.put (dst := some p) (v := .pointer (some ⟨g, xs.length * P.cellsOf e, none⟩)) (act := .no) (.undef _) trivial
  generalize ha1 : a.put (some r) vS = a1 at *
  generalize ha2 : a1.put (some p) (.pointer (some ⟨g, xs.length * P.cellsOf e, none⟩)) = a2 at *
  have z1 : a1.tmps.size = a.tmps.size := by rw [← ha1]; exact size_put _ _ _
  have v1r : a1.eval (.tmp r) = vS := by rw [← ha1]; exact eval_put_same _ _ hra
  have v1q : a1.eval (.tmp q) = a.eval (.tmp q) := by rw [← ha1]; exact eval_put_ne _ _ (Ne.symm n1)
  have v1x : a1.eval (.tmp x) = a.eval (.tmp x) := by rw [← ha1]; exact eval_put_ne _ _ (Ne.symm n2)
  have v1b : a1.eval (.tmp b) = a.eval (.tmp b) := by rw [← ha1]; exact eval_put_ne _ _ (Ne.symm n4)
  have v2p : a2.eval (.tmp p) = .pointer (some ⟨g, xs.length * P.cellsOf e, none⟩) := by rw [← ha2]; exact eval_put_same _ _ (z1.symm ▸ hpa)
  have v2x : a2.eval (.tmp x) = .agg pc := by rw [← ha2, eval_put_ne _ _ (Ne.symm n5), v1x, hpc]
  have v2r : a2.eval (.tmp r) = vS := by rw [← ha2, eval_put_ne _ _ n3]; exact v1r
  have v2b : a2.eval (.tmp b) = a.eval (.tmp b) := by rw [← ha2, eval_put_ne _ _ (Ne.symm n6)]; exact v1b
  -- the box
  have hstb := hst
  unfold vStore at hstb
  split at hstb
  rotate_left
  · cases hstb
  rename_i kb off ys hb hys
  split at hstb
  rotate_left
  · cases hstb
  rename_i cs hkb
  split at hstb
  rotate_left
  · cases hstb
  rename_i hcd
  clear hstb
  have hHs : (tl2 st own' e r p xs c).H = st.H := rfl
  rw [hHs] at hkb
  have hb' : a2.eval (.tmp b) = .pointer (some ⟨μ kb, off, none⟩) := hr2.evalPtr hb
  have hys1 : ys.length = 1 := by
    have : (tl2 st own' e r p xs c).eval G (.tmp r) = .d (.sl (xs ++ [c])) := by
      simp [St.eval, finish, List.getD, l1, List.getElem?_set, Ne.symm n3]
    rw [this] at hys
    simp only [vcells, D.cells, List.map_cons, List.map_nil, Option.some.injEq] at hys
    rw [← hys]; rfl
  obtain ⟨_, _, vs0, T0, hh0, hsz0, _⟩ := hr.objs kb _ hkb
  obtain ⟨hbg, hw1b⟩ := hobj kb _ hkb
  have hvc : vS.cells = #[vS] := by rw [← hvS]; rfl
  have hvo : vS.oneCell' = true := by rw [← hvS]; rfl
  have hob : w1.heap[μ kb]? = some (.cells vs0 T0 (0, 0)) := hw1b.trans hh0
  generalize hX : spl vs0 off [vS] = X
  -- the steps
  have E0 : (execOp a.eval ⟨some r, .call { callee := .builtin .append, args := #[.tmp s, .tmp z], argTypes := #[t, t] }, y0, p0, f0, none⟩).run P w = .ok (.value vS) w1 := by
    simp [execOp, resolve, invoke, builtin, e0]
  have E1 : ∀ w', (execOp a1.eval ⟨some p, .indexAddr t (.tmp r) (.tmp q), y1, p1, f1, none⟩).run P w' = .ok (.value (.pointer (some ⟨g, xs.length * P.cellsOf e, none⟩))) w' := fun w' =>
    run_indexAddr_at rfl hu (v1r.trans hvS.symm) (v1q.trans (hr.evalInt hq)) (by omega) hpos
  have E2 : ∀ w' : World, w'.heap[g]? = some (.cells cur1 e (0, 0)) → (execOp a2.eval ⟨none, .store e (.tmp p) (.tmp x), y2, p2, f2, none⟩).run P w' = .ok .skip (w'.setRow g cur2) := fun w' hw' => by
    have := run_store_at (P := P) (a := a2) (w := w') (o := ⟨none, .store e (.tmp p) (.tmp x), y2, p2, f2, none⟩) rfl v2p hw' (by rw [v2x]; show pc.size = _; rw [hpc1, hc]) (by omega) (by rw [v2x]; exact hone) (by rw [v2x]; show _ + pc.size ≤ _; rw [hpc1, hc]; exact hfit)
    rw [v2x] at this
    have hcl : (Value.agg pc).cells = pc := rfl
    rw [hcl, hcur2] at this
    exact this
  have E3 : ∀ (ax : Act) (w' : World), ax.eval (.tmp b) = .pointer (some ⟨μ kb, off, none⟩) → ax.eval (.tmp r) = vS → w'.heap[μ kb]? = some (.cells vs0 T0 (0, 0)) → (execOp ax.eval ⟨none, .store t (.tmp b) (.tmp r), y3, p3, f3, none⟩).run P w' = .ok .skip (w'.setRow (μ kb) X) := fun ax w' hb1 hr1 hw' => by
    have := run_store_at (P := P) (a := ax) (w := w') (o := ⟨none, .store t (.tmp b) (.tmp r), y3, p3, f3, none⟩) rfl hb1 hw' (by rw [hr1, hvc, ← hcd.1, hys1]; rfl) (by omega) (by rw [hr1, hvc]; simpa using hvo) (by rw [hr1, hvc]; show off + 1 ≤ _; rw [hsz0]; omega)
    rw [hr1, hvc] at this
    have : (execOp ax.eval ⟨none, .store t (.tmp b) (.tmp r), y3, p3, f3, none⟩).run P w' = .ok .skip (w'.setRow (μ kb) (spl vs0 off [vS])) := this
    rw [hX] at this
    exact this
  have hb1 : a1.eval (.tmp b) = .pointer (some ⟨μ kb, off, none⟩) := by rw [v1b, ← v2b]; exact hb'
  have hgX : (w1.setRow (μ kb) X).heap[g]? = some (.cells cur1 e (0, 0)) := (setRow_other w1 (μ kb) g _ (Ne.symm hbg)).trans hg
  have hbX : (w1.setRow g cur2).heap[μ kb]? = some (.cells vs0 T0 (0, 0)) := (setRow_other w1 g (μ kb) _ hbg).trans hob
  have hcomm : (w1.setRow (μ kb) X).setRow g cur2 = (w1.setRow g cur2).setRow (μ kb) X := setRow_comm w1 hbg X cur2
  have hfin : QQ .normal a2 ((w1.setRow g cur2).setRow (μ kb) X) := by
    obtain ⟨v, w', R', μ', hrun, hr3, _, _, hs3⟩ := vStore_ok (o := ⟨none, .store t (.tmp b) (.tmp r), y3, p3, f3, none⟩) rfl hst base R1 μ a2 _ hr2
    rw [E3 a2 _ hb' v2r hbX] at hrun
    rcases hrun with hrun | ⟨hrun, _⟩
    · cases hrun
    · cases hrun
      exact hk out.st a2 _ R' μ' hQ hr3 (hs1.trans hs3)
  refine wpAny_all r0 (by simp) fun i hi => ?_
  simp only [List.mem_singleton] at hi
  subst hi
  refine wpOp_run h0 rfl (.inl E0) ha1 ?_
  refine wpAny_all r1 (by simp) fun j hj => ?_
  simp only [List.mem_cons, List.not_mem_nil, or_false] at hj
  rcases hj with rfl | rfl
  · refine wpOp_run h1 rfl (.inl (E1 w1)) ha2 ?_
    refine wpAny_all r2 (by simp) fun j hj => ?_
    simp only [List.mem_cons, List.not_mem_nil, or_false] at hj
    rcases hj with rfl | rfl
    · refine wpOp_run h2 rfl (.inr ⟨E2 w1 hg, rfl⟩) rfl ?_
      refine wpAny_all r4 (by simp) fun j hj => ?_
      simp only [List.mem_singleton] at hj
      subst hj
      exact wpOp_run h3 rfl (.inr ⟨E3 a2 _ hb' v2r hbX, rfl⟩) rfl (wpAny_done r7 hfin _)
    · refine wpOp_run h3 rfl (.inr ⟨E3 a2 _ hb' v2r hob, rfl⟩) rfl ?_
      refine wpAny_all r5 (by simp) fun j hj => ?_
      simp only [List.mem_singleton] at hj
      subst hj
      exact wpOp_run h2 rfl (.inr ⟨E2 _ hgX, rfl⟩) rfl (wpAny_done r8 (by rw [hcomm]; exact hfin) _)
  · refine wpOp_run h3 rfl (.inr ⟨E3 a1 _ hb1 v1r hob, rfl⟩) rfl ?_
    refine wpAny_all r3 (by simp) fun j hj => ?_
    simp only [List.mem_singleton] at hj
    subst hj
    refine wpOp_run h1 rfl (.inl (E1 _)) ha2 ?_
    refine wpAny_all r6 (by simp) fun j hj => ?_
    simp only [List.mem_singleton] at hj
    subst hj
    exact wpOp_run h2 rfl (.inr ⟨E2 _ hgX, rfl⟩) rfl (wpAny_done r9 (by rw [hcomm]; exact hfin) _)
end
end Go.VM
end

section
set_option linter.unusedVariables false
set_option linter.unusedSimpArgs false
set_option linter.unusedSectionVars false
namespace Go.VM
open Go Go.RowKit
section
variable {P : Program} {G : GT} {st : St} {Q : Exit → St → Prop}
theorem SW.blockq {id : Nat} {c : Code} (h : SW P G c st fun e s => match e with
    | .exit id' => if id' = id then Q .normal s else Q (.exit id') s
    | e => Q e s) : SW P G (.block id c) st Q := fun base R μ a w hr => wp_block (wp_mono (h base R μ a w hr) fun e a1 w1 ⟨s, R1, μ1, q1, q2, q3⟩ => by
      cases e with
      | exit id' =>
        simp only [Exit.inBlock]
        simp only at q1
        by_cases hid : id' = id
        · rw [if_pos hid] at q1 ⊢; exact ⟨s, R1, μ1, q1, q2, q3⟩
        · rw [if_neg hid] at q1 ⊢; exact ⟨s, R1, μ1, q1, q2, q3⟩
      | _ => exact ⟨s, R1, μ1, q1, q2, q3⟩)
/-- A loop whose round is walked by hand. -/
theorem SW.loopW {c : Code} {ι : Type} (ws : ι → List (Nat × DV)) (H : ι → List (Nat × AObj)) (own : ι → List (TypeId × List Loc)) (m : ι → Nat) (x0 : ι) (h0 : Weak st (frameOf c st (ws x0) (H x0) (own x0)))
    (round : ∀ x, SW P G c (frameOf c st (ws x) (H x) (own x)) fun e s => match e with
      | .normal => Again (fun y => frameOf c st (ws y) (H y) (own y)) m x s
      | e => Q e s) : SW P G (.loop c) st Q := by
  intro base R μ a w hr
  refine wp_loop_ghost (fun n a1 w1 => ∃ x R1 μ1, m x = n ∧ Rel P G base R1 μ1 (frameOf c st (ws x) (H x) (own x)) a1 w1 ∧ Step base R w R1 w1) (m x0) ⟨x0, R, μ, rfl, hr.weak h0, .refl _ _ _⟩ ?_
  rintro n a1 w1 ⟨x, R1, μ1, rfl, hr1, hs1⟩
  refine wp_mono (round x base R1 μ1 a1 w1 hr1) fun e a2 w2 ⟨s, R2, μ2, q, hr2, hs2⟩ => ?_
  cases e with
  | normal =>
    simp only at q
    unfold Again at q
    obtain ⟨y, hy, hlt⟩ := q
    exact ⟨m y, hlt, y, R2, μ2, rfl, hr2.weak hy, hs1.trans hs2⟩
  | _ => exact ⟨s, R2, μ2, q, hr2, hs1.trans hs2⟩
theorem SW.mono2 {c : Code} {Q' : Exit → St → Prop} (h : SW P G c st Q') (hq : ∀ e s, Q' e s → Q e s) : SW P G c st Q := SW.mono hq h
theorem VOps_of_VK {all : Array Oper} {rest : List Oper} {T : St → Prop} (h : VK P G [.ops true all rest] .normal st fun _ s => T s) : VOps P G true all rest st T := by
  simp only [VK] at h
  exact h
/-- What the last four operations want. -/
def TailAt (P : Program) (G : GT) (t e : TypeId) (s z r p q x b : Tmp) (Q : St → Prop) (st : St) : Prop :=
  ∃ (xs : List (List D)) (z0 c : List D) (own' : List (TypeId × List Loc)) (out : Out), (r < st.tmps.length ∧ p < st.tmps.length) ∧ st.eval G (.tmp s) = .d (.sl xs) ∧ takeOwn (.t s) st.own = some (e, own') ∧ (∀ c ∈ xs, c.length = P.cellsOf e) ∧ st.eval G (.tmp z) = .d (.sl [z0]) ∧ z0.length = P.cellsOf e ∧
    (xs.length + 1) * (P.bytesOf e + 1) ≤ 140737488355328 ∧ st.eval G (.tmp q) = .d (.int .i64 (xs.length : Int)) ∧ st.eval G (.tmp x) = .d (.agg c) ∧ c.length = P.cellsOf e ∧ vStore P G t (.tmp b) (.tmp r) (tl2 st own' e r p xs c) = some out ∧ Q out.st
def tailReady (ops : Array Oper) (m : Nat) : Bool :=
  let L := listedTo m ops.size
  decide (ops.size = m + 4) && (Region.ready .any ops L == [m]) && (Region.ready .any ops (L.setIfInBounds m true) == [m + 1, m + 3]) && (Region.ready .any ops ((L.setIfInBounds m true).setIfInBounds (m + 1) true) == [m + 2, m + 3]) && (Region.ready .any ops ((L.setIfInBounds m true).setIfInBounds (m + 3) true) == [m + 1]) &&
  (Region.ready .any ops (((L.setIfInBounds m true).setIfInBounds (m + 1) true).setIfInBounds (m + 2) true) == [m + 3]) && (Region.ready .any ops (((L.setIfInBounds m true).setIfInBounds (m + 1) true).setIfInBounds (m + 3) true) == [m + 2]) && (Region.ready .any ops (((L.setIfInBounds m true).setIfInBounds (m + 3) true).setIfInBounds (m + 1) true) == [m + 2]) &&
  (Region.ready .any ops ((((L.setIfInBounds m true).setIfInBounds (m + 1) true).setIfInBounds (m + 2) true).setIfInBounds (m + 3) true) == []) && (Region.ready .any ops ((((L.setIfInBounds m true).setIfInBounds (m + 1) true).setIfInBounds (m + 3) true).setIfInBounds (m + 2) true) == []) && (Region.ready .any ops ((((L.setIfInBounds m true).setIfInBounds (m + 3) true).setIfInBounds (m + 1) true).setIfInBounds (m + 2) true) == [])
theorem region_append_ok {id : Nat} {ops : Array Oper} {m : Nat} {t e : TypeId} {s z r p q x b : Tmp} {y0 y1 y2 y3 : TypeId} {p0 p1 p2 p3 : String} {f0 f1 f2 f3 : Array Edge}
    (h0 : ops[m]? = some ⟨some r, .call { callee := .builtin .append, args := #[.tmp s, .tmp z], argTypes := #[t, t] }, y0, p0, f0, none⟩)
    (h1 : ops[m + 1]? = some ⟨some p, .indexAddr t (.tmp r) (.tmp q), y1, p1, f1, none⟩)
    (h2 : ops[m + 2]? = some ⟨none, .store e (.tmp p) (.tmp x), y2, p2, f2, none⟩)
    (h3 : ops[m + 3]? = some ⟨none, .store t (.tmp b) (.tmp r), y3, p3, f3, none⟩)
    (hB : (P.follows .mixedOrders && lexDE ops m && tailReady ops m) = true) (hok : (elemOk P e && decide ((r ≠ q ∧ r ≠ x ∧ r ≠ p ∧ r ≠ b) ∧ p ≠ x ∧ p ≠ b)) = true) (hu : P.underlying t = some (.slice e)) (hF : freshB ops st = true)
    (h : VK P G [.ops true ops (ops.toList.take m)] .normal st fun _ s1 => TailAt P G t e s z r p q x b (fun s' => Q .normal s') s1) : SW P G (.region id ops true) st Q := by
  rw [Bool.and_eq_true, Bool.and_eq_true] at hB
  obtain ⟨⟨hm, hL⟩, hR⟩ := hB
  rw [Bool.and_eq_true, decide_eq_true_eq] at hok
  simp only [tailReady, Bool.and_eq_true, decide_eq_true_eq, beq_iff_eq] at hR
  obtain ⟨⟨⟨⟨⟨⟨⟨⟨⟨⟨hsz, r0⟩, r1⟩, r2⟩, r3⟩, r4⟩, r5⟩, r6⟩, r7⟩, r8⟩, r9⟩ := hR
  have h4 : ops.size - m = 4 := by rw [hsz]; exact Nat.add_sub_cancel_left ..
  refine region_tail_ok hm hL hF (VOps_of_VK h) ?_
  rintro s1 base R μ a w QQ ⟨xs, z0, c, own', out, k0, k1, k2, k3, k4, k5, k6, k7, k8, k9, k10, k11⟩ hr hk
  rw [h4]
  exact wp_tail (Q := fun s' => Q .normal s') h0 h1 h2 h3 r0 r1 r2 r3 r4 r5 r6 r7 r8 r9 hok.1 hu hok.2 k0 k1 k2 k3 k4 k5 k6 k7 k8 k9 k10 k11 hr hk
end
end Go.VM
end

section
set_option linter.unusedVariables false
set_option linter.unusedSimpArgs false
set_option linter.unusedSectionVars false
namespace Go.VM
open Go Go.RowKit
section
variable {P : Program} {G : GT} {st : St} {Q : Exit → St → Prop}
theorem VOps_then {q : Bool} (all : Array Oper) (QQ : Exit → Act → World → Prop) (rest : List Oper) : ∀ (l : List Oper) (st : St) (K : St → Prop), VOps P G q all l st K → ∀ (base : Base) (R : Nat → Nat → Prop) (μ : Nat → Nat) (a : Act) (w : World), Rel P G base R μ st a w →
    (∀ s a' w' R' μ', K s → Rel P G base R' μ' s a' w' → Step base R w R' w' → wpList P all QQ rest a' w') → wpList P all QQ (l ++ rest) a w
  | [], st, K, h, base, R, μ, a, w, hr, hk => hk st a w R μ h hr (.refl _ _ _)
  | o :: l, st, K, h, base, R, μ, a, w, hr, hk => by
    rw [List.cons_append]
    unfold wpList
    exact vOne_ok h hr fun s v w' R' μ' h' hr' hs' => VOps_then all QQ rest l s K h' base R' μ' _ w' hr' fun s a' w2 R2 μ2 q1 q2 q3 => hk s a' w2 R2 μ2 q1 q2 (hs'.trans q3)
/-- A region in order: the first m operations by the machine, the next one by a law, the others by the machine. -/
theorem region_hand {id : Nat} {ops : Array Oper} {m : Nat} {o : Oper} (ho : ops.toList.drop m = o :: ops.toList.drop (m + 1)) (hg : o.guard = none)
    (h : VK P G [.ops false ops (ops.toList.take m)] .normal st fun _ s => ∃ out, OpOk P G o s out ∧ VK P G [.ops false ops (ops.toList.drop (m + 1))] .normal (finish out.st o.dst out.v out.act) fun _ s' => Q .normal s') : SW P G (.region id ops false) st Q := by
  intro base R μ a w hr
  refine wp_region_list ?_
  rw [← List.take_append_drop m ops.toList, ho]
  simp only [VK] at h
  refine VOps_then ops _ _ _ st _ h base R μ a w hr ?_
  rintro s a1 w1 R1 μ1 ⟨out, hok, h2⟩ hr1 hs1
  obtain ⟨v, w2, R2, μ2, hrun, hr2, hv, hact, hs2⟩ := hok base R1 μ1 a1 w1 hr1
  have hput := hr2.put (dst := o.dst) hv hact
  refine wpList_plain hg fun K hK => ?_
  have hk2 : K (a1.put o.dst v) w2 := hK _ _ (VOps_ok ops _ _ _ _ h2 base R2 μ2 _ w2 hput fun s' a' w' R' μ' q1 q2 q3 => ⟨s', R', μ', q1, q2, (hs1.trans hs2).trans q3⟩)
  unfold Oper.wp
  rcases hrun with h1 | ⟨h1, rfl⟩
  · rw [h1]; exact hk2
  · rw [h1]; exact hk2
def dand (k : IntKind) (a b : Int) : Int := k.wrap (BitVec.ofInt k.bits a &&& BitVec.ofInt k.bits b).toNat
theorem vAnd_ok {o : Oper} {t u : TypeId} {x y : Operand} {k : IntKind} {m n : Int} (ho : o.op = .binOp .and t x y u) (hx : st.eval G x = .d (.int k m)) (hy : st.eval G y = .d (.int k n)) : OpOk P G o st ⟨.d (.int k (dand k m n)), .no, st⟩ := by
  refine opOk_pure fun base R μ a w hr => ?_
  have vx := (hr.evalD hx).int_inv
  have vy := (hr.evalD hy).int_inv
  refine ⟨.int k (dand k m n), ?_, .d _ _ (.int _ _), trivial⟩
  simp [execOp, ho, vx, vy, eqGuard, binOp, Op.intBits, dand]
theorem dand_one (x : Int) : dand .i8 x 1 = 0 ∨ dand .i8 x 1 = 1 := by
  have h : (BitVec.ofInt 8 x &&& BitVec.ofInt 8 1).toNat = 0 ∨ (BitVec.ofInt 8 x &&& BitVec.ofInt 8 1).toNat = 1 := by
    generalize BitVec.ofInt 8 x = b
    have h1 : (b &&& BitVec.ofInt 8 1).toNat = b.toNat &&& 1 := by
      rw [BitVec.toNat_and]
      rfl
    rw [h1, Nat.and_one_is_mod]
    omega
  unfold dand
  have hb : IntKind.i8.bits = 8 := rfl
  rw [hb]
  rcases h with h | h <;> rw [h]
  · left; decide
  · right; decide
end
end Go.VM
end

section
set_option linter.unusedVariables false
set_option linter.unusedSimpArgs false
set_option linter.unusedSectionVars false
namespace Go.VM
open Go Go.RowKit
section
variable {P : Program} {G : GT} {st : St}
/-- A cell that holds what a temporary holds shares its ownership. -/
theorem Rel.alias {base : Base} {R : Nat → Nat → Prop} {μ : Nat → Nat} {a : Act} {w : World} (hr : Rel P G base R μ st a w) {t : Tmp} {k off : Nat} (hk : ∃ o, getKey k st.H = some o) (ht : t < a.tmps.size) (h : ∀ u, w.cell? ⟨μ k, off, none⟩ = some u → u = a.eval (.tmp t)) :
    Rel P G base R μ { st with own := addAlias (.t t) (.c k off) st.own } a w := by
  obtain ⟨vs, hvs⟩ := hr.own
  refine ⟨hr.defers, hr.size, hr.tmps, hr.objs, hr.inj, fun c hc k' off' hl => ?_, ⟨vs, by simpa [addAlias] using hvs.len, fun i c v hc hv => ?_, hvs.apart⟩, hr.glob, hr.rset, hr.base, hr.pass⟩
  · obtain ⟨i, hi⟩ := List.getElem?_of_mem hc
    obtain ⟨c', hc', _, hm⟩ := mem_addAlias hi
    rcases hm _ hl with hx | ⟨hx, _⟩
    · exact hr.locs c' (List.mem_of_getElem? hc') k' off' hx
    · cases hx; exact hk
  · obtain ⟨c', hc', he, hm⟩ := mem_addAlias hc
    have ho := hvs.one i c' v hc' hv
    refine ⟨fun l hl u hu => ?_, by rw [he]; exact ho.own, ho.keys⟩
    rcases hm l hl with hx | ⟨rfl, hx⟩
    · exact ho.locs l hx u hu
    · have h1 := h u hu
      have h2 : locVal a w μ (.t t) = some (a.eval (.tmp t)) := by
        simp [locVal, Act.eval, ht]
      rw [h1]
      exact ho.locs _ hx _ h2
/-- What the last two operations want. -/
def TailB (P : Program) (G : GT) (t : TypeId) (x ad s : Tmp) (j : Nat) (parts : Array (Nat × Operand)) (Q : St → Prop) (st : St) : Prop :=
  ∃ (outB outS : Out) (k off : Nat), (s < st.tmps.length ∧ x < st.tmps.length) ∧ vBuild P G t parts st = some outB ∧ vStore P G t (.tmp ad) (.tmp x) (finish outB.st (some x) outB.v outB.act) = some outS ∧ (finish outB.st (some x) outB.v outB.act).eval G (.tmp ad) = .ptr k off ∧ outS.st.eval G (.tmp ad) = .ptr k off ∧ (∃ cs, getKey k (finish outB.st (some x) outB.v outB.act).H = some (.cells cs)) ∧
    (∀ (o : Oper), o.op = .build t parts → ∀ base R μ a w, Rel P G base R μ st a w → ∃ cs : Array Value, (execOp a.eval o).run P w = .ok (.value (.agg cs)) w ∧ cs[j]? = some (a.eval (.tmp s)) ∧ cs.size = P.cellsOf t) ∧ (getKey k outS.st.H).isSome = true ∧ Q { outS.st with own := addAlias (.t s) (.c k (off + j)) outS.st.own }
theorem region_build_ok {id : Nat} {ops ops' : Array Oper} {m : Nat} {t : TypeId} {x ad s : Tmp} {j : Nat} {parts : Array (Nat × Operand)} {y0 y1 : TypeId} {p0 p1 : String} {f0 f1 : Array Edge} {Q : Exit → St → Prop}
    (hW : sameWait ops ops') (hS : ∀ i, i < m → ∃ o, ops[i]? = some o ∧ ops'[i]? = some o ∧ o.guard = none)
    (h0 : ops[m]? = some ⟨some x, .build t parts, y0, p0, f0, none⟩) (h1 : ops[m + 1]? = some ⟨none, .store t (.tmp ad) (.tmp x), y1, p1, f1, none⟩)
    (hB : (P.follows .mixedOrders && lexDE ops' m && (decide (ops.size = m + 2) && (Region.ready .any ops (listedTo m ops.size) == [m]) && (Region.ready .any ops ((listedTo m ops.size).setIfInBounds m true) == [m + 1]) && (Region.ready .any ops (((listedTo m ops.size).setIfInBounds m true).setIfInBounds (m + 1) true) == []))) = true)
    (hF : freshB ops' st = true) (hne : x ≠ s ∧ x ≠ ad) (hct : P.cellsOf t ≠ 0)
    (h : VK P G [.ops true ops' (ops'.toList.take m)] .normal st fun _ s1 => TailB P G t x ad s j parts (fun s' => Q .normal s') s1) : SW P G (.region id ops true) st Q := by
  simp only [Bool.and_eq_true, decide_eq_true_eq, beq_iff_eq] at hB
  obtain ⟨⟨hm, hL⟩, ⟨⟨hsz, r0⟩, r1⟩, r2⟩ := hB
  refine region_tail_ok2 hW hS hm hL hF (VOps_of_VK h) ?_
  rintro s1 base R μ a w QQ ⟨outB, outS, k, off, k0, k1, k2, k3, k4, ⟨cs0, k5⟩, hraw, k6, k7⟩ hr hk
  have h2s : ops.size - m = 2 := by rw [hsz]; exact Nat.add_sub_cancel_left ..
  rw [h2s]
  obtain ⟨cs, e0, e1, e2⟩ := hraw ⟨some x, .build t parts, y0, p0, f0, none⟩ rfl base R μ a w hr
  obtain ⟨v, w1, R1, μ1, hrun, hr1, hv1, ha1, hs1⟩ := vBuild_ok (o := ⟨some x, .build t parts, y0, p0, f0, none⟩) rfl k1 base R μ a w hr
  rw [e0] at hrun
  have hv : v = .agg cs ∧ w1 = w := by
    rcases hrun with hrun | ⟨hrun, _⟩
    · cases hrun; exact ⟨rfl, rfl⟩
    · cases hrun
  obtain ⟨rfl, rfl⟩ := hv
  have hr2 := hr1.put (dst := some x) hv1 ha1
  generalize ha : a.put (some x) (.agg cs) = a1 at hr2
  have hsa : s < a.tmps.size := by rw [hr.size]; exact k0.1
  have hxa : x < a.tmps.size := by rw [hr.size]; exact k0.2
  have hsa1 : s < a1.tmps.size := by rw [← ha, size_put]; exact hsa
  have es : a1.eval (.tmp s) = a.eval (.tmp s) := by rw [← ha]; exact eval_put_ne _ _ (Ne.symm hne.1)
  obtain ⟨v2, w2, R2, μ2, hrun2, hr3, _, _, hs2⟩ := vStore_ok (o := ⟨none, .store t (.tmp ad) (.tmp x), y1, p1, f1, none⟩) rfl k2 base R1 μ1 a1 w1 hr2
  -- what is stored
  obtain ⟨_, _, cur, T0, hh, hcz, _⟩ := hr2.objs k _ k5
  have had := hr2.evalPtr k3
  have hxv : a1.eval (.tmp x) = .agg cs := by
    rw [← ha]
    exact eval_put_same _ _ hxa
  have hcc : (Value.agg cs).cells = cs := rfl
  unfold vStore at k2
  rw [k3] at k2
  split at k2
  rotate_left
  · cases k2
  rename_i k' off' ys hk' hys
  cases hk'
  rw [k5] at k2
  simp only at k2
  split at k2
  rotate_left
  · cases k2
  rename_i hcd
  have hvx : vcells ((finish outB.st (some x) outB.v outB.act).eval G (.tmp x)) = some ys := hys
  obtain ⟨hvs, hvc⟩ := vcells_ok (hr2.eval (.tmp x)) hvx
  rw [hxv, hcc] at hvs hvc
  have hone : ∀ u ∈ cs.toList, u.oneCell' = true := fun u hu => by
    obtain ⟨i, hi⟩ := List.getElem?_of_mem hu
    have hil : i < ys.length := by rw [← hvs]; simpa using (List.getElem?_eq_some_iff.1 hi).1
    obtain ⟨_, _, h2⟩ := hvc i ys[i] (by simp [hil])
    have : cs.getD i undef = u := by
      have : cs[i]? = some u := by simpa using hi
      simp [Array.getD_eq_getD_getElem?, this]
    rw [this] at h2
    exact h2
  have hfit : off + cs.size ≤ cur.size := by rw [hcz, hvs]; omega
  have hst := run_store_at (P := P) (a := a1) (w := w1) (o := ⟨none, .store t (.tmp ad) (.tmp x), y1, p1, f1, none⟩) rfl had hh (by rw [hxv, hcc]; exact e2) hct (by rw [hxv, hcc]; exact hone) (by rw [hxv, hcc]; exact hfit)
  rw [hxv, hcc] at hst
  have hw2 : w2 = w1.setRow (μ1 k) (spl cur off cs.toList) := by
    rw [hst] at hrun2
    rcases hrun2 with hrun2 | ⟨hrun2, _⟩
    · cases hrun2
    · cases hrun2; rfl
  have hμ : μ2 k = μ1 k := by
    have h1 := hr3.evalPtr k4
    rw [had] at h1
    have h2 := (Addr.mk.inj (Option.some.inj (Value.pointer.inj h1))).1
    exact h2.symm
  have hcell : ∀ u, w2.cell? ⟨μ2 k, off + j, none⟩ = some u → u = a1.eval (.tmp s) := fun u hu => by
    have hjl : j < cs.size := (Array.getElem?_eq_some_iff.1 e1).1
    rw [hμ, hw2, cell_of_row _ _ _ _ T0 (0, 0) (setRow_heap w1 (μ1 k) cur _ T0 _ hh), spl_get (by simpa using hfit), if_neg (by omega), if_pos (by simp; omega), Nat.add_sub_cancel_left] at hu
    have : cs.toList[j]? = some (a.eval (.tmp s)) := by simpa using e1
    rw [this] at hu
    cases hu
    exact es.symm
  have hr4 := hr3.alias (t := s) (k := k) (off := off + j) (Option.isSome_iff_exists.1 k6) hsa1 hcell
  refine wpAny_all r0 (by simp) fun i hi => ?_
  simp only [List.mem_singleton] at hi
  subst hi
  refine wpOp_run h0 rfl (.inl e0) ha ?_
  refine wpAny_all r1 (by simp) fun j' hj => ?_
  simp only [List.mem_singleton] at hj
  subst hj
  exact wpOp_run h1 rfl (.inr ⟨by rw [hw2]; exact hst, rfl⟩) rfl (wpAny_done r2 (hk _ _ _ R2 μ2 k7 hr4 (hs1.trans hs2)) _)
/-- The region, its operation m turned to one that appends to s: so the machine keeps what s shares. -/
def fakeOps (ops : Array Oper) (m s x : Nat) : Array Oper := ops.setIfInBounds m ⟨some x, .call { callee := .builtin .append, args := #[.tmp s, .tmp s], argTypes := #[] }, 0, "", ((ops[m]?).map fun o : Oper => o.after).getD #[], none⟩
theorem fake_wait (ops : Array Oper) (m s x : Nat) (hm : m < ops.size) : sameWait ops (fakeOps ops m s x) := by
  refine ⟨by simp [fakeOps], fun i => ?_⟩
  unfold fakeOps
  rw [Array.getElem?_setIfInBounds]
  by_cases h : m = i
  · subst h
    simp [hm]
  · simp [h]
def noGuard (ops : Array Oper) (m : Nat) : Bool := (List.range m).all fun i => match ops[i]? with
  | some o => o.guard == none
  | none => false
theorem region_build {id : Nat} {ops : Array Oper} {m : Nat} {t : TypeId} {x ad : Tmp} {parts : Array (Nat × Operand)} {y0 y1 : TypeId} {p0 p1 : String} {f0 f1 : Array Edge} {Q : Exit → St → Prop} (s : Tmp) (j : Nat)
    (h0 : ops[m]? = some ⟨some x, .build t parts, y0, p0, f0, none⟩) (h1 : ops[m + 1]? = some ⟨none, .store t (.tmp ad) (.tmp x), y1, p1, f1, none⟩)
    (hB : (P.follows .mixedOrders && lexDE (fakeOps ops m s x) m && (decide (ops.size = m + 2) && (Region.ready .any ops (listedTo m ops.size) == [m]) && (Region.ready .any ops ((listedTo m ops.size).setIfInBounds m true) == [m + 1]) && (Region.ready .any ops (((listedTo m ops.size).setIfInBounds m true).setIfInBounds (m + 1) true) == [])) && noGuard ops m) = true)
    (hF : freshB (fakeOps ops m s x) st = true) (hne : x ≠ s ∧ x ≠ ad) (hct : P.cellsOf t ≠ 0)
    (h : VK P G [.ops true (fakeOps ops m s x) (ops.toList.take m)] .normal st fun _ s1 => TailB P G t x ad s j parts (fun s' => Q .normal s') s1) : SW P G (.region id ops true) st Q := by
  rw [Bool.and_eq_true] at hB
  obtain ⟨hB, hG⟩ := hB
  have hsz : ops.size = m + 2 := by
    simp only [Bool.and_eq_true, decide_eq_true_eq] at hB
    exact hB.2.1.1.1
  have htk : (fakeOps ops m s x).toList.take m = ops.toList.take m := by
    unfold fakeOps
    rw [Array.toList_setIfInBounds, List.take_set_of_le (Nat.le_refl _)]
  refine region_build_ok (ops' := fakeOps ops m s x) (fake_wait ops m s x (by omega)) (fun i hi => ?_) h0 h1 hB hF hne hct (by rw [htk]; exact h)
  have hg := List.all_eq_true.1 hG i (List.mem_range.2 hi)
  split at hg
  · rename_i o ho
    refine ⟨o, ho, ?_, by simpa using hg⟩
    unfold fakeOps
    rw [Array.getElem?_setIfInBounds, if_neg (by omega)]
    exact ho
  · cases hg
end
end Go.VM
end
