/- The examples' modules: the frame that takes one, and that takes the definitions away; the walks. No condition. -/
import Derived.Test.YtbacejmdgfalpaaDoorKq
set_option linter.unusedVariables false
set_option linter.unusedSimpArgs false
set_option linter.unusedSectionVars false
namespace Go.Proofs.YtbacejmdgfalpaaDoor
open Go Go.VM Go.RowKit
set_option maxRecDepth 100000
set_option maxHeartbeats 8000000
variable {G : GT}
theorem exec_lists (a : Act) (w : World) {o : Oper} (ho : o.op = .call { callee := .value (.func 28), args := #[], argTypes := #[] }) : (execOp a.eval o).run Tryd.prog w = .ok (.enter 28 #[]) w := by
  obtain ⟨fn, hf1, hf2, hf3⟩ := ent_l25_lists
  have hf2' : ¬ fn.body = none := fun he => by simp [he] at hf2
  have hf3' : ¬ fn.name = "runtime.NumGoroutine" := by simpa using hf3
  simp [execOp, ho, resolve, Act.eval, Deferred.ofValue, invoke, callFunc, hf1, hf2', hf3']
theorem zero_mo : (Tryd.prog.info? tMo).bind (·.zero) = some (.agg #[niV, niV, niV, niV, niV, niV]) := by kernel_rfl
theorem row_one {R' : Nat → Nat → Prop} {w' : World} {row : Array Value} {df : D} (hsz : row.size = 6) (hV : ∀ i d, (rawMo df)[i]? = some d → V R' w' (row.getD i undef) d) : ∀ u ∈ row.toList, u.oneCell' = true := fun u hu => by
  obtain ⟨i, hi⟩ := List.getElem?_of_mem hu
  have hil : i < row.size := by simpa using (List.getElem?_eq_some_iff.1 hi).1
  have hl : i < (rawMo df).length := by rw [hsz] at hil; exact hil
  have h1 := hV i _ (List.getElem?_eq_getElem hl)
  have : row.getD i undef = u := by
    have : row[i]? = some u := by simpa using hi
    simp [Array.getD_eq_getD_getElem?, this]
  rw [this] at h1
  exact h1.oneCell (raw_one (List.getElem?_eq_getElem hl))
theorem lists_ops {st : St} {k t : Nat} (hkt : t ≠ k) (htl : t < st.tmps.length) {y1 y2 y3 : TypeId} {p1 p2 p3 : String} {f1 f2 f3 : Array Edge} {ops : Array Oper} {Q : Exit → Act → World → Prop} {base : Base} {R : Nat → Nat → Prop} {μ : Nat → Nat} {a : Act} {w : World} (hr : Rel Tryd.prog G base R μ st a w)
    (h : ∀ row R' w', ListsZ R w df0 row R' w' → Q .normal ((a.put (some t) (.agg row)).put (some k) (.pointer (some ⟨w'.heap.size, 0, none⟩))) (w'.alloc (.cells row tMo))) (hkl : k < st.tmps.length) :
    wpList Tryd.prog ops Q [⟨some t, .call { callee := .value (.func 28), args := #[], argTypes := #[] }, y1, p1, f1, none⟩, ⟨some k, .alloc tMo, y2, p2, f2, none⟩, ⟨none, .store tMo (.tmp k) (.tmp t), y3, p3, f3, none⟩] a w := by
  rw [← hr.size] at htl hkl
  refine wpList_plain rfl fun K hK => ?_
  unfold Oper.wp
  rw [exec_lists a w rfl]
  show Calls Tryd.prog 28 #[] w _
  refine (lists_z (G := G) (hr.glob.up hr.base) hr.rset).mono fun e w' ⟨row, R', he, hz⟩ => ?_
  subst he
  refine hK _ _ ?_
  obtain ⟨a1, ha1⟩ : ∃ a1, a.put (some t) (.agg row) = a1 := ⟨_, rfl⟩
  have hs1 : a1.tmps.size = a.tmps.size := by rw [← ha1, size_put]
  have he1 : a1.eval (.tmp t) = .agg row := by rw [← ha1]; exact eval_put_same _ _ htl
  show wpList _ _ _ _ (a.put (some t) (.agg row)) w'
  rw [ha1]
  refine wpList_plain rfl fun K hK => ?_
  unfold Oper.wp
  rw [run_alloc_at rfl zero_mo]
  refine hK _ _ ?_
  obtain ⟨a2, ha2⟩ : ∃ a2, a1.put (some k) (.pointer (some ⟨w'.heap.size, 0, none⟩)) = a2 := ⟨_, rfl⟩
  have he2 : a2.eval (.tmp t) = .agg row := by rw [← ha2, eval_put_ne _ _ hkt]; exact he1
  have hp2 : a2.eval (.tmp k) = .pointer (some ⟨w'.heap.size, 0, none⟩) := by rw [← ha2]; exact eval_put_same _ _ (by rw [hs1]; exact hkl)
  show wpList _ _ _ _ (a1.put (some k) (.pointer (some ⟨w'.heap.size, 0, none⟩))) _
  rw [ha2]
  have hrow := hz.1
  have hst := run_store_at (P := Tryd.prog) (a := a2) (o := ⟨none, .store tMo (.tmp k) (.tmp t), y3, p3, f3, none⟩) rfl hp2 (heap_alloc_new w' (.cells (Value.agg #[niV, niV, niV, niV, niV, niV]).cells tMo)) (by rw [he2]; show row.size = _; rw [hrow]; rfl) (by rw [cells_mo]; decide) (by rw [he2]; exact row_one hrow hz.2.2.2.1) (by rw [he2]; show 0 + row.size ≤ 6; omega)
  rw [he2] at hst
  have hspl : spl (Value.agg #[niV, niV, niV, niV, niV, niV]).cells 0 (Value.agg row).cells.toList = row := by
    have hc6 : row.toList.length = 6 := by simpa using hrow
    unfold spl
    show (List.take 0 _ ++ row.toList ++ List.drop (0 + row.toList.length) [niV, niV, niV, niV, niV, niV]).toArray = row
    rw [hc6]
    simp
  rw [hspl, setRow_alloc] at hst
  refine wpList_plain rfl fun K hK => ?_
  unfold Oper.wp
  rw [hst]
  refine hK _ _ (wpList_nil ?_)
  have := h row R' w' hz
  rw [ha1, ha2] at this
  simpa [Act.put] using this
/-- A frame takes such a module: its instances may grow. -/
theorem SW_take {st : St} {k t id : Nat} (hk : k < 100000) (hkt : t ≠ k) (htl : t < st.tmps.length) (hkl : k < st.tmps.length) {y1 y2 y3 : TypeId} {p1 p2 p3 : String} {f1 f2 f3 : Array Edge} {Q : Exit → St → Prop} (h : Q .normal (coreSt st k t df0)) :
    SW Tryd.prog G (.region id #[⟨some t, .call { callee := .value (.func 28), args := #[], argTypes := #[] }, y1, p1, f1, none⟩, ⟨some k, .alloc tMo, y2, p2, f2, none⟩, ⟨none, .store tMo (.tmp k) (.tmp t), y3, p3, f3, none⟩] false) st Q := by
  intro base R μ a w hr
  refine wp_region_list (lists_ops hkt htl hr (fun row R' w' hz => ?_) hkl)
  obtain ⟨μ', h1, h2⟩ := lists_core hr hz k t hk hkt htl
  exact ⟨_, R', μ', h, h1, h2⟩
theorem fld_ins : fieldOf Tryd.prog tMo 2 = some (2, 24) := by kernel_rfl
theorem fld_defs : fieldOf Tryd.prog tIn 3 = some (11, 27) := by kernel_rfl
theorem und_ins : Tryd.prog.underlying 24 = some (.slice tIn) := by kernel_rfl
theorem SW_less {st : St} {k t u1 u2 u3 u4 id id2 : Nat} (hk : k < 100000) (hkt : t ≠ k) (htl : t < st.tmps.length) (hkl : k < st.tmps.length) (hul : u1 < st.tmps.length ∧ u2 < st.tmps.length ∧ u3 < st.tmps.length ∧ u4 < st.tmps.length)
    {y1 y2 y3 z1 z2 z3 z4 z5 : TypeId} {p1 p2 p3 q1 q2 q3 q4 q5 : String} {f1 f2 f3 g1 g2 g3 g4 g5 : Array Edge} {rest : Code} {Q : Exit → St → Prop} (h : SW Tryd.prog G rest (finish (finish (finish (finish (coreSt st k t .nils) (some u1) .undef .no) (some u2) .undef .no) (some u3) .undef .no) (some u4) .undef .no) Q) :
    SW Tryd.prog G (.seq (.region id #[⟨some t, .call { callee := .value (.func 28), args := #[], argTypes := #[] }, y1, p1, f1, none⟩, ⟨some k, .alloc tMo, y2, p2, f2, none⟩, ⟨none, .store tMo (.tmp k) (.tmp t), y3, p3, f3, none⟩] false)
      (.seq (.region id2 #[⟨some u1, .fieldAddr tMo (.tmp k) 2, z1, q1, g1, none⟩, ⟨some u2, .load 24 (.tmp u1), z2, q2, g2, none⟩, ⟨some u3, .indexAddr 24 (.tmp u2) (.const (.int .i64 1)), z3, q3, g3, none⟩, ⟨some u4, .fieldAddr tIn (.tmp u3) 3, z4, q4, g4, none⟩, ⟨none, .store 27 (.tmp u4) (.const (.slice none 0 0)), z5, q5, g5, none⟩] false) rest)) st Q := by
  intro base R μ a w hr
  refine wp_seq (wp_region_list (lists_ops hkt htl hr (fun row R' w' hz => ?_) hkl))
  obtain ⟨g, cap, cur, hv, hh, hcur, R2, hz2⟩ := less_z hr.rset hz
  obtain ⟨μ', h1, h2⟩ := lists_core hr hz2 k t hk hkt htl
  have hsz := hr.size
  rw [← hsz] at htl hkl hul
  have hgl : g < w'.heap.size := (Array.getElem?_eq_some_iff.1 hh).1
  have hn2 : (w'.setRow g (spl cur 23 [niV])).heap.size = w'.heap.size := by simp
  rw [hn2, ← alloc_setRow w' hgl] at h1
  rw [← alloc_setRow w' hgl] at h2
  obtain ⟨a2, ha2⟩ : ∃ a2, (a.put (some t) (.agg row)).put (some k) (.pointer (some ⟨w'.heap.size, 0, none⟩)) = a2 := ⟨_, rfl⟩
  rw [ha2] at h1 ⊢
  have hs2 : a2.tmps.size = a.tmps.size := by rw [← ha2, size_put, size_put]
  have hp2 : a2.eval (.tmp k) = .pointer (some ⟨w'.heap.size, 0, none⟩) := by rw [← ha2]; exact eval_put_same _ _ (by rw [size_put]; exact hkl)
  obtain ⟨l1, l2, l3, l4⟩ := hul
  show Code.wp _ _ _ _ _
  refine wp_seq (wp_region_list ?_)
  have hhg : (w'.alloc (.cells row tMo)).heap[g]? = some (.cells cur tIn (0, 0)) := by rw [Below.heap_alloc w' _ _ hgl]; exact hh
  have hrow : row[2]? = some (.slice (some ⟨g, 0, none⟩) 2 cap) := by
    have h6 : 2 < row.size := by rw [hz.1]; decide
    rw [← hv]
    simp [Array.getD_eq_getD_getElem?, h6]
  refine wpList_plain rfl fun K hK => ?_
  unfold Oper.wp
  rw [run_fieldAddr_at rfl fld_ins (by decide +kernel) hp2]
  refine hK _ _ ?_
  have e1 : (a2.put (some u1) (.pointer (some ⟨w'.heap.size, 0 + 2, none⟩))).eval (.tmp u1) = .pointer (some ⟨w'.heap.size, 0 + 2, none⟩) := eval_put_same _ _ (by rw [hs2]; exact l1)
  refine wpList_plain rfl fun K hK => ?_
  unfold Oper.wp
  rw [run_load_one rfl und_ins rfl e1 (by rw [cell_of_row _ _ _ row tMo (0, 0) (heap_alloc_new w' _)]; exact hrow)]
  refine hK _ _ ?_
  refine wpList_plain rfl fun K hK => ?_
  unfold Oper.wp
  rw [run_indexAddr_at (k := 1) (kd := .i64) rfl und_ins (eval_put_same _ _ (by rw [size_put, hs2]; exact l2)) rfl (by decide) (by rw [cells_in]; decide), cells_in]
  refine hK _ _ ?_
  refine wpList_plain rfl fun K hK => ?_
  unfold Oper.wp
  rw [run_fieldAddr_at rfl fld_defs (by decide +kernel) (eval_put_same _ _ (by rw [size_put, size_put, hs2]; exact l3))]
  refine hK _ _ ?_
  refine wpList_plain rfl fun K hK => ?_
  unfold Oper.wp
  have hst := run_store_at (P := Tryd.prog) (a := (((a2.put (some u1) (.pointer (some ⟨w'.heap.size, 0 + 2, none⟩))).put (some u2) (.slice (some ⟨g, 0, none⟩) 2 cap)).put (some u3) (.pointer (some ⟨g, 1 * 12, none⟩))).put (some u4) (.pointer (some ⟨g, 1 * 12 + 11, none⟩))) (w := w'.alloc (.cells row tMo)) (o := ⟨none, .store 27 (.tmp u4) (.const (.slice none 0 0)), z5, q5, g5, none⟩) rfl
    (eval_put_same _ _ (by rw [size_put, size_put, size_put, hs2]; exact l4)) hhg (by show 1 = _; kernel_rfl) (by decide +kernel) (by intro u hu; simp [Act.eval, Value.cells] at hu; subst hu; rfl) (by show 1 * 12 + 11 + 1 ≤ cur.size; omega)
  rw [hst]
  refine hK _ _ (wpList_nil ?_)
  have n1 := h1.put (dst := some u1) (v := .pointer (some ⟨w'.heap.size, 0 + 2, none⟩)) (act := .no) (.undef _) trivial
  have n2 := n1.put (dst := some u2) (v := .slice (some ⟨g, 0, none⟩) 2 cap) (act := .no) (.undef _) trivial
  have n3 := n2.put (dst := some u3) (v := .pointer (some ⟨g, 1 * 12, none⟩)) (act := .no) (.undef _) trivial
  have n4 := n3.put (dst := some u4) (v := .pointer (some ⟨g, 1 * 12 + 11, none⟩)) (act := .no) (.undef _) trivial
  exact wp_mono (h base R2 μ' _ _ n4) fun e2 a3 w3 ⟨s2, R3, μ3, r1, r2, r3⟩ => ⟨s2, R3, μ3, r1, r2, h2.trans r3⟩
end Go.Proofs.YtbacejmdgfalpaaDoor
