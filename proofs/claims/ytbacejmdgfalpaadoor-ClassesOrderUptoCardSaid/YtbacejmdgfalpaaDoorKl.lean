/- The examples' modules: a slice in them is nobody else's; the walk at the level of worlds. No condition. -/
import Derived.Test.YtbacejmdgfalpaaDoorKk
set_option linter.unusedVariables false
set_option linter.unusedSimpArgs false
set_option linter.unusedSectionVars false
namespace Go.VM
open Go Go.RowKit
section
variable {P : Program} {G : GT} {st : St}
theorem load_row {t : TypeId} {d : TypeDesc} (hd : P.underlying t = some d) (hagg : descAgg d = true) {b : Nat} {row : Array Value} {T : TypeId} {w : World} (hh : w.heap[b]? = some (.cells row T (0, 0))) (hs : P.cellsOf t = row.size) :
    (loadVar t ⟨b, 0, none⟩).run P w = .ok (.agg row) w := by
  have hl := run_loadCells_list (P := P) w ⟨b, 0, none⟩ row.toList (fun j v hj => by
    rw [add_none, Nat.zero_add, cell_of_row w _ _ row T (0, 0) hh]
    simpa using hj)
  rw [Array.length_toList] at hl
  unfold loadVar
  simp only [Sem.run_bind, run_isAgg hd, Result.andThen_ok, hagg, if_true, run_sizeOf hd, hs, hl, Sem.run_pure]
theorem alloc_setRow (w : World) {b : Nat} (hb : b < w.heap.size) (ob : Obj) (row : Array Value) : (w.alloc ob).setRow b row = (w.setRow b row).alloc ob := by
  unfold World.setRow World.alloc
  cases w with
  | mk heap tape drawn os output =>
    simp only at hb ⊢
    congr 1
    apply Array.ext
    · simp
    · intro k h1 h2
      simp only [Array.getElem_modify, Array.getElem_push, Array.size_modify]
      by_cases hk : k < heap.size
      · simp [hk]
      · have hne : ¬ b = k := by omega
        simp [hk, hne]
theorem setRow_size (w : World) (b : Nat) (row : Array Value) : (w.setRow b row).heap.size = w.heap.size := by
  unfold World.setRow
  simp
end
end Go.VM
namespace Go.Proofs.YtbacejmdgfalpaaDoor
open Go Go.VM Go.RowKit
set_option maxRecDepth 100000
set_option maxHeartbeats 8000000
variable {G : GT}
theorem el_in : elemOfD Tryd.prog 24 = some 57 := by kernel_rfl
theorem ok_in : elemOk Tryd.prog 57 = true := by kernel_rfl
theorem cells_in : Tryd.prog.cellsOf 57 = 12 := by kernel_rfl
theorem cells_mo : Tryd.prog.cellsOf 29 = 6 := by kernel_rfl
/-- What the machine knows ahead of the last three operations of 'lists'. -/
def T2 (G : GT) (s : St) : Prop := ∃ (x11 : D) (c14 c20 : List D), s.tmps.length = 23 ∧ s.eval G (.tmp 11) = .d x11 ∧ WkD x11 (.sl ([clX].map clC)) ∧ s.eval G (.tmp 14) = .d (.agg c14) ∧ WkL c14 (inC in1) ∧ s.eval G (.tmp 20) = .d (.agg c20) ∧ WkL c20 (inC in2) ∧ s.eval G (.tmp 0) = .ptr 0 0 ∧ ∃ cs, getKey 0 s.H = some (.cells cs) ∧ cs.length = 6
abbrev niV : Value := .slice none 0 0
theorem build_mo {a : Act} {w : World} {o : Oper} (ho : o.op = .build 29 #[(1, .tmp 11), (2, .tmp 21)]) {a1 a2 : Option Addr} {n1 n2 c1 c2 : Nat} (h1 : a.eval (.tmp 11) = .slice a1 n1 c1) (h2 : a.eval (.tmp 21) = .slice a2 n2 c2) :
    (execOp a.eval o).run Tryd.prog w = .ok (.value (.agg #[niV, .slice a1 n1 c1, .slice a2 n2 c2, niV, niV, niV])) w := by
  have hz : (Tryd.prog.info? 29).bind (·.zero) = some (.agg #[niV, niV, niV, niV, niV, niV]) := by kernel_rfl
  obtain ⟨i, hi, hz⟩ := Option.bind_eq_some_iff.1 hz
  simp [execOp, ho, Instr.build, zeroValue, typeInfo, hi, hz]
  rw [h1, h2]
  rfl
theorem V.sl_inv {R : Nat → Nat → Prop} {w : World} {v : Value} {es : List (List D)} (h : V R w v (.sl es)) : ∃ ao n c, v = .slice ao n c := by
  cases h with
  | emp ao cap => exact ⟨_, _, _, rfl⟩
  | sl b o n cap size es f h1 h2 h3 h4 h5 h6 h7 => exact ⟨_, _, _, rfl⟩
theorem lists_tail {ops : Array Oper} {QQ : Exit → Act → World → Prop} (h14 : ∃ o, ops[14]? = some o ∧ o.guard = none ∧ o.dst = some 21 ∧ o.op = .buildSlice 24 2 #[(0, .tmp 14), (1, .tmp 20)])
    (h15 : ∃ o, ops[15]? = some o ∧ o.guard = none ∧ o.dst = some 22 ∧ o.op = .build 29 #[(1, .tmp 11), (2, .tmp 21)]) (h16 : ∃ o, ops[16]? = some o ∧ o.guard = none ∧ o.dst = none ∧ o.op = .store 29 (.tmp 0) (.tmp 22))
    (hr : (decide (ops.size = 17) && (Region.ready .any ops (listedTo 14 ops.size) == [14]) && (Region.ready .any ops ((listedTo 14 ops.size).setIfInBounds 14 true) == [15]) && (Region.ready .any ops (((listedTo 14 ops.size).setIfInBounds 14 true).setIfInBounds 15 true) == [16]) && (Region.ready .any ops ((((listedTo 14 ops.size).setIfInBounds 14 true).setIfInBounds 15 true).setIfInBounds 16 true) == [])) = true)
    {st : St} {base : Base} {R : Nat → Nat → Prop} {μ : Nat → Nat} {a : Act} {w : World} (hT : T2 G st) (hR : Rel Tryd.prog G base R μ st a w)
    (hQ : ∀ (cs : Array Value) (v1 : Value) (a' : Act), a'.defers = [] → a'.tmps.getD 0 undef = .pointer (some ⟨μ 0, 0, none⟩) → V R w v1 (.sl ([clX].map clC)) → cs.size = 24 →
      (∀ i j c d, ([in1, in2].map inC)[i]? = some c → c[j]? = some d → d.one = true ∧ ∃ v, cs[i * 12 + j]? = some v ∧ V R w v d) → (∃ row T, w.heap[μ 0]? = some (.cells row T (0, 0)) ∧ row.size = 6) →
      QQ .normal a' ((w.alloc (.cells cs 57)).setRow (μ 0) #[niV, v1, .slice (some ⟨w.heap.size, 0, none⟩) 2 2, niV, niV, niV])) :
    wpAny Tryd.prog .any ops QQ (ops.size - 14) (listedTo 14 ops.size) a w := by
  simp only [Bool.and_eq_true, decide_eq_true_eq, beq_iff_eq] at hr
  obtain ⟨⟨⟨⟨hsz, r0⟩, r1⟩, r2⟩, r3⟩ := hr
  obtain ⟨o14, g14, q14, d14, p14⟩ := h14
  obtain ⟨o15, g15, q15, d15, p15⟩ := h15
  obtain ⟨o16, g16, q16, d16, p16⟩ := h16
  obtain ⟨x11, c14, c20, hlen, e11, k11, e14, k14, e20, k20, e0, cs0, hk0, hcs0⟩ := hT
  have l14 : c14.length = 12 := k14.1.trans rfl
  have l20 : c20.length = 12 := k20.1.trans rfl
  have hps : partsD G st (#[((0 : Nat), Operand.tmp 14), (1, Operand.tmp 20)] : Array (Nat × Operand)).toList = some [(0, .agg c14), (1, .agg c20)] := by
    show partsD G st [((0 : Nat), Operand.tmp 14), (1, Operand.tmp 20)] = _
    simp only [partsD, e14, e20]
  obtain ⟨cs, hrun, hcsz, hcs⟩ := buildSlice_raw p14 el_in hps ok_in rfl (by simp [D.cells, l14, l20, cells_in]) (by rw [cells_in]; decide) hR
  rw [cells_in] at hcsz hcs
  have hv11 := hR.evalD e11
  have hv1 : V R w (a.eval (.tmp 11)) (.sl ([clX].map clC)) := hv11.wk k11
  obtain ⟨ao, n1, c1, hs1⟩ := V.sl_inv hv1
  have hp0 := hR.evalPtr e0
  obtain ⟨_, _, cur, T0, hh, hcz, _⟩ := hR.objs 0 _ hk0
  have hlt : μ 0 < w.heap.size := (Array.getElem?_eq_some_iff.1 hh).1
  have hts : a.tmps.size = 23 := by rw [hR.size, hlen]
  have h2s : ops.size - 14 = 3 := by omega
  rw [h2s]
  refine wpAny_all r0 (by simp) fun i hi => ?_
  simp only [List.mem_singleton] at hi
  subst hi
  refine wpOp_run g14 q14 (.inl hrun) rfl ?_
  rw [d14]
  generalize ha1 : a.put (some 21) (.slice (some ⟨w.heap.size, 0, none⟩) 2 2) = a1
  have s1 : a1.tmps.size = 23 := by rw [← ha1, size_put]; exact hts
  have e11' : a1.eval (.tmp 11) = .slice ao n1 c1 := by rw [← ha1, eval_put_ne _ _ (by decide)]; exact hs1
  have e21' : a1.eval (.tmp 21) = .slice (some ⟨w.heap.size, 0, none⟩) 2 2 := by rw [← ha1]; exact eval_put_same _ _ (by omega)
  have e0' : a1.eval (.tmp 0) = .pointer (some ⟨μ 0, 0, none⟩) := by rw [← ha1, eval_put_ne _ _ (by decide)]; exact hp0
  have d1 : a1.defers = [] := by rw [← ha1]; exact hR.defers
  refine wpAny_all r1 (by simp) fun i hi => ?_
  simp only [List.mem_singleton] at hi
  subst hi
  refine wpOp_run g15 q15 (.inl (build_mo p15 e11' e21')) rfl ?_
  rw [d15]
  generalize ha2 : a1.put (some 22) (.agg #[niV, .slice ao n1 c1, .slice (some ⟨w.heap.size, 0, none⟩) 2 2, niV, niV, niV]) = a2
  have e22 : a2.eval (.tmp 22) = .agg #[niV, .slice ao n1 c1, .slice (some ⟨w.heap.size, 0, none⟩) 2 2, niV, niV, niV] := by rw [← ha2]; exact eval_put_same _ _ (by omega)
  have e0'' : a2.eval (.tmp 0) = .pointer (some ⟨μ 0, 0, none⟩) := by rw [← ha2, eval_put_ne _ _ (by decide)]; exact e0'
  have d2 : a2.defers = [] := by rw [← ha2]; exact d1
  refine wpAny_all r2 (by simp) fun i hi => ?_
  simp only [List.mem_singleton] at hi
  subst hi
  have hh2 : (w.alloc (.cells cs 57)).heap[μ 0]? = some (.cells cur T0 (0, 0)) := by rw [Below.heap_alloc w _ _ hlt]; exact hh
  have hst := run_store_at (P := Tryd.prog) p16 e0'' hh2 (by rw [e22, cells_mo]; rfl) (by rw [cells_mo]; decide) (by rw [e22]; intro u hu; simp [Value.cells] at hu; rcases hu with rfl | rfl | rfl | rfl <;> rfl) (by rw [e22, hcz, hcs0]; simp [Value.cells])
  refine wpOp_run g16 q16 (.inr ⟨hst, rfl⟩) rfl ?_
  rw [d16]
  have hspl : spl cur 0 (a2.eval (.tmp 22)).cells.toList = #[niV, .slice ao n1 c1, .slice (some ⟨w.heap.size, 0, none⟩) 2 2, niV, niV, niV] := by
    rw [e22]
    have hc6 : cur.toList.length = 6 := by simp [hcz, hcs0]
    unfold spl
    simp [Value.cells]
    omega
  rw [hspl]
  refine wpAny_done r3 ?_ _
  have h0 := hQ cs (a.eval (.tmp 11)) (a2.put none undef) d2 (by simpa [Act.put, Act.eval] using e0'') hv1 hcsz (fun i j c d hi hj => ?_) ⟨cur, T0, hh, by omega⟩
  · rw [hs1] at h0
    exact h0
  · match i, hi with
    | 0, hi =>
      simp only [List.map_cons, List.getElem?_cons_zero, Option.some.injEq] at hi
      subst hi
      have hjl : j < c14.length := by rw [k14.1]; exact (List.getElem?_eq_some_iff.1 hj).1
      have hx : c14[j]? = some c14[j] := List.getElem?_eq_getElem hjl
      have hw := k14.2 j _ _ hx hj
      obtain ⟨q1, v, q2, q3⟩ := hcs 0 j c14 _ rfl hx
      exact ⟨hw.one.trans q1, v, q2, q3.wk hw⟩
    | 1, hi =>
      simp only [List.map_cons, List.getElem?_cons_succ, List.getElem?_cons_zero, Option.some.injEq] at hi
      subst hi
      have hjl : j < c20.length := by rw [k20.1]; exact (List.getElem?_eq_some_iff.1 hj).1
      have hx : c20[j]? = some c20[j] := List.getElem?_eq_getElem hjl
      have hw := k20.2 j _ _ hx hj
      obtain ⟨q1, v, q2, q3⟩ := hcs 1 j c20 _ rfl hx
      exact ⟨hw.one.trans q1, v, q2, q3.wk hw⟩
    | i + 2, hi => simp at hi
end Go.Proofs.YtbacejmdgfalpaaDoor
