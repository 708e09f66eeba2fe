/- The abstract machine on plain data: the operations that leave the world alone, second part. No condition. -/
import Derived.Test.YtdnkdeplpnbojaaDoorVm6
import Derived.Laws.StructEq
import Derived.Laws.Strings2
set_option linter.unusedVariables false
set_option linter.unusedSimpArgs false
set_option linter.unusedSectionVars false
namespace Go.VM
open Go Go.RowKit

section
variable {P : Program} {G : GT} {st : St} {out : Out}
variable {base : Nat} {R : Nat → Nat → Prop} {μ : Nat → Nat} {a : Act} {w : World}

theorem str_beq (x y : List UInt8) : ((⟨x.toArray⟩ : ByteArray) == ⟨y.toArray⟩) = (x == y) := by
  rw [beq_toListBytes, ByteArray.toList_mk, ByteArray.toList_mk]

theorem run_dbin {op : BinOp} {t : TypeId} {x y : Operand} {p q c : D} {u v : Value} (hu : V R w u p) (hv : V R w v q) (h : dbin op p q = some c) :
    ∃ r, (do eqGuard op t x y u v; binOp op t u v : Sem Value).run P w = .ok r w ∧ V R w r c := by
  unfold dbin at h
  split at h
  · rename_i k m k' n
    obtain rfl := hu.int_inv
    obtain rfl := hv.int_inv
    split at h
    · cases h
    · rename_i hk
      simp only [ne_eq, Decidable.not_not] at hk
      subst hk
      have hg : ∀ o, (eqGuard o t x y (.int k m) (.int k n)).run P w = .ok () w := fun o => by cases o <;> simp [eqGuard]
      cases op <;> simp only [Option.some.injEq, reduceCtorEq] at h
      case quo =>
        split at h
        · cases h
        · rename_i hz
          simp only [Option.some.injEq] at h; subst h
          exact ⟨_, by simp only [Sem.run_bind, hg, Result.andThen_ok]; simp [binOp, Op.intDiv, hz], .int _ _⟩
      case rem =>
        split at h
        · cases h
        · rename_i hz
          simp only [Option.some.injEq] at h; subst h
          exact ⟨_, by simp only [Sem.run_bind, hg, Result.andThen_ok]; simp [binOp, Op.intDiv, hz], .int _ _⟩
      all_goals subst h
      case add => exact ⟨_, by simp only [Sem.run_bind, hg, Result.andThen_ok]; simp [binOp, Op.intArith], .int _ _⟩
      case sub => exact ⟨_, by simp only [Sem.run_bind, hg, Result.andThen_ok]; simp [binOp, Op.intArith], .int _ _⟩
      case mul => exact ⟨_, by simp only [Sem.run_bind, hg, Result.andThen_ok]; simp [binOp, Op.intArith], .int _ _⟩
      all_goals exact ⟨_, by simp only [Sem.run_bind, hg, Result.andThen_ok]; simp only [binOp, ne_eq, not_true_eq_false, if_false, Op.intCmp, Sem.run_pure], .bool _⟩
  · rename_i m n
    obtain rfl := hu.str_inv
    obtain rfl := hv.str_inv
    have hg : ∀ o, (eqGuard o t x y (.string ⟨m.toArray⟩) (.string ⟨n.toArray⟩)).run P w = .ok () w := fun o => by cases o <;> simp [eqGuard]
    cases op <;> simp only [Option.some.injEq, reduceCtorEq] at h
    case add =>
      split at h
      · rename_i hle
        simp only [Option.some.injEq] at h; subst h
        refine ⟨.string ⟨(m ++ n).toArray⟩, ?_, .str _⟩
        have hb : (⟨m.toArray⟩ : ByteArray) ++ ⟨n.toArray⟩ = ⟨(m ++ n).toArray⟩ := by
          apply ByteArray.ext
          simp [ByteArray.data_append]
        have hs : ¬ (((⟨m.toArray⟩ : ByteArray).size + (⟨n.toArray⟩ : ByteArray).size : Nat) : Int) > IntKind.i64.max := by
          show ¬ ((m.toArray.size + n.toArray.size : Nat) : Int) > 9223372036854775807
          simp only [List.size_toArray]
          omega
        simp only [Sem.run_bind, hg, Result.andThen_ok]
        simp only [binOp, Op.stringOp, if_neg hs, Sem.run_pure, hb]
      · cases h
    all_goals subst h
    all_goals exact ⟨_, by simp only [Sem.run_bind, hg, Result.andThen_ok]; simp only [binOp, Op.stringOp, Sem.run_pure, ByteArray.toList_mk], .bool _⟩
  · cases h

theorem scalar_eq {d : TypeDesc} {t : TypeId} {p q : D} {u v : Value} {r : Bool} (n : Nat) (ht : P.underlying t = some d) (hd : scalarDesc d = true) (hu : V R w u p) (hv : V R w v q) (h : eqCell p q = some r)
    (hk : keyFits P t p = true) : (Op.equalIn (n + 1) t u v).run P w = .ok r w := by
  unfold eqCell at h
  split at h
  · rename_i k m k' n'
    obtain rfl := hu.int_inv
    obtain rfl := hv.int_inv
    split at h <;> simp at h
    rename_i hkk; subst hkk h
    unfold keyFits at hk
    rw [ht] at hk
    cases d <;> simp [fitDesc] at hk
    exact run_equalIn_int w n t k _ m n' ht
  · obtain rfl := hu.str_inv
    obtain rfl := hv.str_inv
    simp at h; subst h
    unfold keyFits at hk
    rw [ht] at hk
    cases d <;> simp [fitDesc] at hk
    rw [run_equalIn_string w n t _ _ ht, ByteArray.toList_mk, ByteArray.toList_mk]
  · obtain rfl := hu.bool_inv
    obtain rfl := hv.bool_inv
    simp at h; subst h
    unfold keyFits at hk
    rw [ht] at hk
    cases d <;> simp [fitDesc] at hk
    exact run_equalIn_bool w n t _ _ ht
  · cases h

theorem info_ok {t : TypeId} (h : (P.info? t).isSome = true) (w : World) : (sizeOf t).run P w = .ok (P.cellsOf t) w := by
  cases hi : P.info? t with
  | none => simp [hi] at h
  | some i => simp [sizeOf, typeInfo, hi, Program.cellsOf]

theorem run_mapM_places (w : World) : ∀ (fs : List Field), (∀ f ∈ fs, (P.info? f.type).isSome = true) →
    (fs.mapM (fun f => do pure (f.offset, ← sizeOf f.type)) : Sem (List (Nat × Nat))).run P w = .ok (fs.map fun f => (f.offset, P.cellsOf f.type)) w
  | [], _ => by simp
  | f :: fs, h => by
    have h1 := info_ok (h f (by simp)) w
    have h2 := run_mapM_places w fs (fun f hf => h f (by simp [hf]))
    simp only [List.mapM_cons, Sem.run_bind, h1, Result.andThen_ok, Sem.run_pure, h2, List.map_cons]

theorem zeroD_spec {t : TypeId} {z : List D} (h : zeroD P t = some z) (w : World) : ∃ v, (zeroValue t).run P w = .ok v w ∧ v.cells.size = z.length ∧ (∀ (i : Nat) (d : D), z[i]? = some d → d.one = true ∧ V R w (v.cells.getD i undef) d) := by
  unfold zeroD at h
  cases hi : P.info? t with
  | none => simp [hi] at h
  | some i =>
    cases hz : i.zero with
    | none => simp [hi, hz] at h
    | some v =>
      simp [hi, hz] at h
      obtain ⟨h1, h2⟩ := ofScalars_V (R := R) (w := w) h
      refine ⟨v, by simp [zeroValue, typeInfo, hi, hz], by simpa using h1, fun j d hj => ⟨(h2 j d hj).2, ?_⟩⟩
      have := (h2 j d hj).1
      simpa [Array.getD_eq_getD_getElem?, List.getD] using this

theorem foldl_set_get (off : Nat) : ∀ (l : List Value) (k : Nat) (cs : Array Value) (i : Nat), ((l.zipIdx k).foldl (fun cs (x : Value × Nat) => cs.setIfInBounds (off + x.2) x.1) cs)[i]? =
    if off + k ≤ i ∧ i < off + k + l.length ∧ i < cs.size then l[i - (off + k)]? else cs[i]?
  | [], k, cs, i => by simp; omega
  | v :: l, k, cs, i => by
    simp only [List.zipIdx_cons, List.foldl_cons]
    rw [foldl_set_get off l (k + 1) _ i]
    simp only [Array.size_setIfInBounds, List.length_cons]
    by_cases h1 : i = off + k
    · subst h1
      rw [if_neg (by omega)]
      by_cases h2 : off + k < cs.size
      · rw [if_pos ⟨by omega, by omega, h2⟩]; simp [h2]
      · rw [if_neg (by omega)]; simp [h2]
    · rw [Array.getElem?_setIfInBounds_ne (by omega)]
      by_cases h2 : off + (k + 1) ≤ i ∧ i < off + (k + 1) + l.length ∧ i < cs.size
      · rw [if_pos h2, if_pos ⟨by omega, by omega, h2.2.2⟩]
        have : i - (off + k) = (i - (off + (k + 1))) + 1 := by omega
        rw [this]; simp
      · rw [if_neg h2, if_neg (by omega)]

theorem fold_size (off : Nat) : ∀ (l : List (Value × Nat)) (cs : Array Value), (l.foldl (fun cs (x : Value × Nat) => cs.setIfInBounds (off + x.2) x.1) cs).size = cs.size
  | [], cs => rfl
  | _ :: l, cs => by simp only [List.foldl_cons]; rw [fold_size off l]; simp

/-- 'fill' does on values what 'fillD' does on data. -/
theorem fill_ok {t : TypeId} {fs : Array Field} (ht : P.underlying t = some (.struct fs)) {pl : Nat → Option (Nat × Nat)} (hpl : ∀ i, pl i = (fs[i]?).map fun f => (f.offset, P.cellsOf f.type)) :
    ∀ (ps : List (Nat × Value)) (qs : List (Nat × D)) (cs : Array Value) (z r : List D), ps.length = qs.length → (∀ (i : Nat) (p : Nat × Value) (q : Nat × D), ps[i]? = some p → qs[i]? = some q → p.1 = q.1 ∧ V R w p.2 q.2) →
      cs.size = z.length → (∀ (i : Nat) (d : D), z[i]? = some d → d.one = true ∧ V R w (cs.getD i undef) d) → fillD P t z qs = some r →
      ∃ cs', Instr.fill pl cs ps = some cs' ∧ cs'.size = r.length ∧ (∀ (i : Nat) (d : D), r[i]? = some d → d.one = true ∧ V R w (cs'.getD i undef) d)
  | [], [], cs, z, r, _, _, hsz, hz, h => by simp [fillD] at h; subst h; exact ⟨cs, rfl, hsz, hz⟩
  | [], _ :: _, _, _, _, hl, _, _, _, _ => by simp at hl
  | _ :: _, [], _, _, _, hl, _, _, _, _ => by simp at hl
  | (i, v) :: ps, (j, d) :: qs, cs, z, r, hl, hp, hsz, hz, h => by
    obtain ⟨hij, hvd⟩ := hp 0 _ _ rfl rfl
    change i = j at hij
    subst hij
    change V R w v d at hvd
    simp only [fillD] at h
    cases hf : fieldOf P t i with
    | none => simp [hf] at h
    | some p =>
      obtain ⟨off, u⟩ := p
      obtain ⟨fs', f, h1, h2, rfl, rfl⟩ := fieldOf_spec hf
      rw [ht] at h1; cases h1
      simp only [hf] at h
      split at h
      · rename_i hc
        obtain ⟨hcs, hcv⟩ := hvd.cells
        have hfill : Instr.fill pl cs ((i, v) :: ps) = Instr.fill pl (v.cells.zipIdx.foldl (fun cs (c, j) => cs.setIfInBounds (f.offset + j) c) cs) ps := by
          have : (decide (v.cells.size ≠ P.cellsOf f.type) || decide (f.offset + v.cells.size > cs.size)) = false := by
            rw [hcs, hsz]; simp; omega
          simp only [Instr.fill, hpl, h2, Option.map_some, this, Bool.false_eq_true, if_false]
        rw [hfill]
        have hconv : (v.cells.zipIdx.foldl (fun cs (c, j) => cs.setIfInBounds (f.offset + j) c) cs) = (v.cells.toList.zipIdx 0).foldl (fun cs (x : Value × Nat) => cs.setIfInBounds (f.offset + x.2) x.1) cs := by
          rw [← Array.foldl_toList, Array.toList_zipIdx]
        rw [hconv]
        refine fill_ok ht hpl ps qs _ (overwrite z f.offset d.cells) r (by simpa using hl) (fun k p q hp' hq' => hp (k + 1) p q (by simpa using hp') (by simpa using hq')) ?_ ?_ h
        · rw [fold_size, hsz]; simp only [overwrite, List.length_append, List.length_take, List.length_drop]; omega
        · intro k c hk
          rw [Array.getD_eq_getD_getElem?, foldl_set_get]
          simp only [Nat.add_zero, Array.length_toList]
          simp only [overwrite] at hk
          by_cases hlo : k < f.offset
          · rw [List.append_assoc, List.getElem?_append_left (by simp; omega), List.getElem?_take, if_pos hlo] at hk
            rw [if_neg (by omega)]
            have := hz k c hk
            rwa [Array.getD_eq_getD_getElem?] at this
          · by_cases hhi : k < f.offset + d.cells.length
            · rw [List.append_assoc, List.getElem?_append_right (by simp; omega), List.getElem?_append_left (by simp; omega)] at hk
              have hmin : min f.offset z.length = f.offset := by omega
              simp only [List.length_take, hmin] at hk
              rw [if_pos (by rw [hcs, hsz]; omega)]
              have := hcv _ c hk
              simpa [Array.getD_eq_getD_getElem?] using this
            · rw [List.getElem?_append_right (by simp; omega)] at hk
              simp only [List.length_append, List.length_take, List.getElem?_drop] at hk
              have hmin : min f.offset z.length = f.offset := by omega
              rw [hmin, show f.offset + d.cells.length + (k - (f.offset + d.cells.length)) = k by omega] at hk
              rw [if_neg (by rw [hcs]; omega)]
              have := hz k c hk
              rwa [Array.getD_eq_getD_getElem?] at this
      · cases h

theorem partsD_spec (hr : Rel P G base R μ st a w) : ∀ {l : List (Nat × Operand)} {qs : List (Nat × D)}, partsD G st l = some qs →
    l.length = qs.length ∧ ∀ (i : Nat) (p : Nat × Value) (q : Nat × D), (l.map fun x => (x.1, a.eval x.2))[i]? = some p → qs[i]? = some q → p.1 = q.1 ∧ V R w p.2 q.2
  | [], qs, h => by simp [partsD] at h; subst h; simp
  | (j, x) :: l, qs, h => by
    simp only [partsD] at h
    split at h
    · rename_i y ds hy hds
      simp at h; subst h
      obtain ⟨h1, h2⟩ := partsD_spec hr hds
      refine ⟨by simp [h1], fun i p q hp hq => ?_⟩
      cases i with
      | zero => simp at hp hq; subst hp hq; exact ⟨rfl, hr.evalD hy⟩
      | succ i => simp at hp hq; exact h2 i p q (by simpa using hp) hq
    · cases h

theorem vBuild_ok {o : Oper} {t : TypeId} {parts : Array (Nat × Operand)} (ho : o.op = .build t parts) (h : vBuild P G t parts st = some out) : OpOk P G o st out := by
  unfold vBuild at h
  split at h
  · rename_i hs
    split at h
    · rename_i z ps hz hps
      simp only [Option.map_eq_some_iff] at h
      obtain ⟨r, hr', rfl⟩ := h
      unfold isStruct at hs
      split at hs
      · rename_i fs hfs
        refine opOk_pure fun base R μ a w hr => ?_
        obtain ⟨zv, hz1, hz2, hz3⟩ := zeroD_spec (R := R) hz w
        obtain ⟨hl, hp⟩ := partsD_spec hr hps
        have hm := run_mapM_places w fs.toList (fun f hf => by simpa using List.all_eq_true.1 hs f hf)
        obtain ⟨cs', hc1, hc2, hc3⟩ := fill_ok (R := R) (w := w) hfs (pl := fun i => ((fs.toList.map fun f => (f.offset, P.cellsOf f.type)).toArray)[i]?) (fun i => by simp)
          (parts.toList.map fun x => (x.1, a.eval x.2)) ps zv.cells z r (by simpa using hl) hp hz2 hz3 hr'
        refine ⟨.agg cs', ?_, .d _ _ (.agg _ _ hc2 (fun i d hi => (hc3 i d hi).1) fun i d hi => (hc3 i d hi).2), trivial⟩
        have hmm : (fs.mapM (fun f => do pure (f.offset, ← sizeOf f.type)) : Sem (Array (Nat × Nat))).run P w = .ok (fs.toList.map fun f => (f.offset, P.cellsOf f.type)).toArray w := by
          rw [Array.mapM_eq_mapM_toList]
          simp only [Sem.run_map, hm, Result.andThen_ok]
        have hpl : (parts.map fun (x : Nat × Operand) => (x.1, a.eval x.2)).toList = parts.toList.map fun x => (x.1, a.eval x.2) := by simp
        simp only [execOp, ho, Instr.build, Sem.run_bind, hz1, Result.andThen_ok, run_underlying hfs, hmm, Sem.run_pure]
        rw [hpl, hc1]
        rfl
      · cases hs
    · cases h
  · cases h

theorem idxInt (hr : Rel P G base R μ st a w) {i : Operand} {n : D} {m j : Nat} (hi : st.eval G i = .d n) (h : idx n m = some j) : ∃ k, a.eval i = .int k j ∧ j < m := by
  obtain ⟨k, q, rfl, h0, h1, rfl, h2⟩ := idx_spec h
  exact ⟨k, by rw [hr.evalInt hi]; congr 1; omega, h2⟩

/-- A slice with an element. -/
theorem V.sl_inv {v : Value} {es : List (List D)} (h : V R w v (.sl es)) : ∃ ao cap, v = .slice ao es.length cap ∧ es.length ≤ cap ∧ (es ≠ [] → ∃ b o size, ao = some ⟨b, o, none⟩ ∧ 0 < size ∧ (∀ e ∈ es, e.length = size) ∧
    ∀ (i : Nat) (e : List D), es[i]? = some e → Run R w b (o + i * size) e) := by
  cases h with
  | emp ao cap => exact ⟨ao, cap, rfl, Nat.zero_le _, fun h => absurd rfl h⟩
  | sl b o n cap size es f h1 h2 h3 h4 h5 h6 h7 =>
    subst h1
    refine ⟨_, cap, rfl, h2, fun _ => ⟨b, o, size, rfl, h3, h4, fun i e hi j d hj => ?_⟩⟩
    have hil : i < es.length := (List.getElem?_eq_some_iff.1 hi).1
    have hjl : j < size := by rw [← h4 e (List.mem_of_getElem? hi)]; exact (List.getElem?_eq_some_iff.1 hj).1
    obtain ⟨q1, q2⟩ := h5 i j hil hjl
    exact ⟨h6 i j e d hi hj, q1, f i j, q2, h7 i j e d hi hj⟩

theorem info_of_cells {t : TypeId} (h : P.cellsOf t ≠ 0) : (P.info? t).isSome = true := by
  cases hi : P.info? t with
  | none => simp [Program.cellsOf, hi] at h
  | some i => rfl

theorem vIndexAddr_ok {o : Oper} {t : TypeId} {x i : Operand} (ho : o.op = .indexAddr t x i) (h : vIndexAddr P G t x i st = some out) : OpOk P G o st out := by
  unfold vIndexAddr at h
  split at h
  · rename_i e es n hu hx hi
    simp only [Option.bind_eq_some_iff] at h
    obtain ⟨j, hj, cs, hcs, h⟩ := h
    split at h <;> simp at h
    rename_i hlen
    subst h
    refine opOk_pure fun base R μ a w hr => ?_
    obtain ⟨k, hk, hjl⟩ := idxInt hr hi hj
    obtain ⟨ao, cap, hv, hcap, hne⟩ := (hr.evalD hx).sl_inv
    obtain ⟨b, off, size, rfl, hs0, hs1, hrun⟩ := hne (by rintro rfl; simp at hcs)
    have hsz : size = P.cellsOf e := by rw [← hlen, hs1 cs (List.mem_of_getElem? hcs)]
    have hso := info_ok (info_of_cells (P := P) (t := e) (by omega)) w
    refine ⟨.pointer (some ⟨b, off + j * size, none⟩), ?_, .ep _ _ _ (hrun j cs hcs), trivial⟩
    simp [execOp, ho, hv, hk, Instr.indexAt, run_underlying hu, asIntOf, hjl, hso, add_none, hsz]
  · rename_i len e k off n hu hx hi
    split at h
    · cases h
    · rename_i hne
      simp only [Option.map_eq_some_iff] at h
      obtain ⟨j, hj, rfl⟩ := h
      refine opOk_pure fun base R μ a w hr => ?_
      obtain ⟨q, hq, hjl⟩ := idxInt hr hi hj
      exact ⟨.pointer (some ⟨μ k, off + j * P.cellsOf e, none⟩), by simp [execOp, ho, hr.evalPtr hx, hq, Instr.indexAt, run_underlying hu, asIntOf, Instr.sureAddr, hjl, info_ok (info_of_cells hne) w, add_none], .ptr _ _, trivial⟩
  · rename_i len e cs n hu hx hi
    split at h
    · cases h
    · rename_i hne
      simp only [Option.map_eq_some_iff] at h
      obtain ⟨j, hj, rfl⟩ := h
      refine opOk_pure fun base R μ a w hr => ?_
      obtain ⟨q, hq, hjl⟩ := idxInt hr hi hj
      obtain ⟨b, off, he, hrun⟩ := (hr.evalTV hx).ep_inv
      exact ⟨.pointer (some ⟨b, off + j * P.cellsOf e, none⟩), by simp [execOp, ho, he, hq, Instr.indexAt, run_underlying hu, asIntOf, Instr.sureAddr, hjl, info_ok (info_of_cells hne) w, add_none], .ep _ _ _ (hrun.drop _), trivial⟩
  · cases h

theorem run_fieldPlace (b o : Nat) (f : Field) {i : TypeInfo} (hi : P.info? f.type = some i) (h : P.cellsOf f.type ≠ 0) : (fieldPlace ⟨b, o, none⟩ f).run P w = .ok ⟨b, o + f.offset, none⟩ w := by
  have : ¬ i.size = 0 := by simpa [Program.cellsOf, hi] using h
  simp [fieldPlace, sizeOf, typeInfo, hi, this, add_none]

theorem vFieldAddr_ok {o : Oper} {t : TypeId} {x : Operand} {i : Nat} (ho : o.op = .fieldAddr t x i) (h : vFieldAddr P G t x i st = some out) : OpOk P G o st out := by
  unfold vFieldAddr at h
  split at h
  · rename_i off u hf
    obtain ⟨fs, f, h1, h2, rfl, rfl⟩ := fieldOf_spec hf
    split at h
    · cases h
    · rename_i hne
      have hi : ∃ i, P.info? f.type = some i := by
        cases hi : P.info? f.type with
        | none => simp [Program.cellsOf, hi] at hne
        | some i => exact ⟨i, rfl⟩
      obtain ⟨ti, hti⟩ := hi
      split at h <;> simp at h <;> subst h
      · rename_i k off hx
        exact opOk_pure fun base R μ a w hr => ⟨.pointer (some ⟨μ k, off + f.offset, none⟩), by simp [execOp, ho, hr.evalPtr hx, Instr.fieldAt, run_underlying h1, h2, Instr.sureAddr, run_fieldPlace (w := w) (μ k) off f hti hne], .ptr _ _, trivial⟩
      · rename_i cs hx
        refine opOk_pure fun base R μ a w hr => ?_
        obtain ⟨b, off, he, hrun⟩ := (hr.evalTV hx).ep_inv
        exact ⟨.pointer (some ⟨b, off + f.offset, none⟩), by simp [execOp, ho, he, Instr.fieldAt, run_underlying h1, h2, Instr.sureAddr, run_fieldPlace (w := w) b off f hti hne], .ep _ _ _ (hrun.drop _), trivial⟩
  · cases h
end
end Go.VM
