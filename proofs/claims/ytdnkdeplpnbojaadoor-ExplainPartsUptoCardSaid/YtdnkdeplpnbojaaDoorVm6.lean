/- The abstract machine on plain data: the operations that leave the world alone. No condition. -/
import Derived.Test.YtdnkdeplpnbojaaDoorVm5
set_option linter.unusedVariables false
set_option linter.unusedSimpArgs false
set_option linter.unusedSectionVars false
namespace Go.VM
open Go Go.RowKit

section
variable {P : Program} {G : GT} {st : St} {out : Out}

theorem vMove_ok {o : Oper} {x : Operand} (ho : o.op = .move x ∨ o.op = .assign x) (h : vMove G x st = some out) : OpOk P G o st out := by
  simp only [vMove, Option.some.injEq] at h
  subst h
  refine opOk_pure fun base R μ a w hr => ⟨a.eval x, ?_, hr.eval x, hr.slAct x⟩
  rcases ho with ho | ho <;> simp [execOp, ho]

theorem V.bool_inv {R : Nat → Nat → Prop} {w : World} {v : Value} {b : Bool} (h : V R w v (.bool b)) : v = .bool b := by cases h; rfl
theorem V.int_inv {R : Nat → Nat → Prop} {w : World} {v : Value} {k : IntKind} {n : Int} (h : V R w v (.int k n)) : v = .int k n := by cases h; rfl
theorem V.str_inv {R : Nat → Nat → Prop} {w : World} {v : Value} {s : List UInt8} (h : V R w v (.str s)) : v = .string ⟨s.toArray⟩ := by cases h; rfl
theorem V.nils_inv {R : Nat → Nat → Prop} {w : World} {v : Value} (h : V R w v .nils) : ∃ ao, v = .slice ao 0 0 := by cases h; exact ⟨_, rfl⟩
theorem V.agg_inv {R : Nat → Nat → Prop} {w : World} {v : Value} {ds : List D} (h : V R w v (.agg ds)) : ∃ cs, v = .agg cs ∧ cs.size = ds.length ∧ (∀ (i : Nat) (d : D), ds[i]? = some d → d.one = true ∧ V R w (cs.getD i undef) d) := by
  cases h; exact ⟨_, rfl, by assumption, fun i d hi => ⟨by rename_i h _; exact h i d hi, by rename_i h; exact h i d hi⟩⟩
theorem TV.ptr_inv {R : Nat → Nat → Prop} {μ : Nat → Nat} {w : World} {v : Value} {k off : Nat} (h : TV R μ w v (.ptr k off)) : v = .pointer (some ⟨μ k, off, none⟩) := by cases h; rfl
theorem TV.ep_inv {R : Nat → Nat → Prop} {μ : Nat → Nat} {w : World} {v : Value} {cs : List D} (h : TV R μ w v (.ep cs)) : ∃ b o, v = .pointer (some ⟨b, o, none⟩) ∧ Run R w b o cs := by cases h; exact ⟨_, _, rfl, by assumption⟩
theorem TV.mp_inv {R : Nat → Nat → Prop} {μ : Nat → Nat} {w : World} {v : Value} {k : Nat} (h : TV R μ w v (.mp k)) : v = .map (some (μ k)) := by cases h; rfl
theorem TV.it_inv {R : Nat → Nat → Prop} {μ : Nat → Nat} {w : World} {v : Value} {k : Nat} (h : TV R μ w v (.it k)) : v = .pointer (some ⟨μ k, 0, none⟩) := by cases h; rfl
theorem TV.fn_inv {R : Nat → Nat → Prop} {μ : Nat → Nat} {w : World} {v : Value} {f : FuncId} (h : TV R μ w v (.fn f)) : v = .func (.func f) #[] #[] := by cases h; rfl
theorem TV.tup_inv {R : Nat → Nat → Prop} {μ : Nat → Nat} {w : World} {v : Value} {ds : List D} (h : TV R μ w v (.tup ds)) : ∃ vs, v = .tuple vs ∧ vs.size = ds.length ∧ (∀ (i : Nat) (d : D), ds[i]? = some d → V R w (vs.getD i Go.undef) d) := by
  cases h; exact ⟨_, rfl, by assumption, by assumption⟩

section
variable {base : Nat} {R : Nat → Nat → Prop} {μ : Nat → Nat} {a : Act} {w : World}
theorem Rel.evalTV (h : Rel P G base R μ st a w) {x : Operand} {d : DV} (hx : st.eval G x = d) : TV R μ w (a.eval x) d := by rw [← hx]; exact h.eval x
theorem Rel.evalPtr (h : Rel P G base R μ st a w) {x : Operand} {k off : Nat} (hx : st.eval G x = .ptr k off) : a.eval x = .pointer (some ⟨μ k, off, none⟩) := (h.evalTV hx).ptr_inv
theorem Rel.evalInt (h : Rel P G base R μ st a w) {x : Operand} {k : IntKind} {n : Int} (hx : st.eval G x = .d (.int k n)) : a.eval x = .int k n := (h.evalD hx).int_inv
theorem Rel.evalBool (h : Rel P G base R μ st a w) {x : Operand} {b : Bool} (hx : st.eval G x = .d (.bool b)) : a.eval x = .bool b := (h.evalD hx).bool_inv
theorem Rel.evalAny (h : Rel P G base R μ st a w) {x : Operand} (hx : st.eval G x = .anyb) : ∃ b, a.eval x = .bool b := by
  have := h.evalTV hx
  generalize a.eval x = v at this
  cases this with
  | anyb b => exact ⟨b, rfl⟩
theorem Rel.evalStr (h : Rel P G base R μ st a w) {x : Operand} {s : List UInt8} (hx : st.eval G x = .d (.str s)) : a.eval x = .string ⟨s.toArray⟩ := (h.evalD hx).str_inv
theorem Rel.evalMp (h : Rel P G base R μ st a w) {x : Operand} {k : Nat} (hx : st.eval G x = .mp k) : a.eval x = .map (some (μ k)) := (h.evalTV hx).mp_inv
theorem Rel.evalIt (h : Rel P G base R μ st a w) {x : Operand} {k : Nat} (hx : st.eval G x = .it k) : a.eval x = .pointer (some ⟨μ k, 0, none⟩) := (h.evalTV hx).it_inv
theorem Rel.evalFn (h : Rel P G base R μ st a w) {x : Operand} {f : FuncId} (hx : st.eval G x = .fn f) : a.eval x = .func (.func f) #[] #[] := (h.evalTV hx).fn_inv
end

theorem vPick_ok {o : Oper} {c x y : Operand} (ho : o.op = .pick c x y) (h : vPick G c x y st = some out) : OpOk P G o st out := by
  unfold vPick at h
  split at h <;> simp at h
  rename_i t hc
  subst h
  refine opOk_pure fun base R μ a w hr => ⟨if t then a.eval x else a.eval y, ?_, ?_, trivial⟩
  · simp [execOp, ho, hr.evalBool hc, asBool]
  · cases t
    · exact hr.eval y
    · exact hr.eval x

theorem vLoad_ok {o : Oper} {t : TypeId} {x : Operand} (ho : o.op = .load t x) (h : vLoad P G t x st = some out) : OpOk P G o st out := by
  unfold vLoad at h
  split at h
  · rename_i k off hx
    split at h
    · rename_i cs hk
      simp only [Option.map_eq_some_iff] at h
      obtain ⟨y, hy, rfl⟩ := h
      refine opOk_pure fun base R μ a w hr => ?_
      obtain ⟨_, _, hob⟩ := hr.objs k _ hk
      have hrun := (Run0.of_obj hob).drop off
      rw [Nat.zero_add] at hrun
      obtain ⟨v, h1, h2, h3⟩ := run_loadVar_run (P := P) hrun hy
      refine ⟨v, ?_, .d _ _ h2, ?_⟩
      · simp [execOp, ho, hr.evalPtr hx, Instr.loadAt, Instr.sureAddr, h1]
      · unfold slAct
        split
        · rename_i es he
          simp at he
          exact h3 es he
        · trivial
    · cases h
  · rename_i cs hx
    simp only [Option.map_eq_some_iff] at h
    obtain ⟨y, hy, rfl⟩ := h
    refine opOk_pure fun base R μ a w hr => ?_
    obtain ⟨b, off, he, hrun⟩ := (hr.evalTV hx).ep_inv
    obtain ⟨v, h1, h2, h3⟩ := run_loadVar_run (P := P) hrun.run0 hy
    exact ⟨v, by simp [execOp, ho, he, Instr.loadAt, Instr.sureAddr, h1], .d _ _ h2, trivial⟩
  · cases h

theorem vNilCheck_ok {o : Oper} {x : Operand} (ho : o.op = .nilCheck x) (h : vNilCheck G x st = some out) : OpOk P G o st out := by
  unfold vNilCheck at h
  split at h <;> simp at h <;> subst h
  · rename_i k off hx
    exact opOk_pure fun base R μ a w hr => ⟨a.eval x, by simp [execOp, ho, hr.evalPtr hx], hr.evalTV hx, trivial⟩
  · rename_i cs hx
    refine opOk_pure fun base R μ a w hr => ⟨a.eval x, ?_, hr.evalTV hx, trivial⟩
    obtain ⟨b, off, he, hrun⟩ := (hr.evalTV hx).ep_inv
    simp [execOp, ho, he]
  · rename_i f hx
    exact opOk_pure fun base R μ a w hr => ⟨a.eval x, by simp [execOp, ho, hr.evalFn hx], hr.evalTV hx, trivial⟩

theorem vUn_ok {o : Oper} {op : UnOp} {t : TypeId} {x : Operand} (ho : o.op = .unOp op t x) (h : vUn G op x st = some out) : OpOk P G o st out := by
  unfold vUn at h
  split at h
  · rename_i y hx
    simp only [Option.map_eq_some_iff] at h
    obtain ⟨c, hc, rfl⟩ := h
    unfold dunary at hc
    split at hc <;> simp only [Option.some.injEq, reduceCtorEq] at hc <;> subst hc
    · rename_i k n
      exact opOk_pure fun base R μ a w hr => ⟨.int k (k.wrap (0 - n)), by simp [execOp, ho, hr.evalInt hx, Op.unary, Op.intArith], .d _ _ (.int _ _), trivial⟩
    · rename_i b
      exact opOk_pure fun base R μ a w hr => ⟨.bool !b, by simp [execOp, ho, hr.evalBool hx, Op.unary], .d _ _ (.bool _), trivial⟩
  · cases h

theorem vExtract_ok {o : Oper} {x : Operand} {i : Nat} (ho : o.op = .extract x i) (h : vExtract G x i st = some out) : OpOk P G o st out := by
  unfold vExtract at h
  split at h
  · rename_i ds hx
    simp only [Option.map_eq_some_iff] at h
    obtain ⟨y, hy, rfl⟩ := h
    refine opOk_pure fun base R μ a w hr => ?_
    obtain ⟨vs, he, hsz, hv⟩ := (hr.evalTV hx).tup_inv
    have hlt : i < vs.size := by rw [hsz]; exact (List.getElem?_eq_some_iff.1 hy).1
    exact ⟨vs.getD i undef, by simp [execOp, ho, he, Instr.extract, hlt], .d _ _ (hv i y hy), trivial⟩
  · cases h

theorem fieldOf_spec {t : TypeId} {i off : Nat} {u : TypeId} (h : fieldOf P t i = some (off, u)) : ∃ fs f, P.underlying t = some (.struct fs) ∧ fs[i]? = some f ∧ f.offset = off ∧ f.type = u := by
  unfold fieldOf at h
  split at h
  · rename_i fs hfs
    simp only [Option.map_eq_some_iff] at h
    obtain ⟨f, hf, he⟩ := h
    simp at he
    exact ⟨fs, f, hfs, hf, he.1, he.2⟩
  · cases h

/-- A part of an aggregate. -/
theorem run_part {R : Nat → Nat → Prop} {w : World} {u : TypeId} {cs : Array Value} {ds : List D} {off : Nat} {y : D} (hsz : cs.size = ds.length)
    (hv : ∀ (i : Nat) (d : D), ds[i]? = some d → d.one = true ∧ V R w (cs.getD i undef) d) (ht : takeD P u (ds.drop off) = some y) : ∃ v, (part u cs off).run P w = .ok v w ∧ V R w v y := by
  unfold takeD at ht
  split at ht
  · rename_i d hd
    split at ht
    · rename_i hagg
      split at ht
      · rename_i hle
        simp at ht
        subst ht
        rw [List.length_drop] at hle
        by_cases h0 : P.cellsOf u = 0
        · refine ⟨.agg (cs.extract off (off + P.cellsOf u)), ?_, ?_⟩
          · unfold part
            simp only [Sem.run_bind, run_isAgg hd, Result.andThen_ok, hagg, if_true, run_sizeOf hd, Sem.run_pure]
          · rw [h0]; exact .agg _ _ (by simp; omega) (by simp) (by simp)
        · refine ⟨.agg (cs.extract off (off + P.cellsOf u)), ?_, .agg _ _ (by simp; omega) (fun i d hi => ?_) (fun i d hi => ?_)⟩
          · unfold part
            simp only [Sem.run_bind, run_isAgg hd, Result.andThen_ok, hagg, if_true, run_sizeOf hd, Sem.run_pure]
          · rw [List.getElem?_take] at hi
            split at hi
            · rw [List.getElem?_drop] at hi; exact (hv _ d hi).1
            · cases hi
          · rw [List.getElem?_take] at hi
            split at hi
            · rename_i hlt
              rw [List.getElem?_drop] at hi
              have := (hv _ d hi).2
              have hlt2 : off + i < cs.size := by rw [hsz]; exact (List.getElem?_eq_some_iff.1 hi).1
              have hge : (cs.extract off (off + P.cellsOf u)).getD i undef = cs.getD (off + i) undef := by
                simp [Array.getD_eq_getD_getElem?, Array.getElem?_extract, hlt2]
                rw [if_pos (by omega)]
                rfl
              rw [hge]; exact this
            · cases hi
      · cases ht
    · rename_i hagg
      have h0 : ds[off]? = some y := by
        rw [List.head?_eq_getElem?, List.getElem?_drop] at ht
        simpa using ht
      have hlt : off < cs.size := by rw [hsz]; exact (List.getElem?_eq_some_iff.1 h0).1
      refine ⟨cs.getD off undef, ?_, (hv off y h0).2⟩
      unfold part
      simp only [Sem.run_bind, run_isAgg hd, Result.andThen_ok, hagg, Bool.false_eq_true, if_false]
      simp [hlt]
  · cases ht

theorem vField_ok {o : Oper} {t : TypeId} {x : Operand} {i : Nat} (ho : o.op = .field t x i) (h : vField P G t x i st = some out) : OpOk P G o st out := by
  unfold vField at h
  split at h
  · rename_i cs off u hx hf
    simp only [Option.map_eq_some_iff] at h
    obtain ⟨y, hy, rfl⟩ := h
    obtain ⟨fs, f, h1, h2, rfl, rfl⟩ := fieldOf_spec hf
    refine opOk_pure fun base R μ a w hr => ?_
    obtain ⟨vs, he, hsz, hv⟩ := (hr.evalD hx).agg_inv
    obtain ⟨v, hp, hvy⟩ := run_part (P := P) hsz hv hy
    exact ⟨v, by simp [execOp, ho, he, Instr.field, run_underlying h1, h2, asAgg, hp], .d _ _ hvy, trivial⟩
  · cases h

theorem idx_spec {n : D} {m j : Nat} (h : idx n m = some j) : ∃ k i, n = .int k i ∧ 0 ≤ i ∧ i < m ∧ j = i.toNat ∧ j < m := by
  unfold idx at h
  split at h
  · rename_i k i
    split at h
    · rename_i hi
      simp at h
      exact ⟨k, i, rfl, hi.1, hi.2, h.symm, by omega⟩
    · cases h
  · cases h

theorem vIndex_ok {o : Oper} {t : TypeId} {x i : Operand} (ho : o.op = .index t x i) (h : vIndex P G t x i st = some out) : OpOk P G o st out := by
  unfold vIndex at h
  split at h
  · rename_i s n hu hx hi
    simp only [Option.bind_eq_some_iff, Option.map_eq_some_iff] at h
    obtain ⟨j, hj, b, hb, rfl⟩ := h
    obtain ⟨k, m, rfl, h0, h1, rfl, _⟩ := idx_spec hj
    refine opOk_pure fun base R μ a w hr => ⟨.int .u8 b.toNat, ?_, .d _ _ (.int _ _), trivial⟩
    have hg : (⟨s.toArray⟩ : ByteArray)[m.toNat]? = some b := by
      have hl : m.toNat < s.length := by omega
      have : (⟨s.toArray⟩ : ByteArray)[m.toNat]? = s[m.toNat]? := by
        simp only [getElem?_def, ByteArray.size, ByteArray.getElem_eq_getElem_data]
        simp
      rw [this]; exact hb
    simp [execOp, ho, hr.evalStr hx, hr.evalInt hi, Instr.index, run_underlying hu, asIntOf, h0, hg]
  · rename_i len e cs n hu hx hi
    simp only [Option.bind_eq_some_iff, Option.map_eq_some_iff] at h
    obtain ⟨j, hj, y, hy, rfl⟩ := h
    obtain ⟨k, m, rfl, h0, h1, rfl, _⟩ := idx_spec hj
    refine opOk_pure fun base R μ a w hr => ?_
    obtain ⟨vs, he, hsz, hv⟩ := (hr.evalD hx).agg_inv
    obtain ⟨v, hp, hvy⟩ := run_part (P := P) hsz hv hy
    refine ⟨v, ?_, .d _ _ hvy, trivial⟩
    have hd : ∃ d, P.underlying e = some d := by
      unfold takeD at hy
      split at hy
      · rename_i d hd; exact ⟨d, hd⟩
      · cases hy
    obtain ⟨d, hd⟩ := hd
    simp [execOp, ho, he, hr.evalInt hi, Instr.index, run_underlying hu, asIntOf, h0, h1, run_sizeOf hd, hp]
  · cases h
end
end Go.VM
