/- The abstract machine on plain data: the operations that leave the world alone, third part. No condition. -/
import Derived.Test.YtdnkdeplpnbojaaDoorVm7
import Derived.MapKept
set_option linter.unusedVariables false
set_option linter.unusedSimpArgs false
set_option linter.unusedSectionVars false
namespace Go.VM
open Go Go.RowKit

section
variable {P : Program} {G : GT} {st : St} {out : Out}
variable {base : Nat} {R : Nat → Nat → Prop} {μ : Nat → Nat} {a : Act} {w : World}

/-- '==' of two structs of scalar cells. -/
theorem eqFields_ok (n : Nat) {xs ys : Array Value} {ps qs : List D} (hxs : ∀ (i : Nat) (d : D), ps[i]? = some d → V R w (xs.getD i undef) d) (hys : ∀ (i : Nat) (d : D), qs[i]? = some d → V R w (ys.getD i undef) d)
    (hx : xs.size = ps.length) (hy : ys.size = qs.length) :
    ∀ (fs : List Field) (k : Nat) (r : Bool), (∀ (i : Nat) (f : Field), fs[i]? = some f → f.name ≠ "_" ∧ f.offset = k + i ∧ ∃ d, P.underlying f.type = some d ∧ scalarDesc d = true ∧ ∀ p, ps[k + i]? = some p → keyFits P f.type p = true) →
      k + fs.length = ps.length → eqCells (ps.drop k) (qs.drop k) = some r → (Op.eqFields (n + 1) xs ys fs).run P w = .ok r w
  | [], k, r, _, hl, h => by
    rw [List.drop_eq_nil_of_le (by simp at hl; omega)] at h
    cases hq : qs.drop k with
    | nil => rw [hq] at h; simp [eqCells] at h; subst h; simp [Op.eqFields]
    | cons c cs => rw [hq] at h; simp [eqCells] at h
  | f :: fs, k, r, hf, hl, h => by
    obtain ⟨hn, ho, d, hd, hs, hk⟩ := hf 0 f rfl
    simp only [Nat.add_zero] at ho hk
    have hkl : k < ps.length := by simp at hl; omega
    rw [List.drop_eq_getElem_cons hkl] at h
    cases hq : qs.drop k with
    | nil => rw [hq] at h; simp [eqCells] at h
    | cons c cs =>
      have hkq : k < qs.length := by
        have := congrArg List.length hq
        simp at this; omega
      rw [List.drop_eq_getElem_cons hkq] at h
      simp only [eqCells] at h
      split at h
      · rename_i x y hx1 hy1
        simp at h; subst h
        have v1 := hxs k ps[k] (by simp [hkl])
        have v2 := hys k qs[k] (by simp [hkq])
        have he := scalar_eq n hd hs v1 v2 hx1 (hk ps[k] (by simp [hkl]))
        have hp : ∀ (zs : Array Value), k < zs.size → (part f.type zs k).run P w = .ok (zs.getD k undef) w := fun zs hz => by
          unfold part
          simp only [Sem.run_bind, run_isAgg hd, Result.andThen_ok]
          have : descAgg d = false := by cases d <;> simp_all [scalarDesc, descAgg]
          simp [this, hz]
        have ih := eqFields_ok n hxs hys hx hy fs (k + 1) y (fun i f' hi => by
          have := hf (i + 1) f' (by simpa using hi)
          rwa [show k + (i + 1) = k + 1 + i by omega] at this) (by simp at hl; omega) hy1
        simp only [Op.eqFields, hn, ne_eq, not_false_eq_true, if_true, Sem.run_bind, ho, hp xs (by rw [hx]; exact hkl), hp ys (by rw [hy]; exact hkq), Result.andThen_ok, he]
        cases x
        · simp
        · simp [ih]
      · cases h

theorem flatList_spec : ∀ (k : Nat) (fs : List Field) (ds : List TypeDesc) (ps : List D), flatList P k fs = some ds → fitDescs ds ps = true →
    fs.length = ps.length ∧ ∀ (i : Nat) (f : Field), fs[i]? = some f → f.name ≠ "_" ∧ f.offset = k + i ∧ ∃ d, P.underlying f.type = some d ∧ scalarDesc d = true ∧ ∀ p, ps[i]? = some p → keyFits P f.type p = true
  | k, [], ds, ps, h, hf => by
    simp [flatList] at h; subst h
    cases ps <;> simp [fitDescs] at hf
    simp
  | k, f :: fs, ds, ps, h, hf => by
    simp only [flatList] at h
    split at h
    · rename_i d ds' hd hds
      split at h <;> simp at h
      rename_i hc
      subst h
      cases ps with
      | nil => simp [fitDescs] at hf
      | cons p ps =>
        simp only [fitDescs, Bool.and_eq_true] at hf
        obtain ⟨h1, h2⟩ := flatList_spec (k + 1) fs ds' ps hds hf.2
        refine ⟨by simp [h1], fun i g hi => ?_⟩
        cases i with
        | zero =>
          simp at hi; subst hi
          exact ⟨hc.1, by omega, d, hd, hc.2.2, fun p' hp' => by simp at hp'; subst hp'; simp [keyFits, hd, hf.1]⟩
        | succ i =>
          simp at hi
          obtain ⟨q1, q2, q3⟩ := h2 i g hi
          exact ⟨q1, by omega, by simpa using q3⟩
    · cases h

theorem vBin_ok {o : Oper} {op : BinOp} {t u : TypeId} {x y : Operand} (ho : o.op = .binOp op t x y u) (h : vBin P G op t x y st = some out) : OpOk P G o st out := by
  unfold vBin at h
  split at h
  · rename_i p q hx hy
    simp only [Option.map_eq_some_iff] at h
    obtain ⟨c, hc, rfl⟩ := h
    refine opOk_pure fun base R μ a w hr => ?_
    have hv : ∃ r, (do eqGuard op t x y (a.eval x) (a.eval y); binOp op t (a.eval x) (a.eval y) : Sem Value).run P w = .ok r w ∧ V R w r c := by
      have vx := hr.evalD hx
      have vy := hr.evalD hy
      unfold dbinT at hc
      split at hc
      · rename_i b1 b2
        obtain he1 := vx.bool_inv
        obtain he2 := vy.bool_inv
        rw [he1, he2]
        split at hc <;> simp at hc <;> subst hc
        · rename_i hu
          exact ⟨.bool (b1 == b2), by simp [eqGuard, binOp, run_equal_bool w t b1 b2 hu], .bool _⟩
        · rename_i hu
          exact ⟨.bool !(b1 == b2), by simp [eqGuard, binOp, run_equal_bool w t b1 b2 hu], .bool _⟩
      · rename_i ps qs
        split at hc
        · rename_i ds hfl
          obtain ⟨xs, he1, hs1, hv1'⟩ := vx.agg_inv
          obtain ⟨ys, he2, hs2, hv2'⟩ := vy.agg_inv
          have hv1 := fun i d hi => (hv1' i d hi).2
          have hv2 := fun i d hi => (hv2' i d hi).2
          rw [he1, he2]
          unfold flatDescs at hfl
          split at hfl
          · rename_i fs hfs
            have hfl : (P.eqGuardType P.depth t = false ∧ P.stoodInHeld t = false) ∧ flatList P 0 fs.toList = some ds := by
              split at hfl
              · rename_i h; exact ⟨h, hfl⟩
              · cases hfl
            obtain ⟨hg1, hg2⟩ := hfl.1
            by_cases hfit : fitDescs ds ps = true
            case neg => rw [if_neg hfit] at hc; cases hc
            rw [if_pos hfit] at hc
            have hfo : P.fieldsOf t = fs := by simp [Program.fieldsOf, hfs]
            have hrun : ∀ r, eqCells ps qs = some r → (Op.equalIn 10000 t (.agg xs) (.agg ys)).run P w = .ok r w := fun r hr' => by
              rw [run_equalIn_struct w 9999 t xs ys (by rw [hfo]; exact hfs) hg2, hfo]
              obtain ⟨hl, hf'⟩ := flatList_spec 0 fs.toList ds ps hfl.2 hfit
              exact eqFields_ok 9998 hv1 hv2 hs1 hs2 fs.toList 0 r (fun i f hi => by simpa using hf' i f hi) (by simpa using hl) (by simpa using hr')
            have hgd : (eqGuard op t x y (.agg xs) (.agg ys)).run P w = .ok () w := run_eqGuard_agg w op t x y xs ys hg1
            split at hc <;> simp at hc <;> subst hc
            · rename_i r hr'
              exact ⟨.bool r, by simp only [Sem.run_bind, hgd, Result.andThen_ok, run_eql_struct, hrun r hr'], .bool _⟩
            · rename_i r hr'
              exact ⟨.bool !r, by simp only [Sem.run_bind, hgd, Result.andThen_ok, run_neq_struct, hrun r hr'], .bool _⟩
          · cases hfl
        · cases hc
      · exact run_dbin vx vy hc
    obtain ⟨r, h1, h2⟩ := hv
    refine ⟨r, ?_, .d _ _ h2, trivial⟩
    simp only [execOp, ho]
    rw [Sem.run_bind, h1]
    rfl
  · cases h

theorem run_equal_nil (w : World) {t e : TypeId} (hu : P.underlying t = some (.slice e)) (ao : Option Addr) (n cap : Nat) : (Op.equal t (.slice ao n cap) (.slice none 0 0)).run P w = .ok ao.isNone w := by
  unfold Op.equal
  unfold Op.maxDepth
  unfold Op.equalIn
  simp only [Sem.run_bind, run_underlying hu, Result.andThen_ok]
  cases ao <;> rfl
theorem V.sl_ao {v : Value} {es : List (List D)} (h : V R w v (.sl es)) : ∃ ao n cap, v = .slice ao n cap ∧ (es.length ≠ 0 → ao.isNone = false) := by
  cases h with
  | emp ao cap => exact ⟨ao, 0, cap, rfl, fun h => absurd rfl h⟩
  | sl b o n cap size es f => exact ⟨_, _, _, rfl, fun _ => rfl⟩
theorem vNilTest_ok {o : Oper} {op : BinOp} {t u : TypeId} {x y : Operand} (ho : o.op = .binOp op t x y u) (hy : isNilC y = true) (h : vNilTest P G op t x st = some out) : OpOk P G o st out := by
  have hy' : y = .const (.slice none 0 0) := by
    unfold isNilC at hy
    split at hy
    · rfl
    · cases hy
  subst hy'
  have hrun : ∀ (a : Act) (w : World) (e : TypeId) (ao : Option Addr) (n cap : Nat), P.underlying t = some (.slice e) → a.eval x = .slice ao n cap →
      (op = .eql → (execOp a.eval o).run P w = .ok (.value (.bool ao.isNone)) w) ∧ (op = .neq → (execOp a.eval o).run P w = .ok (.value (.bool !ao.isNone)) w) := fun a w e ao n cap hu hx => by
    have hc : a.eval (.const (.slice none 0 0)) = .slice none 0 0 := rfl
    constructor
    · rintro rfl
      simp only [execOp, ho, hx, hc]
      simp [eqGuard, binOp, run_equal_nil w hu]
    · rintro rfl
      simp only [execOp, ho, hx, hc]
      simp [eqGuard, binOp, run_equal_nil w hu]
  unfold vNilTest at h
  split at h
  · rename_i e es hu hx
    simp only [Option.some.injEq] at h; subst h
    refine opOk_pure fun base R μ a w hr => ?_
    obtain ⟨ao, n, cap, hv, hne⟩ := (hr.evalD hx).sl_ao
    refine ⟨_, (hrun a w e ao n cap hu hv).1 rfl, ?_, trivial⟩
    by_cases h0 : es.length = 0
    · rw [if_pos h0]; exact .anyb _
    · rw [if_neg h0, hne h0]; exact .d _ _ (.bool _)
  · rename_i e es hu hx
    simp only [Option.some.injEq] at h; subst h
    refine opOk_pure fun base R μ a w hr => ?_
    obtain ⟨ao, n, cap, hv, hne⟩ := (hr.evalD hx).sl_ao
    refine ⟨_, (hrun a w e ao n cap hu hv).2 rfl, ?_, trivial⟩
    by_cases h0 : es.length = 0
    · rw [if_pos h0]; exact .anyb _
    · rw [if_neg h0, hne h0]; exact .d _ _ (.bool _)
  · rename_i e hu hx
    simp only [Option.some.injEq] at h; subst h
    refine opOk_pure fun base R μ a w hr => ?_
    obtain ⟨ao, hv⟩ := (hr.evalD hx).nils_inv
    exact ⟨_, (hrun a w e ao 0 0 hu hv).1 rfl, .anyb _, trivial⟩
  · rename_i e hu hx
    simp only [Option.some.injEq] at h; subst h
    refine opOk_pure fun base R μ a w hr => ?_
    obtain ⟨ao, hv⟩ := (hr.evalD hx).nils_inv
    exact ⟨_, (hrun a w e ao 0 0 hu hv).2 rfl, .anyb _, trivial⟩
  · cases h
theorem vBinN_ok {o : Oper} {op : BinOp} {t u : TypeId} {x y : Operand} (ho : o.op = .binOp op t x y u) (h : vBinN P G op t x y st = some out) : OpOk P G o st out := by
  unfold vBinN at h
  split at h
  · exact vNilTest_ok ho ‹_› h
  · exact vBin_ok ho h

theorem dconv_ok {src dst : TypeId} {p c : D} {v : Value} (hv : V R w v p) (h : dconv P src dst p = some c) : ∃ r, (convert src dst v).run P w = .ok r w ∧ V R w r c := by
  unfold dconv at h
  split at h
  · rename_i d k k' n hs hd
    simp only [Option.some.injEq] at h; subst h
    obtain rfl := hv.int_inv
    exact ⟨_, by simp [convert, run_underlying hs, run_underlying hd, Conv.intToInt], .int _ _⟩
  · rename_i d s hs hd
    simp only [Option.some.injEq] at h; subst h
    obtain rfl := hv.str_inv
    exact ⟨_, by simp [convert, run_underlying hs, run_underlying hd], .str _⟩
  · rename_i e es hs hd
    split at h
    · rename_i hu
      simp only [Option.map_eq_some_iff] at h
      obtain ⟨bs, hbs, rfl⟩ := h
      unfold isU8 at hu
      split at hu <;> simp at hu
      rename_i he
      obtain ⟨ao, cap, rfl, hcap, hne⟩ := hv.sl_inv
      refine ⟨.string ⟨bs.toArray⟩, ?_, .str _⟩
      rw [run_convert_bytes_string w src dst e _ _ _ hs he hd]
      have hspec : ∀ (es : List (List D)) (bs : List UInt8), bytesOfEs es = some bs → ∃ ns : List Int, es = ns.map (fun n => [D.int .u8 n]) ∧ bs = ns.map fun n => UInt8.ofNat n.toNat := by
        intro es
        induction es with
        | nil => intro bs h; simp [bytesOfEs] at h; subst h; exact ⟨[], rfl, rfl⟩
        | cons c es ih =>
          intro bs h
          unfold bytesOfEs at h
          split at h
          · rename_i heq; cases heq
          · rename_i n l heq
            simp only [Option.map_eq_some_iff] at h
            obtain ⟨bs', hb', rfl⟩ := h
            cases heq
            obtain ⟨ns, h1, h2⟩ := ih bs' hb'
            exact ⟨n :: ns, by simp [h1], by simp [h2]⟩
          · cases h
      obtain ⟨ns, he1, he2⟩ := hspec es bs hbs
      cases ao with
      | none =>
        have : es = [] := by
          cases es with
          | nil => rfl
          | cons c l =>
            obtain ⟨b, o, size, h, _⟩ := hne (by simp)
            cases h
        subst this
        simp [bytesOfEs] at hbs; subst hbs
        simp [Conv.bytesToString]
        rfl
      | some ad =>
        have hl : (loadCells ad es.length).run P w = .ok (ns.map (Value.int .u8)).toArray w := by
          by_cases hnil : es = []
          · subst hnil
            have : ns = [] := by simpa using he1.symm
            subst this
            simp [loadCells, loadCellsFrom]
          · obtain ⟨b, o, size, ha, hs0, hs1, hrun⟩ := hne hnil
            cases ha
            have hn : ∀ j, j < ns.length → w.cell? ((⟨b, o, none⟩ : Addr).add j) = some (.int .u8 (ns.getD j 0)) := fun j hj => by
              have hej : es[j]? = some [D.int .u8 (ns.getD j 0)] := by rw [he1]; simp [hj]
              have hsz : size = 1 := by rw [← hs1 _ (List.mem_of_getElem? hej)]; rfl
              obtain ⟨_, _, v, hc, hv⟩ := hrun j _ hej 0 _ rfl
              rw [add_none]
              rw [hsz, Nat.mul_one, Nat.add_zero] at hc
              rw [hc, hv.int_inv]
            have hlen : es.length = (ns.map (Value.int .u8)).length := by rw [he1]; simp
            rw [hlen]
            exact run_loadCells_list (P := P) w _ (ns.map (Value.int .u8)) (fun j v hj => by
              simp only [List.getElem?_map, Option.map_eq_some_iff] at hj
              obtain ⟨n, hn', rfl⟩ := hj
              have hjl := (List.getElem?_eq_some_iff.1 hn').1
              rw [hn j hjl]
              simp [List.getD, hn'])
        rw [run_bytesToString w ad es.length cap ns hl]
        have hfold : ∀ (ns : List Int) (s : List UInt8), ns.foldl (fun (r : ByteArray) n => r.push (UInt8.ofNat n.toNat)) ⟨s.toArray⟩ = ⟨(s ++ ns.map fun n => UInt8.ofNat n.toNat).toArray⟩ := by
          intro ns
          induction ns with
          | nil => intro s; simp
          | cons n ns ih =>
            intro s
            have hp : (⟨s.toArray⟩ : ByteArray).push (UInt8.ofNat n.toNat) = ⟨(s ++ [UInt8.ofNat n.toNat]).toArray⟩ := by
              apply ByteArray.ext; simp [ByteArray.push]
            simp only [List.foldl_cons, hp, ih]
            simp
        have := hfold ns []
        simp only [List.nil_append] at this
        rw [he2, ← this]
        rfl
    · cases h
  · rename_i e hs hd
    split at h
    · rename_i hu
      simp only [Option.some.injEq] at h; subst h
      unfold isU8 at hu
      split at hu <;> simp at hu
      rename_i he
      obtain ⟨ao, rfl⟩ := hv.nils_inv
      refine ⟨.string ⟨#[]⟩, ?_, .str []⟩
      rw [run_convert_bytes_string w src dst e _ _ _ hs he hd]
      cases ao with
      | none => simp [Conv.bytesToString]; rfl
      | some ad =>
        rw [run_bytesToString w ad 0 0 [] (by simp [loadCells, loadCellsFrom])]
        rfl
    · cases h
  · cases h

theorem vConv_ok {o : Oper} {src dst : TypeId} {x : Operand} (ho : o.op = .convert src dst x) (h : vConv P G src dst x st = some out) : OpOk P G o st out := by
  unfold vConv at h
  split at h
  · rename_i p hx
    simp only [Option.map_eq_some_iff] at h
    obtain ⟨c, hc, rfl⟩ := h
    refine opOk_pure fun base R μ a w hr => ?_
    obtain ⟨r, h1, h2⟩ := dconv_ok (hr.evalD hx) hc
    exact ⟨r, by simp [execOp, ho, h1], .d _ _ h2, trivial⟩
  · cases h

theorem bytes_size (s : List UInt8) : (⟨s.toArray⟩ : ByteArray).size = s.length := by simp [ByteArray.size]

theorem run_getMap {r : Nat} {es : Array MapEntry} {clock : Nat} (hb : w.heap[r]? = some (.map es clock)) : (getObj r).run P w = .ok (.map es clock) w := by
  simp [getObj, Sem.run, hb]

theorem vLen_ok {o : Oper} {x : Operand} {t : TypeId} (ho : o.op = .call { callee := .builtin .len, args := #[x], argTypes := #[t] }) (h : vLen P G t x st = some out) : OpOk P G o st out := by
  unfold vLen at h
  split at h
  · rename_i s hu hx
    simp only [Option.some.injEq] at h; subst h
    exact opOk_pure fun base R μ a w hr => ⟨.int .i64 s.length, by simp [execOp, ho, resolve, invoke, builtin, Builtin.len_, run_underlying hu, hr.evalStr hx, goInt, bytes_size], .d _ _ (.int _ _), trivial⟩
  · rename_i e es hu hx
    simp only [Option.some.injEq] at h; subst h
    refine opOk_pure fun base R μ a w hr => ⟨.int .i64 es.length, ?_, .d _ _ (.int _ _), trivial⟩
    obtain ⟨ao, cap, he, _⟩ := (hr.evalD hx).sl_inv
    simp [execOp, ho, resolve, invoke, builtin, Builtin.len_, run_underlying hu, he, goInt]
  · rename_i e hu hx
    simp only [Option.some.injEq] at h; subst h
    refine opOk_pure fun base R μ a w hr => ⟨.int .i64 0, ?_, .d _ _ (.int _ _), trivial⟩
    obtain ⟨ao, he⟩ := (hr.evalD hx).nils_inv
    simp [execOp, ho, resolve, invoke, builtin, Builtin.len_, run_underlying hu, he, goInt]
  · rename_i kt et k hu hx
    split at h
    · rename_i es hk
      simp only [Option.some.injEq] at h; subst h
      refine opOk_pure fun base R μ a w hr => ⟨.int .i64 es.length, ?_, .d _ _ (.int _ _), trivial⟩
      obtain ⟨_, _, ents, clock, hh, hsz, _⟩ := hr.objs k _ hk
      simp [execOp, ho, resolve, invoke, builtin, Builtin.len_, run_underlying hu, hr.evalMp hx, goInt, run_getMap (P := P) hh, hsz]
    · cases h
  · cases h

/-- A bound of a slice expression: not given, or an int within it. -/
def OB (x : Option Value) (dflt n j : Nat) : Prop := (x = none ∧ j = dflt) ∨ ∃ k, x = some (.int k (j : Int)) ∧ j ≤ n

theorem optBound_spec (hr : Rel P G base R μ st a w) {x : Option Operand} {dflt n j : Nat} (h : optBound G st x dflt n = some j) : OB (x.map a.eval) dflt n j := by
  unfold optBound at h
  split at h
  · simp at h; exact .inl ⟨rfl, h.symm⟩
  · rename_i y
    split at h
    · rename_i z hz
      unfold bound at h
      split at h
      · rename_i k i
        split at h <;> simp at h
        rename_i hb
        subst h
        refine .inr ⟨k, ?_, by omega⟩
        simp only [Option.map_some, hr.evalInt hz]
        congr 2
        omega
      · cases h
    · cases h

theorem run_sliceBound (k : IntKind) (j n : Nat) (h : j ≤ n) (c : BoundsCode) : (Instr.sliceBound (.int k (j : Int)) n c).run P w = .ok j w := by
  simp [Instr.sliceBound, asIntOf, h]

theorem run_bounds (isSlice : Bool) (len cap l h : Nat) (lo hi : Option Value) (hlen : len ≤ cap) (hh : OB hi len len h) (hl : OB lo 0 h l) : (Instr.sliceBounds isSlice len cap lo hi none).run P w = .ok (l, h, cap) w ∧ l ≤ h ∧ h ≤ len := by
  have h1 : h ≤ len := by rcases hh with ⟨_, rfl⟩ | ⟨k, _, h⟩ <;> omega
  have h2 : l ≤ h := by rcases hl with ⟨_, rfl⟩ | ⟨k, _, h⟩ <;> omega
  refine ⟨?_, h2, h1⟩
  rcases hh with ⟨rfl, rfl⟩ | ⟨k, rfl, hk⟩
  · rcases hl with ⟨rfl, rfl⟩ | ⟨k', rfl, hk'⟩
    · simp [Instr.sliceBounds]
    · simp [Instr.sliceBounds, run_sliceBound (P := P) (w := w) k' l h hk']
  · rcases hl with ⟨rfl, rfl⟩ | ⟨k', rfl, hk'⟩
    · simp [Instr.sliceBounds, run_sliceBound (P := P) (w := w) k h cap (by omega)]
    · simp [Instr.sliceBounds, run_sliceBound (P := P) (w := w) k h cap (by omega), run_sliceBound (P := P) (w := w) k' l h hk']

theorem V.sub {ao : Option Addr} {es : List (List D)} {cap : Nat} (hv : V R w (.slice ao es.length cap) (.sl es)) (l h size : Nat) (hlh : l ≤ h) (hhl : h ≤ es.length) (hcap : es.length ≤ cap)
    (hsz : ∀ e ∈ es, e.length = size) : V R w (.slice (if cap = l then ao else ao.map (·.add (l * size))) (h - l) (cap - l)) (.sl ((es.take h).drop l)) := by
  have hlen : ((es.take h).drop l).length = h - l := by simp; omega
  by_cases hz : h - l = 0
  · rw [hz]
    have : (es.take h).drop l = [] := List.eq_nil_of_length_eq_zero (by rw [hlen, hz])
    rw [this]
    exact .emp _ _
  · obtain ⟨ao', cap', he, _, hne⟩ := hv.sl_inv
    cases he
    obtain ⟨b, o, size', rfl, hs0, hs1, hrun⟩ := hne (by rintro rfl; simp at hhl; omega)
    have hsize : size' = size := by
      have h0l : 0 < es.length := by omega
      have hm : es[0]? = some es[0] := by simp
      have h1 := hs1 es[0] (List.mem_of_getElem? hm)
      have h2 := hsz es[0] (List.mem_of_getElem? hm)
      omega
    subst hsize
    rw [if_neg (by omega)]
    simp only [Option.map_some, add_none]
    have hget : ∀ (i : Nat) (e : List D), ((es.take h).drop l)[i]? = some e → es[l + i]? = some e := fun i e hi => by
      rw [List.getElem?_drop, List.getElem?_take] at hi
      split at hi
      · exact hi
      · cases hi
    have hcell : ∀ (i j : Nat), i < h - l → j < size' → R b (o + l * size' + i * size' + j) ∧ ∃ v d, w.cell? ⟨b, o + l * size' + i * size' + j, none⟩ = some v ∧ ((es.take h).drop l)[i]?.bind (·[j]?) = some d ∧ d.one = true ∧ V R w v d := fun i j hi hj => by
      have hil : l + i < es.length := by omega
      have hei : es[l + i]? = some es[l + i] := by simp [hil]
      have hjl : j < (es[l + i]).length := by rw [hs1 _ (List.mem_of_getElem? hei)]; exact hj
      obtain ⟨h1, h2, v, h3, h4⟩ := hrun (l + i) es[l + i] hei j (es[l + i])[j] (by simp [hjl])
      have hadd : o + (l + i) * size' + j = o + l * size' + i * size' + j := by rw [Nat.add_mul]; omega
      rw [hadd] at h2 h3
      refine ⟨h2, v, (es[l + i])[j], h3, ?_, h1, h4⟩
      rw [List.getElem?_drop, List.getElem?_take, if_pos (by omega), hei]
      simp [hjl]
    refine .sl b (o + l * size') (h - l) (cap - l) size' _ (fun i j => (w.cell? ⟨b, o + l * size' + i * size' + j, none⟩).getD undef) hlen.symm (by omega) hs0 (fun e he => ?_) (fun i j hi hj => ?_) (fun i j e d he hd => ?_) (fun i j e d he hd => ?_)
    · exact hsz e (List.mem_of_mem_take (List.mem_of_mem_drop he))
    · obtain ⟨h1, v, d, h2, _⟩ := hcell i j hi hj
      exact ⟨h1, by rw [h2]; rfl⟩
    · exact (hrun _ e (hget i e he) j d hd).1
    · have hil : i < h - l := by rw [← hlen]; exact (List.getElem?_eq_some_iff.1 he).1
      have hjl : j < size' := by rw [← hsz e (List.mem_of_mem_take (List.mem_of_mem_drop (List.mem_of_getElem? he)))]; exact (List.getElem?_eq_some_iff.1 hd).1
      obtain ⟨h1, v, d', h2, h3, h4, h5⟩ := hcell i j hil hjl
      rw [he] at h3
      simp only [Option.bind_some] at h3
      rw [hd] at h3
      cases h3
      rw [h2]
      exact h5

theorem str_extract (s : List UInt8) (l h : Nat) : (⟨s.toArray⟩ : ByteArray).extract l h = ⟨((s.take h).drop l).toArray⟩ := by
  rw [ByteArray.extract_mk]
  congr 2
  rw [List.drop_take]

end
end Go.VM
