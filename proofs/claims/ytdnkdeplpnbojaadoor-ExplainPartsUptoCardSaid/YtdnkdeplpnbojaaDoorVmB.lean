/- The abstract machine on plain data: new objects, maps, iterators. No condition. -/
import Derived.Test.YtdnkdeplpnbojaaDoorVmA
set_option linter.unusedVariables false
set_option linter.unusedSimpArgs false
set_option linter.unusedSectionVars false
namespace Go.VM
open Go Go.RowKit

section
variable {P : Program} {G : GT} {st : St} {out : Out}
variable {base : Nat} {R : Nat → Nat → Prop} {μ : Nat → Nat} {a : Act} {w w' : World}

theorem alloc_eq' (w : World) (o : Obj) : ({ w with heap := w.heap.push o } : World) = w.alloc o := rfl

theorem newCells_ok {o : Oper} {d : Nat} {cs : List D} {e : TypeId} (_hd : o.dst = some d) (h : ∀ base R μ a w, Rel P G base R μ st a w → ∃ vs : Array Value, (execOp a.eval o).run P w = .ok (.value (.pointer (some ⟨w.heap.size, 0, none⟩))) (w.alloc (.cells vs e)) ∧ vs.size = cs.length ∧
    ∀ (i : Nat) (x : D), cs[i]? = some x → x.one = true ∧ V R w (vs.getD i undef) x) : OpOk P G o st ⟨.ptr d 0, .no, newObjAt st d (.cells cs)⟩ := by
  intro base R μ a w hr
  obtain ⟨vs, h1, h2, h3⟩ := h base R μ a w hr
  have hs := Step.alloc (base := base) R w (.cells vs e) hr.base hr.rset
  obtain ⟨hrel, hst⟩ := hr.newObj d (.cells cs) (.cells vs e) ⟨vs, e, heap_alloc_new w _, h2, fun i x hi => ⟨(h3 i x hi).1, (h3 i x hi).2.of_step hs⟩⟩
  refine ⟨_, _, R, _, .inl h1, hrel, ?_, trivial, hst⟩
  have := TV.ptr (R := R) (μ := fun k => if k = d then w.heap.size else μ k) (w := w.alloc (.cells vs e)) d 0
  simpa using this

theorem vAlloc_ok {o : Oper} {e : TypeId} (ho : o.op = .alloc e) (h : vAlloc P o.dst e st = some out) : OpOk P G o st out := by
  unfold vAlloc at h
  split at h
  · rename_i d cs hd hz
    simp only [Option.some.injEq] at h; subst h
    refine newCells_ok (e := e) hd fun base R μ a w hr => ?_
    obtain ⟨zv, h1, h2, h3⟩ := zeroD_spec (R := R) hz w
    exact ⟨zv.cells, by simp [execOp, ho, Instr.alloc, h1, newVar, newRow], h2, h3⟩
  · cases h

theorem vBox_ok {o : Oper} {e : TypeId} {x : Operand} (ho : o.op = .box e x) (h : vBox G o.dst x st = some out) : OpOk P G o st out := by
  unfold vBox at h
  split at h
  · rename_i d y hd hx
    simp only [Option.some.injEq] at h; subst h
    refine newCells_ok (e := e) hd fun base R μ a w hr => ?_
    obtain ⟨h1, h2⟩ := (hr.evalD hx).cells
    exact ⟨(a.eval x).cells, by simp [execOp, ho, Instr.box, newVar, newRow], h1, h2⟩
  · cases h

theorem vMakeMap_ok {o : Oper} {t : TypeId} {r : Option Operand} (ho : o.op = .makeMap t r) (h : vMakeMap o.dst r st = some out) : OpOk P G o st out := by
  unfold vMakeMap at h
  split at h
  · rename_i d hd
    simp only [Option.some.injEq] at h; subst h
    intro base R μ a w hr
    obtain ⟨hrel, hst⟩ := hr.newObj d (.map []) (.map #[] 0) ⟨#[], 0, heap_alloc_new w _, rfl, by simp⟩
    refine ⟨.map (some w.heap.size), _, R, _, .inl (by simp [execOp, ho, Instr.makeMap]), hrel, ?_, trivial, hst⟩
    have := TV.mp (R := R) (μ := fun k => if k = d then w.heap.size else μ k) (w := w.alloc (.map #[] 0)) d
    simpa using this
  · cases h

theorem vRange_ok {o : Oper} {t : TypeId} {x : Operand} (ho : o.op = .range t x) (h : vRange P G o.dst t x st = some out) : OpOk P G o st out := by
  unfold vRange at h
  split at h
  · rename_i d s hd hu hx
    simp only [Option.some.injEq] at h; subst h
    intro base R μ a w hr
    obtain ⟨hrel, hst⟩ := hr.newObj d (.iter s 0) (.stringIter ⟨s.toArray⟩ 0) (heap_alloc_new w _)
    refine ⟨.pointer (some ⟨w.heap.size, 0, none⟩), _, R, _, .inl (by simp [execOp, ho, Instr.range, run_underlying hu, hr.evalStr hx]), hrel, ?_, trivial, hst⟩
    have := TV.it (R := R) (μ := fun k => if k = d then w.heap.size else μ k) (w := w.alloc (.stringIter ⟨s.toArray⟩ 0)) d
    simpa using this
  · cases h

/-- The world with block b made anew. -/
def setBlk (w : World) (b : Nat) (o : Obj) : World := { w with heap := w.heap.setIfInBounds b o }
theorem setBlk_same {b : Nat} {o o' : Obj} (h : w.heap[b]? = some o') : (setBlk w b o).heap[b]? = some o := by
  have hlt : b < w.heap.size := (Array.getElem?_eq_some_iff.1 h).1
  simp [setBlk, hlt]
theorem setBlk_other {b j : Nat} (o : Obj) (h : j ≠ b) : (setBlk w b o).heap[j]? = w.heap[j]? := by
  simp [setBlk, Ne.symm h]

/-- An object without cells is written. -/
theorem Rel.setBlk (h : Rel P G base R μ st a w) {k : Nat} {o o' : AObj} {ob old : Obj} (hk : getKey k st.H = some o) (hold : w.heap[μ k]? = some old) (hnc : ∀ c t f, ob ≠ .cells c t f)
    (hob : ∀ w', Step base R w R w' → w'.heap[μ k]? = some ob → ObjRel R w' (μ k) o') :
    Rel P G base R μ { st with H := setKey k o' st.H } a (setBlk w (μ k) ob) ∧ Step base R w R (Go.VM.setBlk w (μ k) ob) := by
  have hsz : (Go.VM.setBlk w (μ k) ob).heap.size = w.heap.size := by simp [Go.VM.setBlk]
  have hb : ∀ j, j ≠ μ k → (Go.VM.setBlk w (μ k) ob).heap[j]? = w.heap[j]? := fun j hj => setBlk_other ob hj
  have hs := h.stepObj (w' := Go.VM.setBlk w (μ k) ob) hk rfl rfl rfl hsz hb
  refine h.setObj (w' := Go.VM.setBlk w (μ k) ob) hk rfl rfl rfl hsz hb (hob _ hs (setBlk_same hold)) h.locs (Owns.noCells h hk hb fun off => ?_)
  simp only [World.cell?, setBlk_same (o := ob) hold]
  cases ob <;> first | rfl | exact absurd rfl (hnc _ _ _)

theorem run_setBlk {b : Nat} {old ob : Obj} (h : w.heap[b]? = some old) (hnc : ∀ c t f, old ≠ .cells c t f) : (Go.setObj b ob).run P w = .ok () (setBlk w b ob) := by
  cases old <;> first | exact absurd rfl (hnc _ _ _) | simp [Go.setObj, Sem.run, h, setBlk]

theorem run_getBlk {b : Nat} {old : Obj} (h : w.heap[b]? = some old) (hnc : ∀ c t f, old ≠ .cells c t f) : (Go.getObj b).run P w = .ok old w := by
  simp only [Go.getObj, Sem.run, h]
  try (cases old <;> first | rfl | exact absurd rfl (hnc _ _ _))

theorem vNext_ok {o : Oper} {x : Operand} {b : Bool} (ho : o.op = .next x b) (h : vNext G x b st = some out) : OpOk P G o st out := by
  unfold vNext at h
  split at h
  · rename_i k hx
    split at h
    · rename_i s pos hk
      split at h
      · rename_i hlt
        simp only [Option.some.injEq] at h; subst h
        intro base R μ a w hr
        obtain ⟨_, _, hh⟩ := hr.objs k _ hk
        change w.heap[μ k]? = _ at hh
        obtain ⟨hrel, hst⟩ := hr.setBlk (ob := .stringIter ⟨s.toArray⟩ (pos + (Utf8.decode ⟨s.toArray⟩ pos).2)) (o' := .iter s (pos + (Utf8.decode ⟨s.toArray⟩ pos).2)) hk hh (by simp) (fun w' _ h => h)
        refine ⟨.tuple #[.bool true, .int .i64 pos, .int .i32 (Utf8.decode ⟨s.toArray⟩ pos).1], _, R, μ, .inl ?_, hrel, ?_, trivial, hst⟩
        · simp [execOp, ho, hr.evalIt hx, Instr.next, run_getBlk (P := P) hh (by simp), bytes_size, hlt, run_setBlk (P := P) hh (by simp), goInt]
        · refine .tup _ _ rfl (fun i d hi => ?_)
          match i, hi with
          | 0, hi => simp at hi; subst hi; exact .bool _
          | 1, hi => simp at hi; subst hi; exact .int _ _
          | 2, hi => simp at hi; subst hi; exact .int _ _
          | n + 3, hi => simp at hi
      · rename_i hlt
        simp only [Option.some.injEq] at h; subst h
        refine opOk_pure fun base R μ a w hr => ?_
        obtain ⟨_, _, hh⟩ := hr.objs k _ hk
        change w.heap[μ k]? = _ at hh
        refine ⟨.tuple #[.bool false], ?_, ?_, trivial⟩
        · simp [execOp, ho, hr.evalIt hx, Instr.next, run_getBlk (P := P) hh (by simp), bytes_size, hlt]
        · refine .tup _ _ rfl (fun i d hi => ?_)
          match i, hi with
          | 0, hi => simp at hi; subst hi; exact .bool _
          | n + 1, hi => simp at hi
    · cases h
  · cases h

theorem eqCell_same {p q : D} {u v : Value} (hu : V R w u p) (hv : V R w v q) (h : eqCell p q = some true) (n : Nat) : Instr.sameBits n v u = true := by
  unfold eqCell at h
  split at h
  · obtain rfl := hu.int_inv
    obtain rfl := hv.int_inv
    split at h <;> simp at h
    rename_i hkk; subst hkk h
    cases n <;> simp [Instr.sameBits]
  · obtain rfl := hu.str_inv
    obtain rfl := hv.str_inv
    simp at h; subst h
    cases n <;> simp [Instr.sameBits, str_beq]
  · obtain rfl := hu.bool_inv
    obtain rfl := hv.bool_inv
    simp at h; subst h
    cases n <;> simp [Instr.sameBits]
  · cases h

theorem setKeyD_ok {d : TypeDesc} {k x : D} {u v : Value} (hu : V R w u k) (hx : V R w v x) (hf : fitDesc d k = true) : ∀ (l : List MapEntry) (es es' : List (D × D)) (n : Nat), Ents R w l es → setKeyD k x es = some es' →
    (Instr.findNow d u l n = some none ∧ ∀ born, Ents R w (l ++ [⟨u, v, born⟩]) es') ∨
    ∃ (i : Nat) (e : MapEntry), Instr.findNow d u l n = some (some (n + i, e.val)) ∧ l[i]? = some e ∧ Instr.sameBits 10000 e.key u = true ∧ Ents R w (l.set i { e with key := u, val := v }) es'
  | [], [], es', n, _, h => by
    simp [setKeyD] at h; subst h
    refine .inl ⟨rfl, fun born => ⟨rfl, fun i e k' v' he hk => ?_⟩⟩
    match i, he, hk with
    | 0, he, hk => simp at he hk; obtain ⟨rfl, rfl⟩ := hk; subst he; exact ⟨hu, hx⟩
    | i + 1, he, hk => simp at he
  | [], _ :: _, _, _, he, _ => by simp [Ents] at he
  | _ :: _, [], _, _, he, _ => by simp [Ents] at he
  | e :: l, (k', v') :: es, es', n, he, h => by
    have h0 := he.2 0 e k' v' rfl rfl
    simp only [setKeyD] at h
    split at h
    · rename_i hq
      simp at h; subst h
      refine .inr ⟨0, e, by simp [Instr.findNow, sameNow_ok hu h0.1 hf hq], rfl, eqCell_same hu h0.1 hq _, ?_⟩
      refine ⟨by simpa using he.1, fun i e' k1 v1 h1 h2 => ?_⟩
      match i, h1, h2 with
      | 0, h1, h2 => simp at h1 h2; obtain ⟨rfl, rfl⟩ := h2; subst h1; exact ⟨hu, hx⟩
      | i + 1, h1, h2 => exact he.2 (i + 1) e' k1 v1 (by simpa using h1) (by simpa using h2)
    · rename_i hq
      split at h <;> simp at h
      rename_i r' hr'
      subst h
      have cons : ∀ {l' : List MapEntry} {r : List (D × D)}, Ents R w l' r → Ents R w (e :: l') ((k', v') :: r) := fun {l' r} hE => ⟨by simp [hE.1], fun i e' k1 v1 h1 h2 => by
        match i, h1, h2 with
        | 0, h1, h2 => simp at h1 h2; obtain ⟨rfl, rfl⟩ := h2; subst h1; exact h0
        | i + 1, h1, h2 => exact hE.2 i e' k1 v1 (by simpa using h1) (by simpa using h2)⟩
      rcases setKeyD_ok hu hx hf l es r' (n + 1) he.tail hr' with ⟨h1, h2⟩ | ⟨i, e', h1, h2, h3, h4⟩
      · exact .inl ⟨by simp [Instr.findNow, sameNow_ok hu h0.1 hf hq, h1], fun born => by simpa using cons (h2 born)⟩
      · exact .inr ⟨i + 1, e', by simp [Instr.findNow, sameNow_ok hu h0.1 hf hq, h1]; omega, by simpa using h2, h3, by simpa using cons h4⟩
    · cases h

theorem ObjRel.of_ents {b : Nat} {ents : Array MapEntry} {clock : Nat} {es : List (D × D)} (hb : w.heap[b]? = some (.map ents clock)) (h : Ents R w ents.toList es) : ObjRel R w b (.map es) :=
  ⟨ents, clock, hb, by simpa using h.1, fun i k v hi => by
    have hil : i < ents.toList.length := by rw [h.1]; exact (List.getElem?_eq_some_iff.1 hi).1
    have he : ents.toList[i]? = some (ents.toList[i]) := List.getElem?_eq_getElem hil
    have := h.2 i _ k v he hi
    have hg : ents.getD i default = ents.toList[i] := by
      have h3 : ents[i]? = some (ents.toList[i]) := by rw [← Array.getElem?_toList]; exact he
      rw [Array.getD_eq_getD_getElem?, h3]; rfl
    rw [hg]; exact this⟩

theorem Ents.of_step (hs : Step base R w R w') {l : List MapEntry} {es : List (D × D)} (h : Ents R w l es) : Ents R w' l es := ⟨h.1, fun i e k v h1 h2 => ⟨(h.2 i e k v h1 h2).1.of_step hs, (h.2 i e k v h1 h2).2.of_step hs⟩⟩

theorem vMapUpdate_ok {o : Oper} {t : TypeId} {m k x : Operand} (ho : o.op = .mapUpdate t m k x) (h : vMapUpdate P G t m k x st = some out) : OpOk P G o st out := by
  unfold vMapUpdate at h
  split at h
  · rename_i kt et key kk xx hm hmx hk hx
    split at h
    · rename_i es hg hf
      simp only [Option.map_eq_some_iff] at h
      obtain ⟨es', hset, rfl⟩ := h
      obtain ⟨hu, d, hd, hs⟩ := mapOf_spec hm
      intro base R μ a w hr
      obtain ⟨_, _, ents, clock, hh, hsz, hev⟩ := hr.objs key _ hg
      have hE := Ents.of_obj hsz hev
      rcases setKeyD_ok (hr.evalD hk) (hr.evalD hx) (keyFits_spec hd hf) ents.toList es es' 0 hE hset with ⟨h1, h2⟩ | ⟨i, e, h1, h2, h3, h4⟩
      · obtain ⟨hrel, hst⟩ := hr.setBlk (ob := .map (ents.push ⟨a.eval k, a.eval x, clock⟩) (clock + 1)) (o' := .map es') hg hh (by simp)
          (fun w' hs' hb => ObjRel.of_ents hb ((by simpa using h2 clock : Ents R w (ents.push ⟨a.eval k, a.eval x, clock⟩).toList es').of_step hs'))
        refine ⟨Go.undef, _, R, μ, .inr ⟨?_, rfl⟩, hrel, .tup #[] [] rfl (by simp), trivial, hst⟩
        simp [execOp, ho, Instr.mapUpdate, run_underlying hu, hr.evalMp hmx, run_getMap (P := P) hh, run_checkKey_scalar (P := P) (w := w) hd hs, run_findKey_ok (P := P) (w := w) hd h1, run_setBlk (P := P) hh (by simp)]
      · have hil : i < ents.size := by simpa using (List.getElem?_eq_some_iff.1 h2).1
        have hei : ents[i]? = some e := by simpa using h2
        have hmod : (ents.modify i fun e => { e with key := a.eval k, val := a.eval x }).toList = ents.toList.set i { e with key := a.eval k, val := a.eval x } := by
          apply List.ext_getElem?
          intro j
          rw [Array.getElem?_toList, Array.getElem?_modify, List.getElem?_set]
          by_cases hij : i = j
          · subst hij
            have : ents[i] = e := by simpa [hil] using hei
            simp [hil, this]
          · simp [hij]
        obtain ⟨hrel, hst⟩ := hr.setBlk (ob := .map (ents.modify i fun e => { e with key := a.eval k, val := a.eval x }) clock) (o' := .map es') hg hh (by simp)
          (fun w' hs' hb => ObjRel.of_ents hb ((by rw [hmod]; exact h4 : Ents R w (ents.modify i fun e => { e with key := a.eval k, val := a.eval x }).toList es').of_step hs'))
        refine ⟨Go.undef, _, R, μ, .inr ⟨?_, rfl⟩, hrel, .tup #[] [] rfl (by simp), trivial, hst⟩
        have hkt : (Instr.keyThatStays e.key (a.eval k)).run P w = .ok (a.eval k) w := by simp [Instr.keyThatStays, h3]
        simp only [Nat.zero_add] at h1
        simp [execOp, ho, Instr.mapUpdate, run_underlying hu, hr.evalMp hmx, run_getMap (P := P) hh, run_checkKey_scalar (P := P) (w := w) hd hs, run_findKey_ok (P := P) (w := w) hd h1, hei, hkt, run_setBlk (P := P) hh (by simp)]
    · cases h
  · cases h

theorem delKeyD_ok {d : TypeDesc} {k : D} {u : Value} (hu : V R w u k) (hf : fitDesc d k = true) : ∀ (l : List MapEntry) (es es' : List (D × D)) (n : Nat), Ents R w l es → delKeyD k es = some es' →
    (Instr.findNow d u l n = some none ∧ Ents R w l es') ∨ ∃ (i : Nat) (e : MapEntry), Instr.findNow d u l n = some (some (n + i, e.val)) ∧ i < l.length ∧ Ents R w (l.eraseIdx i) es'
  | [], [], es', n, he, h => by
    simp [delKeyD] at h; subst h
    exact .inl ⟨rfl, he⟩
  | [], _ :: _, _, _, he, _ => by simp [Ents] at he
  | _ :: _, [], _, _, he, _ => by simp [Ents] at he
  | e :: l, (k', v') :: es, es', n, he, h => by
    have h0 := he.2 0 e k' v' rfl rfl
    simp only [delKeyD] at h
    split at h
    · rename_i hq
      simp at h; subst h
      exact .inr ⟨0, e, by simp [Instr.findNow, sameNow_ok hu h0.1 hf hq], by simp, he.tail⟩
    · rename_i hq
      split at h <;> simp at h
      rename_i r' hr'
      subst h
      have cons : ∀ {l' : List MapEntry} {r : List (D × D)}, Ents R w l' r → Ents R w (e :: l') ((k', v') :: r) := fun {l' r} hE => ⟨by simp [hE.1], fun i e' k1 v1 h1 h2 => by
        match i, h1, h2 with
        | 0, h1, h2 => simp at h1 h2; obtain ⟨rfl, rfl⟩ := h2; subst h1; exact h0
        | i + 1, h1, h2 => exact hE.2 i e' k1 v1 (by simpa using h1) (by simpa using h2)⟩
      rcases delKeyD_ok hu hf l es r' (n + 1) he.tail hr' with ⟨h1, h2⟩ | ⟨i, e', h1, h2, h4⟩
      · exact .inl ⟨by simp [Instr.findNow, sameNow_ok hu h0.1 hf hq, h1], cons h2⟩
      · exact .inr ⟨i + 1, e', by simp [Instr.findNow, sameNow_ok hu h0.1 hf hq, h1]; omega, by simpa using h2, by simpa using cons h4⟩
    · cases h

theorem vDelete_ok {o : Oper} {t : TypeId} {ts : Array TypeId} {m k : Operand} (ho : o.op = .call { callee := .builtin .delete, args := #[m, k], argTypes := ts }) (ht : ts[0]? = some t) (h : vDelete P G t m k st = some out) : OpOk P G o st out := by
  unfold vDelete at h
  split at h
  · rename_i kt et key kk hm hmx hk
    split at h
    · rename_i es hg hf
      simp only [Option.map_eq_some_iff] at h
      obtain ⟨es', hset, rfl⟩ := h
      obtain ⟨hu, d, hd, hs⟩ := mapOf_spec hm
      intro base R μ a w hr
      obtain ⟨_, _, ents, clock, hh, hsz, hev⟩ := hr.objs key _ hg
      have hE := Ents.of_obj hsz hev
      rcases delKeyD_ok (hr.evalD hk) (keyFits_spec hd hf) ents.toList es es' 0 hE hset with ⟨h1, h2⟩ | ⟨i, e, h1, h2, h4⟩
      · obtain ⟨hrel, hst⟩ := hr.setBlk (ob := .map ents clock) (o' := .map es') hg hh (by simp) (fun w' hs' hb => ObjRel.of_ents hb (h2.of_step hs'))
        refine ⟨.tuple #[], _, R, μ, .inl ?_, hrel, .tup #[] [] rfl (by simp), trivial, hst⟩
        simp [execOp, ho, resolve, invoke, builtin, Builtin.delete_, ht, run_underlying hu, hr.evalMp hmx, run_getMap (P := P) hh, run_checkKey_scalar (P := P) (w := w) hd hs, run_findKey_ok (P := P) (w := w) hd h1, run_setBlk (P := P) hh (by simp)]
      · have hil : i < ents.size := by simpa using h2
        obtain ⟨hrel, hst⟩ := hr.setBlk (ob := .map (ents.eraseIdxIfInBounds i) clock) (o' := .map es') hg hh (by simp) (fun w' hs' hb => ObjRel.of_ents hb ((by simpa [Array.eraseIdxIfInBounds, hil] using h4 : Ents R w (ents.eraseIdxIfInBounds i).toList es').of_step hs'))
        refine ⟨.tuple #[], _, R, μ, .inl ?_, hrel, .tup #[] [] rfl (by simp), trivial, hst⟩
        simp only [Nat.zero_add] at h1
        simp [execOp, ho, resolve, invoke, builtin, Builtin.delete_, ht, run_underlying hu, hr.evalMp hmx, run_getMap (P := P) hh, run_checkKey_scalar (P := P) (w := w) hd hs, run_findKey_ok (P := P) (w := w) hd h1, run_setBlk (P := P) hh (by simp)]
    · cases h
  · cases h
end
end Go.VM
