/- The abstract machine on plain data: slices are made and grown. No condition. -/
import Derived.Test.YtdnkdeplpnbojaaDoorVmB
set_option linter.unusedVariables false
set_option linter.unusedSimpArgs false
set_option linter.unusedSectionVars false
namespace Go.VM
open Go Go.RowKit

section
variable {P : Program} {G : GT} {st : St} {out : Out}
variable {base : Nat} {R R' : Nat → Nat → Prop} {μ : Nat → Nat} {a : Act} {w w' : World}

theorem fill_seq (s : Nat) : ∀ (ps : List (Nat × Value)) (k : Nat) (cs : Array Value), (∀ (i : Nat) (p : Nat × Value), ps[i]? = some p → p.1 = k + i ∧ p.2.cells.size = s) → (k + ps.length) * s ≤ cs.size →
    ∃ cs', Instr.fill (fun i => some (i * s, s)) cs ps = some cs' ∧ cs'.size = cs.size ∧ (∀ n, n < k * s → cs'[n]? = cs[n]?) ∧ ∀ (i j : Nat) (p : Nat × Value), ps[i]? = some p → j < s → cs'[(k + i) * s + j]? = p.2.cells[j]?
  | [], k, cs, _, _ => ⟨cs, rfl, rfl, fun _ _ => rfl, by simp⟩
  | p :: ps, k, cs, hp, hl => by
    obtain ⟨h1, h2⟩ := hp 0 p rfl
    simp only [Nat.add_zero] at h1
    have hk : k * s + s ≤ cs.size := by
      have : (k + 1) * s ≤ (k + (p :: ps).length) * s := Nat.mul_le_mul_right _ (by simp only [List.length_cons]; omega)
      rw [Nat.add_mul, Nat.one_mul] at this; omega
    have hcond : (decide (p.2.cells.size ≠ s) || decide (p.1 * s + p.2.cells.size > cs.size)) = false := by
      rw [h1, h2]; simp; omega
    have hfill : Instr.fill (fun i => some (i * s, s)) cs (p :: ps) = Instr.fill (fun i => some (i * s, s)) ((p.2.cells.toList.zipIdx 0).foldl (fun cs (x : Value × Nat) => cs.setIfInBounds (p.1 * s + x.2) x.1) cs) ps := by
      obtain ⟨i, v⟩ := p
      simp only [Instr.fill, hcond, Bool.false_eq_true, if_false]
      congr 1
      rw [← Array.foldl_toList, Array.toList_zipIdx]
    have hget : ∀ n, ((p.2.cells.toList.zipIdx 0).foldl (fun cs (x : Value × Nat) => cs.setIfInBounds (p.1 * s + x.2) x.1) cs)[n]? = if k * s ≤ n ∧ n < k * s + s ∧ n < cs.size then p.2.cells[n - k * s]? else cs[n]? := fun n => by
      rw [foldl_set_get, h1]
      simp [h2]
    obtain ⟨cs', q1, q2, q3, q4⟩ := fill_seq s ps (k + 1) ((p.2.cells.toList.zipIdx 0).foldl (fun cs (x : Value × Nat) => cs.setIfInBounds (p.1 * s + x.2) x.1) cs) (fun i p' hi => by
      have := hp (i + 1) p' (by simpa using hi)
      exact ⟨by omega, this.2⟩) (by rw [fold_size]; simp at hl; rwa [show k + 1 + ps.length = k + (ps.length + 1) by omega])
    refine ⟨cs', by rw [hfill]; exact q1, by rw [q2, fold_size], fun n hn => ?_, fun i j p' hi hj => ?_⟩
    · rw [q3 n (by rw [Nat.add_mul]; omega), hget, if_neg (by omega)]
    · cases i with
      | zero =>
        simp at hi; subst hi
        rw [Nat.add_zero, q3 _ (by rw [Nat.add_mul]; omega), hget, if_pos ⟨by omega, by omega, by omega⟩]
        congr 1; omega
      | succ i =>
        have := q4 i j p' (by simpa using hi) hj
        rwa [show k + 1 + i = k + (i + 1) by omega] at this

/-- A NEW ROW OF CELLS: the world, what is settled, the slice over it. -/
theorem Rel.newRow (h : Rel P G base R μ st a w) {w1 : World} (hw1 : w1 = w ∨ w1 = w.drew) {e : TypeId} {cs : Array Value} {es : List (List D)} {n cap : Nat} (hsz : cs.size = cap * P.cellsOf e) (hs : 0 < P.cellsOf e) (hn : n = es.length) (hcap : n ≤ cap) (hmax : cap ≤ maxLen)
    (hlen : ∀ c ∈ es, c.length = P.cellsOf e) (hcs : ∀ (i j : Nat) (c : List D) (d : D), es[i]? = some c → c[j]? = some d → d.one = true ∧ ∃ v, cs[i * P.cellsOf e + j]? = some v ∧ V R w v d) :
    Rel P G base (fun b o => R b o ∨ (b = w.heap.size ∧ o < n * P.cellsOf e)) μ st a (w1.alloc (.cells cs e)) ∧
    Step base R w (fun b o => R b o ∨ (b = w.heap.size ∧ o < n * P.cellsOf e)) (w1.alloc (.cells cs e)) ∧
    V (fun b o => R b o ∨ (b = w.heap.size ∧ o < n * P.cellsOf e)) (w1.alloc (.cells cs e)) (.slice (some ⟨w.heap.size, 0, none⟩) n cap) (.sl es) ∧
    ActOk P base (fun b o => R b o ∨ (b = w.heap.size ∧ o < n * P.cellsOf e)) μ st a (w1.alloc (.cells cs e)) (.slice (some ⟨w.heap.size, 0, none⟩) n cap) (.fresh e) := by
  have hheap : w1.heap = w.heap := by rcases hw1 with rfl | rfl <;> rfl
  have hos : w1.os = w.os ∧ w1.tape = w.tape ∧ w1.output = w.output := by rcases hw1 with rfl | rfl <;> exact ⟨rfl, rfl, rfl⟩
  have hnew : (w1.alloc (.cells cs e)).heap[w.heap.size]? = some (.cells cs e (0, 0)) := by
    rw [← hheap]; exact heap_alloc_new w1 _
  have hold : ∀ k, k < w.heap.size → (w1.alloc (.cells cs e)).heap[k]? = w.heap[k]? := fun k hk => by
    rw [← hheap] at hk ⊢; exact Below.heap_alloc w1 _ k hk
  have hsize : (w1.alloc (.cells cs e)).heap.size = w.heap.size + 1 := by simp [hheap]
  have hst : Step base R w (fun b o => R b o ∨ (b = w.heap.size ∧ o < n * P.cellsOf e)) (w1.alloc (.cells cs e)) :=
    ⟨⟨hos.1, hos.2.1, hos.2.2, by omega, fun k hk => hold k (by have := h.base; omega)⟩, fun _ _ h => .inl h, fun b o hr hn => by
      rcases hr with hr | ⟨rfl, _⟩
      · exact absurd hr hn
      · exact h.base, fun b o hr => World.cell?_of_block (hold b (h.rset b o hr))⟩
  have hrel := h.step hst hold (fun b o hr hn => by rcases hr with hr | ⟨rfl, _⟩; exact absurd hr hn; exact Nat.le_refl _) (fun b o hr => by
    rw [hsize]
    rcases hr with hr | ⟨rfl, _⟩
    · have := h.rset b o hr; omega
    · omega)
  refine ⟨hrel, hst, ?_, ?_, ?_, ?_⟩
  · by_cases h0 : n = 0
    · have : es = [] := List.eq_nil_of_length_eq_zero (by omega)
      rw [h0, this]; exact .emp _ _
    · have hcell : ∀ (i j : Nat) (c : List D) (d : D), es[i]? = some c → c[j]? = some d → ∃ v, (w1.alloc (.cells cs e)).cell? ⟨w.heap.size, 0 + i * P.cellsOf e + j, none⟩ = some v ∧ V R w v d := fun i j c d hi hj => by
        obtain ⟨_, v, h2, h3⟩ := hcs i j c d hi hj
        exact ⟨v, by rw [Nat.zero_add, cell_of_row _ _ _ cs e (0, 0) hnew]; exact h2, h3⟩
      refine .sl w.heap.size 0 n cap (P.cellsOf e) es (fun i j => ((w1.alloc (.cells cs e)).cell? ⟨w.heap.size, 0 + i * P.cellsOf e + j, none⟩).getD undef) hn hcap hs hlen (fun i j hi hj => ⟨.inr ⟨rfl, ?_⟩, ?_⟩) (fun i j c d hi hj => (hcs i j c d hi hj).1) (fun i j c d hi hj => ?_)
      · have : (i + 1) * P.cellsOf e ≤ n * P.cellsOf e := Nat.mul_le_mul_right _ (by omega)
        rw [Nat.add_mul] at this; omega
      · have hil : i < es.length := by omega
        have hei : es[i]? = some es[i] := List.getElem?_eq_getElem hil
        have hjl : j < (es[i]).length := by rw [hlen _ (List.mem_of_getElem? hei)]; exact hj
        obtain ⟨v, hv, _⟩ := hcell i j es[i] (es[i])[j] hei (List.getElem?_eq_getElem hjl)
        rw [hv]; rfl
      · obtain ⟨v, hv, hvd⟩ := hcell i j c d hi hj
        rw [hv]; exact hvd.of_step hst
  · refine .inr ⟨w.heap.size, n, cap, cs, rfl, h.base, hnew, hcap, hmax, hsz, fun off ho hr => ?_⟩
    rcases hr with hr | ⟨_, hr⟩
    · have := h.rset _ _ hr; omega
    · omega
  · intro k o hk hsp
    obtain ⟨_, _, h3⟩ := h.objs k o hk
    have := h3.lt
    simp only [spareBlk] at hsp
    split at hsp <;> simp at hsp
    omega
  · obtain ⟨vs, hvs⟩ := h.own
    refine ⟨vs, hvs.step h hold (fun b o hb hr => by rcases hr with hr | ⟨rfl, _⟩; exact hr; omega), fun v' hv' => ⟨fun g hg hg' => ?_, fun g hg hg' => ?_⟩⟩
    · have hlt := hvs.lt hv' hg'
      simp only [spareBlk] at hg
      split at hg <;> simp at hg
      omega
    · have hlt := hvs.lt hv' hg
      simp only [spareBlk] at hg'
      split at hg' <;> simp at hg'
      omega

theorem elemOk_spec {e : TypeId} (h : elemOk P e = true) : ∃ i z, P.info? e = some i ∧ i.size = P.cellsOf e ∧ i.bytes = P.bytesOf e ∧ 0 < P.cellsOf e ∧ i.zero = some z ∧ z.cells.size = P.cellsOf e := by
  unfold elemOk at h
  split at h
  · rename_i i hi
    have h1 : i.size = P.cellsOf e := by simp [Program.cellsOf, hi]
    have h2 : i.bytes = P.bytesOf e := by simp [Program.bytesOf, hi]
    simp only [Bool.and_eq_true, decide_eq_true_eq] at h
    cases hz : i.zero with
    | none => simp [hz] at h
    | some z =>
      simp [hz] at h
      exact ⟨i, z, hi, h1, h2, by omega, hz, by omega⟩
  · cases h

theorem elemOfD_spec {t e : TypeId} (h : elemOfD P t = some e) : P.underlying t = some (.slice e) := by
  unfold elemOfD at h
  split at h
  · simp at h; subst h; assumption
  · cases h

theorem vBuildSlice_ok {o : Oper} {t : TypeId} {len : Nat} {parts : Array (Nat × Operand)} (ho : o.op = .buildSlice t len parts) (h : vBuildSlice P G t len parts st = some out) : OpOk P G o st out := by
  unfold vBuildSlice at h
  split at h
  · rename_i e ps he hps
    split at h
    · rename_i hc
      simp only [Bool.and_eq_true, decide_eq_true_eq, beq_iff_eq] at hc
      obtain ⟨⟨⟨hok, hidx⟩, hall⟩, hbig⟩ := hc
      simp only [Option.some.injEq] at h; subst h
      obtain ⟨i, z, hi, hsize, hbytes, hpos, hz, hzs⟩ := elemOk_spec hok
      have hu := elemOfD_spec he
      intro base R μ a w hr
      obtain ⟨hl, hp⟩ := partsD_spec hr hps
      have hpl : ps.length = len := by have := congrArg List.length hidx; simpa using this
      have hlen2 : ∀ q ∈ ps, q.2.cells.length = P.cellsOf e := fun q hq => by simpa using List.all_eq_true.1 hall q hq
      have hget : ∀ (i : Nat) (p : Nat × Value), (parts.toList.map fun x => (x.1, a.eval x.2))[i]? = some p → ∃ q, ps[i]? = some q ∧ p.1 = i ∧ V R w p.2 q.2 := fun i p hpi => by
        have hil : i < ps.length := by rw [← hl]; have := (List.getElem?_eq_some_iff.1 hpi).1; simpa using this
        have hq : ps[i]? = some ps[i] := List.getElem?_eq_getElem hil
        obtain ⟨h1, h2⟩ := hp i p ps[i] hpi hq
        refine ⟨ps[i], hq, ?_, h2⟩
        have h3 : (ps.map (·.1))[i]? = (List.range len)[i]? := by rw [hidx]
        rw [List.getElem?_map, hq, List.getElem?_range (by omega)] at h3
        have h4 : ps[i].1 = i := by simpa using h3
        omega
      obtain ⟨cs', q1, q2, _, q4⟩ := fill_seq (P.cellsOf e) (parts.toList.map fun x => (x.1, a.eval x.2)) 0 ((Array.range (len * P.cellsOf e)).map fun i => (if len * P.cellsOf e = 0 then (#[] : Array Value) else z.cells)[i % (if len * P.cellsOf e = 0 then (#[] : Array Value) else z.cells).size]!)
        (fun i p hpi => by
          obtain ⟨q, hq, h1, h2⟩ := hget i p hpi
          exact ⟨by omega, by rw [h2.cells.1, hlen2 q (List.mem_of_getElem? hq)]⟩) (by simp [hl, hpl])
      have hcsz : cs'.size = len * P.cellsOf e := by rw [q2]; simp
      have hN := hr.newRow (w1 := w) (.inl rfl) (e := e) (cs := cs') (es := ps.map fun p => p.2.cells) (n := len) (cap := len) hcsz hpos (by simp [hpl]) (Nat.le_refl _)
        (by unfold maxLen; have : len * 1 ≤ len * P.cellsOf e := Nat.mul_le_mul_left _ hpos; omega) (fun c hc => by simp only [List.mem_map] at hc; obtain ⟨q, hq, rfl⟩ := hc; exact hlen2 q hq)
        (fun i j c d hi hj => by
          simp only [List.getElem?_map, Option.map_eq_some_iff] at hi
          obtain ⟨q, hq, rfl⟩ := hi
          have hil : i < parts.toList.length := by rw [hl]; exact (List.getElem?_eq_some_iff.1 hq).1
          have hpi : (parts.toList.map fun x => (x.1, a.eval x.2))[i]? = some ((parts.toList[i]).1, a.eval (parts.toList[i]).2) := by rw [List.getElem?_map, List.getElem?_eq_getElem hil]; rfl
          obtain ⟨_, hv⟩ := hp i _ q hpi hq
          obtain ⟨v1, v2⟩ := hv.cells
          have hjl : j < q.2.cells.length := (List.getElem?_eq_some_iff.1 hj).1
          obtain ⟨h1, h2⟩ := v2 j d hj
          have := q4 i j _ hpi (by rw [← hlen2 q (List.mem_of_getElem? hq)]; exact hjl)
          rw [Nat.zero_add] at this
          refine ⟨h1, _, ?_, h2⟩
          rw [this]
          have hjs : j < (a.eval (parts.toList[i]).2).cells.size := by rw [v1]; exact hjl
          rw [Array.getD_eq_getD_getElem?, Array.getElem?_eq_getElem hjs]; rfl)
      obtain ⟨n1, n2, n3, n4⟩ := hN
      refine ⟨_, _, _, μ, .inl ?_, n1, .d _ _ n3, n4, n2⟩
      have hbig' : ¬ (len * P.cellsOf e > 2 ^ 24) := by omega
      have hpar : (parts.map fun (x : Nat × Operand) => (x.1, a.eval x.2)).toList = parts.toList.map fun x => (x.1, a.eval x.2) := by simp
      have hso := info_ok (P := P) (t := e) (by rw [hi]; rfl) w
      by_cases h0 : len * P.cellsOf e = 0
      · simp only [h0, if_true] at q1
        simp only [execOp, ho, Instr.buildSlice, Sem.run_bind, run_underlying hu, Result.andThen_ok, hso, h0, gt_iff_lt, Nat.not_lt_zero, if_false, if_true, Sem.run_pure, hpar, q1, newRow]
        rfl
      · simp only [h0, if_false] at q1
        simp only [execOp, ho, Instr.buildSlice, Sem.run_bind, run_underlying hu, Result.andThen_ok, hso, if_neg hbig', h0, if_false, Sem.run_pure, zeroValue, typeInfo, hi, hz, hpar, q1, newRow, run_program]
        rfl
    · cases h
  · cases h
end
end Go.VM
