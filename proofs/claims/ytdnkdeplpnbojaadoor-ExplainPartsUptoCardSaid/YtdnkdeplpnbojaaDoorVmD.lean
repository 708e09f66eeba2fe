/- The abstract machine on plain data: append. No condition. -/
import Derived.Test.YtdnkdeplpnbojaaDoorVmC
set_option linter.unusedVariables false
set_option linter.unusedSimpArgs false
set_option linter.unusedSectionVars false
namespace Go.VM
open Go Go.RowKit

section
variable {P : Program} {G : GT} {st : St} {out : Out}
variable {base : Nat} {R R' : Nat → Nat → Prop} {μ : Nat → Nat} {a : Act} {w w' : World}

/-- The cells of a row of elements, as one list. -/
theorem rowCells {b o size : Nat} {ys : List (List D)} (hlen : ∀ e ∈ ys, e.length = size) (hrun : ∀ (i : Nat) (e : List D), ys[i]? = some e → Run R w b (o + i * size) e) :
    ∃ news : List Value, news.length = ys.length * size ∧ (∀ (j : Nat) (u : Value), news[j]? = some u → w.cell? ((⟨b, o, none⟩ : Addr).add j) = some u) ∧ (∀ u ∈ news, u.oneCell' = true) ∧
      ∀ (i j : Nat) (c : List D) (d : D), ys[i]? = some c → c[j]? = some d → d.one = true ∧ ∃ v, news[i * size + j]? = some v ∧ V R w v d := by
  have hcell : ∀ n, n < ys.length * size → ∃ v d, w.cell? ⟨b, o + n, none⟩ = some v ∧ d.one = true ∧ V R w v d ∧ ∃ c, ys[n / size]? = some c ∧ c[n % size]? = some d := fun n hn => by
    have hs : 0 < size := by
      rcases Nat.eq_zero_or_pos size with h | h
      · subst h; simp at hn
      · exact h
    have hi : n / size < ys.length := by rw [Nat.div_lt_iff_lt_mul hs]; exact hn
    have hei : ys[n / size]? = some ys[n / size] := List.getElem?_eq_getElem hi
    have hj : n % size < (ys[n / size]).length := by rw [hlen _ (List.mem_of_getElem? hei)]; exact Nat.mod_lt _ hs
    have hd := List.getElem?_eq_getElem hj
    obtain ⟨h1, _, v, h3, h4⟩ := hrun _ _ hei _ _ hd
    have heq : o + n / size * size + n % size = o + n := by have := Nat.div_add_mod n size; rw [Nat.mul_comm] at this; omega
    rw [heq] at h3
    exact ⟨v, _, h3, h1, h4, _, hei, hd⟩
  refine ⟨(List.range (ys.length * size)).map fun n => (w.cell? ⟨b, o + n, none⟩).getD undef, by simp, fun j u hj => ?_, fun u hu => ?_, fun i j c d hi hj => ?_⟩
  · simp only [List.getElem?_map, Option.map_eq_some_iff] at hj
    obtain ⟨n, hn, rfl⟩ := hj
    have hlt : j < ys.length * size := by simpa using (List.getElem?_eq_some_iff.1 hn).1
    rw [List.getElem?_range hlt] at hn
    cases hn
    obtain ⟨v, d, h1, _⟩ := hcell j hlt
    rw [add_none, h1]; rfl
  · simp only [List.mem_map, List.mem_range] at hu
    obtain ⟨n, hn, rfl⟩ := hu
    obtain ⟨v, d, h1, h2, h3, _⟩ := hcell n hn
    rw [h1]; exact h3.oneCell h2
  · have hil : i < ys.length := (List.getElem?_eq_some_iff.1 hi).1
    have hjl : j < size := by rw [← hlen c (List.mem_of_getElem? hi)]; exact (List.getElem?_eq_some_iff.1 hj).1
    have hlt : i * size + j < ys.length * size := by
      have : (i + 1) * size ≤ ys.length * size := Nat.mul_le_mul_right _ hil
      rw [Nat.add_mul] at this; omega
    obtain ⟨h1, _, v, h3, h4⟩ := hrun i c hi j d hj
    refine ⟨h1, v, ?_, h4⟩
    rw [List.getElem?_map, List.getElem?_range hlt]
    simp only [Option.map_some]
    rw [show o + (i * size + j) = o + i * size + j by omega, h3]; rfl

theorem asSl_spec (hr : Rel P G base R μ st a w) {x : Operand} {ys : List (List D)} (h : asSl (st.eval G x) = some ys) : ∃ ao cap, a.eval x = .slice ao ys.length cap ∧
    (ys ≠ [] → ∃ b o size, ao = some ⟨b, o, none⟩ ∧ 0 < size ∧ (∀ e ∈ ys, e.length = size) ∧ ∀ (i : Nat) (e : List D), ys[i]? = some e → Run R w b (o + i * size) e) := by
  unfold asSl at h
  split at h
  · rename_i es hx
    simp at h; subst h
    obtain ⟨ao, cap, h1, _, h3⟩ := (hr.evalD hx).sl_inv
    exact ⟨ao, cap, h1, h3⟩
  · rename_i hx
    simp at h; subst h
    obtain ⟨ao, h1⟩ := (hr.evalD hx).nils_inv
    exact ⟨ao, 0, h1, fun h => absurd rfl h⟩
  · cases h

theorem takeOwn_spec {l : Loc} : ∀ {own : List (TypeId × List Loc)} {e : TypeId} {own' : List (TypeId × List Loc)}, takeOwn l own = some (e, own') → ∃ pre c post, own = pre ++ c :: post ∧ own' = pre ++ post ∧ c.1 = e ∧ l ∈ c.2
  | [], e, own', h => by simp [takeOwn] at h
  | c :: r, e, own', h => by
    simp only [takeOwn] at h
    split at h
    · rename_i hc
      simp at h
      exact ⟨[], c, r, rfl, h.2.symm, h.1, by simpa using hc⟩
    · simp only [Option.map_eq_some_iff] at h
      obtain ⟨⟨e', r'⟩, hr, he⟩ := h
      simp at he
      obtain ⟨pre, c', post, h1, h2, h3, h4⟩ := takeOwn_spec hr
      exact ⟨c :: pre, c', post, by simp [h1], by rw [← he.2, h2]; rfl, h3.trans he.1, h4⟩

/-- One class is given up: its slice. -/
theorem Rel.takeOwn (h : Rel P G base R μ st a w) {l : Loc} {e : TypeId} {own' : List (TypeId × List Loc)} (ht : Go.VM.takeOwn l st.own = some (e, own')) :
    Rel P G base R μ { st with own := own' } a w ∧ ∃ v vs, (∀ u, locVal a w μ l = some u → u = v) ∧ OwnSl P base R w e v ∧ (∀ k o, getKey k st.H = some o → spareBlk v ≠ some (μ k)) ∧ Owns P base R μ { st with own := own' } a w vs ∧ ∀ v' ∈ vs, Apart v v' ∧ Apart v' v := by
  obtain ⟨pre, c, post, h1, rfl, h3, h4⟩ := takeOwn_spec ht
  obtain ⟨vs, hvs⟩ := h.own
  have hpl : pre.length < vs.length := by rw [hvs.len, h1]; simp
  have hsplit : vs = vs.take pre.length ++ vs[pre.length] :: vs.drop (pre.length + 1) := by rw [← List.drop_eq_getElem_cons hpl, List.take_append_drop]
  have hc := hvs.one pre.length c vs[pre.length] (by rw [h1]; simp) (List.getElem?_eq_getElem hpl)
  have hap := hvs.apart
  rw [hsplit, List.pairwise_append, List.pairwise_cons] at hap
  have hO : Owns P base R μ { st with own := pre ++ post } a w (vs.take pre.length ++ vs.drop (pre.length + 1)) := by
    refine ⟨?_, fun i c' v hc' hv => ?_, ?_⟩
    · have := hvs.len
      rw [h1] at this
      simp at this ⊢; omega
    · by_cases hi : i < pre.length
      · refine (fun q => ⟨q.locs, q.own, q.keys⟩ : OwnOne P base R μ st a w c' v → _) (hvs.one i c' v ?_ ?_)
        · rw [h1, List.getElem?_append_left hi]; simpa [List.getElem?_append_left hi] using hc'
        · rw [List.getElem?_append_left (by simp; omega), List.getElem?_take] at hv
          rw [if_pos hi] at hv; exact hv
      · refine (fun q => ⟨q.locs, q.own, q.keys⟩ : OwnOne P base R μ st a w c' v → _) (hvs.one (i + 1) c' v ?_ ?_)
        · rw [h1, List.getElem?_append_right (by omega), show i + 1 - pre.length = (i - pre.length) + 1 by omega, List.getElem?_cons_succ]
          simpa [List.getElem?_append_right (Nat.le_of_not_lt hi)] using hc'
        · have hmin : min pre.length vs.length = pre.length := by omega
          rw [List.getElem?_append_right (by simp; omega), List.getElem?_drop] at hv
          simp only [List.length_take, hmin] at hv
          rwa [show pre.length + 1 + (i - pre.length) = i + 1 by omega] at hv
    · rw [List.pairwise_append]
      exact ⟨hap.1, hap.2.1.2, fun x hx y hy => hap.2.2 x hx y (.tail _ hy)⟩
  refine ⟨⟨h.defers, h.size, h.tmps, h.objs, h.inj, fun c' hc' k off hl => h.locs c' (by rw [h1]; simp at hc' ⊢; rcases hc' with q | q <;> simp [q]) k off hl, ⟨_, hO⟩, h.glob, h.rset, h.base⟩, vs[pre.length], _, fun u hu => hc.locs l h4 u hu, by rw [← h3]; exact hc.own, hc.keys, hO, fun v' hv' => ?_⟩
  simp only [List.mem_append] at hv'
  rcases hv' with hv' | hv'
  · have := hap.2.2 v' hv' vs[pre.length] (.head _)
    exact ⟨fun g hg hg' => this g hg' hg, this⟩
  · have := hap.2.1.1 v' hv'
    exact ⟨this, fun g hg hg' => this g hg' hg⟩

/-- One of our rows is written behind what is read of it. -/
theorem Rel.growRow (h : Rel P G base R μ st a w) {g n m s : Nat} {e : TypeId} {cur cur' : Array Value} (hgk : ∀ k o, getKey k st.H = some o → μ k ≠ g) {vs : List Value} (hvs : Owns P base R μ st a w vs) (hgv : ∀ v ∈ vs, spareBlk v ≠ some g) (hb : base ≤ g)
    (hg : w.heap[g]? = some (.cells cur e (0, 0))) (hR : ∀ off, n * s ≤ off → ¬ R g off) (hcur : ∀ off, off < n * s → cur'[off]? = cur[off]?) :
    Rel P G base (fun b o => R b o ∨ (b = g ∧ o < (n + m) * s)) μ st a (w.setRow g cur') ∧ Step base R w (fun b o => R b o ∨ (b = g ∧ o < (n + m) * s)) (w.setRow g cur') ∧
    Owns P base (fun b o => R b o ∨ (b = g ∧ o < (n + m) * s)) μ st a (w.setRow g cur') vs := by
  have hother : ∀ j, j ≠ g → (w.setRow g cur').heap[j]? = w.heap[j]? := fun j hj => setRow_other w g j _ hj
  have hnew : (w.setRow g cur').heap[g]? = some (.cells cur' e (0, 0)) := setRow_heap w g cur _ e _ hg
  have hglt : g < w.heap.size := (Array.getElem?_eq_some_iff.1 hg).1
  have hst : Step base R w (fun b o => R b o ∨ (b = g ∧ o < (n + m) * s)) (w.setRow g cur') :=
    ⟨⟨rfl, rfl, rfl, by simp [World.setRow], fun k hk => hother k (by omega)⟩, fun _ _ h => .inl h, fun b o hr hn => by
      rcases hr with hr | ⟨rfl, _⟩
      · exact absurd hr hn
      · exact hb, fun b o hr => by
      by_cases hbg : b = g
      · subst hbg
        have hlt : o < n * s := Nat.lt_of_not_le fun hle => hR o hle hr
        rw [cell_of_row _ _ _ cur' e (0, 0) hnew, cell_of_row _ _ _ cur e (0, 0) hg, hcur o hlt]
      · exact World.cell?_of_block (hother b hbg)⟩
  have hO : Owns P base (fun b o => R b o ∨ (b = g ∧ o < (n + m) * s)) μ st a (w.setRow g cur') vs := by
    refine ⟨hvs.len, fun i c v hc hv => ?_, hvs.apart⟩
    have ho := hvs.one i c v hc hv
    have hne := hgv v (List.mem_of_getElem? hv)
    refine ⟨fun l hl u hu => ho.locs l hl u ?_, ho.own.keep1 (fun g' hg' => hother g' (by rintro rfl; exact hne hg')) (fun g' off hg' hr => ?_), ho.keys⟩
    · cases l with
      | t i => exact hu
      | c k off =>
        obtain ⟨o, hk⟩ := h.locs c (List.mem_of_getElem? hc) k off hl
        rw [← hu]
        exact (World.cell?_of_block (hother _ (hgk k o hk))).symm
    · rcases hr with hr | ⟨rfl, _⟩
      · exact hr
      · exact absurd hg' hne
  refine ⟨⟨h.defers, h.size, fun i v d hv hd => (h.tmps i v d hv hd).of_step hst, fun k o hk => ?_, h.inj, h.locs, ⟨vs, hO⟩, h.glob.of_step hst, fun b o hr => ?_, by have := h.base; simpa [World.setRow] using this⟩, hst, hO⟩
  · obtain ⟨q1, q2, q3⟩ := h.objs k o hk
    refine ⟨q1, fun off hr => ?_, q3.of_step hst (hother _ (hgk k o hk))⟩
    rcases hr with hr | ⟨he, _⟩
    · exact q2 off hr
    · exact hgk k o hk he
  · have : b < w.heap.size := by
      rcases hr with hr | ⟨rfl, _⟩
      · exact h.rset b o hr
      · exact hglt
    simpa [World.setRow] using this

theorem run_append_none {t e ty : TypeId} {i : TypeInfo} (hu : P.underlying t = some (.slice e)) (hi : P.info? e = some i) (base : Option Addr) (n cap : Nat) (hn : n ≤ cap) (ao : Option Addr) (c : Nat) :
    (Builtin.append_ #[t, t] ty #[.slice base n cap, .slice ao 0 c]).run P w = .ok (.slice base n cap) w := by
  cases base <;> cases ao <;> simp [Builtin.append_, run_underlying hu, sizeOf, typeInfo, hi, Builtin.lenOf, hn, Builtin.firstCells, loadCells, loadCellsFrom, storeCells]

/-- A new row that holds the old elements and the new ones. -/
theorem append_new (hr : Rel P G base R μ st a w) {e : TypeId} {z : Value} (hs : 0 < P.cellsOf e) (hzs : z.cells.size = P.cellsOf e) {xs ys : List (List D)} {olds news : List Value} (old : Nat) (hb : xs.length + ys.length ≤ maxLen)
    (hlx : ∀ c ∈ xs, c.length = P.cellsOf e) (hly : ∀ c ∈ ys, c.length = P.cellsOf e) (hlo : olds.length = xs.length * P.cellsOf e) (hln : news.length = ys.length * P.cellsOf e)
    (ho : ∀ (i j : Nat) (c : List D) (d : D), xs[i]? = some c → c[j]? = some d → d.one = true ∧ ∃ v, olds[i * P.cellsOf e + j]? = some v ∧ V R w v d)
    (hn : ∀ (i j : Nat) (c : List D) (d : D), ys[i]? = some c → c[j]? = some d → d.one = true ∧ ∃ v, news[i * P.cellsOf e + j]? = some v ∧ V R w v d) (cs : Array Value)
    (hcs : cs = olds.toArray ++ news.toArray ++ Builtin.zeroCells z.cells (grownCap w (xs.length + ys.length) old e - (xs.length + ys.length))) :
    ∃ R', Rel P G base R' μ st a (w.drew.alloc (.cells cs e)) ∧ Step base R w R' (w.drew.alloc (.cells cs e)) ∧
      V R' (w.drew.alloc (.cells cs e)) (.slice (some ⟨w.heap.size, 0, none⟩) (xs.length + ys.length) (grownCap w (xs.length + ys.length) old e)) (.sl (xs ++ ys)) ∧
      ActOk P base R' μ st a (w.drew.alloc (.cells cs e)) (.slice (some ⟨w.heap.size, 0, none⟩) (xs.length + ys.length) (grownCap w (xs.length + ys.length) old e)) (.fresh e) := by
  have hge := grownCap_ge w (xs.length + ys.length) old e
  have hmax := grownCap_le_maxLen w (xs.length + ys.length) old e hb
  have hsz : cs.size = grownCap w (xs.length + ys.length) old e * P.cellsOf e := by
    rw [hcs]
    simp only [Array.size_append, List.size_toArray, size_zeroCells, hzs, hlo, hln, ← Nat.add_mul]
    congr 1; omega
  have := hr.newRow (w1 := w.drew) (.inr rfl) (e := e) (cs := cs) (es := xs ++ ys) (n := xs.length + ys.length) hsz hs (by simp) hge hmax
    (fun c hc => by simp at hc; rcases hc with hc | hc; exact hlx c hc; exact hly c hc) (fun i j c d hi hj => by
      by_cases hil : i < xs.length
      · rw [List.getElem?_append_left hil] at hi
        obtain ⟨h1, v, h2, h3⟩ := ho i j c d hi hj
        refine ⟨h1, v, ?_, h3⟩
        have hlt := (List.getElem?_eq_some_iff.1 h2).1
        rw [hcs, Array.getElem?_append, if_pos (by simp; omega), Array.getElem?_append, if_pos (by simpa using hlt)]
        simpa using h2
      · rw [List.getElem?_append_right (by omega)] at hi
        obtain ⟨h1, v, h2, h3⟩ := hn (i - xs.length) j c d hi hj
        refine ⟨h1, v, ?_, h3⟩
        have hlt := (List.getElem?_eq_some_iff.1 h2).1
        have hidx : i * P.cellsOf e + j = olds.length + ((i - xs.length) * P.cellsOf e + j) := by
          rw [hlo, ← Nat.add_assoc, ← Nat.add_mul]; congr 2; omega
        rw [hcs, hidx, Array.getElem?_append, if_pos (by simp; omega), Array.getElem?_append, if_neg (by simp)]
        simpa using h2)
  exact ⟨_, this⟩

theorem vAppend_ok {o : Oper} {t t' : TypeId} {s x : Operand} (ho : o.op = .call { callee := .builtin .append, args := #[s, x], argTypes := #[t, t'] }) (h : vAppend P G t t' s x st = some out) : OpOk P G o st out := by
  unfold vAppend at h
  split at h
  case h_2 => cases h
  rename_i e ys he hys
  split at h
  case isFalse => cases h
  rename_i hc
  obtain ⟨rfl, hok, hall⟩ := hc
  obtain ⟨ti, z, hi, hsize, hbytes, hpos, hz, hzs⟩ := elemOk_spec hok
  have hu := elemOfD_spec he
  have hly : ∀ c ∈ ys, c.length = P.cellsOf e := fun c hc => by simpa using List.all_eq_true.1 hall c hc
  have hexec : ∀ (a : Act) (w : World) (v : Value) (w' : World), (Builtin.append_ #[t, t] o.type #[a.eval s, a.eval x]).run P w = .ok v w' → (execOp a.eval o).run P w = .ok (.value v) w' := fun a w v w' hr => by
    simp [execOp, ho, resolve, invoke, builtin, hr]
  -- the new elements' cells, where there are any
  have hnews : ∀ {base : Nat} {R : Nat → Nat → Prop} {μ : Nat → Nat} {a : Act} {w : World}, Rel P G base R μ st a w → ys ≠ [] → ∃ (ad : Addr) (cap : Nat) (news : List Value), a.eval x = .slice (some ad) ys.length cap ∧ news.length = ys.length * P.cellsOf e ∧
      (∀ (j : Nat) (u : Value), news[j]? = some u → w.cell? (ad.add j) = some u) ∧ (∀ u ∈ news, u.oneCell' = true) ∧ ∀ (i j : Nat) (c : List D) (d : D), ys[i]? = some c → c[j]? = some d → d.one = true ∧ ∃ v, news[i * P.cellsOf e + j]? = some v ∧ V R w v d := fun hr hne => by
    obtain ⟨ao, cap, h1, h2⟩ := asSl_spec hr hys
    obtain ⟨b, off, size, rfl, q1, q2, q3⟩ := h2 hne
    have hsz : size = P.cellsOf e := by
      cases ys with
      | nil => exact absurd rfl hne
      | cons c l => rw [← q2 c (.head _), hly c (.head _)]
    subst hsz
    obtain ⟨news, n1, n2, n3, n4⟩ := rowCells q2 q3
    exact ⟨_, cap, news, h1, n1, n2, n3, n4⟩
  -- nothing held before
  have hnil : ∀ (st' : St) (own' : List (TypeId × List Loc)), st' = { st with own := own' } → ys.length * (P.bytesOf e + 1) ≤ 140737488355328 → ∀ {base : Nat} {R : Nat → Nat → Prop} {μ : Nat → Nat} {a : Act} {w : World}, Rel P G base R μ st a w → Rel P G base R μ st' a w → (∃ ao, a.eval s = .slice ao 0 0) →
      ∃ v w' R' μ', ((execOp a.eval o).run P w = .ok (.value v) w' ∨ ((execOp a.eval o).run P w = .ok .skip w' ∧ v = Go.undef)) ∧ Rel P G base R' μ' st' a w' ∧ TV R' μ' w' v (.d (.sl ys)) ∧ ActOk P base R' μ' st' a w' v (.fresh e) ∧ Step base R w R' w' := by
    intro st' own' hst' hbd base R μ a w hr hr' ⟨ao, hs⟩
    by_cases hne : ys = []
    · subst hne
      obtain ⟨ax, cap, h1, _⟩ := asSl_spec hr hys
      obtain ⟨vs, hvs⟩ := hr'.own
      refine ⟨.slice ao 0 0, w, R, μ, .inl (hexec a w _ w ?_), hr', .d _ _ (.emp _ _), ⟨.inl ⟨ao, rfl⟩, fun k o _ => by cases ao <;> simp [spareBlk], vs, hvs, fun v' _ => ⟨fun g hg => by cases ao <;> simp [spareBlk] at hg, fun g _ hg => by cases ao <;> simp [spareBlk] at hg⟩⟩, .refl _ _ _⟩
      rw [hs, h1]
      exact run_append_none hu hi ao 0 0 (Nat.le_refl _) ax cap
    · obtain ⟨ad, cap, news, h1, h2, h3, h4, h5⟩ := hnews hr hne
      have hlen : 0 < ys.length := by cases ys with | nil => exact absurd rfl hne | cons _ _ => simp
      have hb1 : ys.length ≤ 140737488355328 := by rw [Nat.mul_add] at hbd; omega
      have hb2 : ys.length * P.bytesOf e ≤ 140737488355328 := by rw [Nat.mul_add] at hbd; omega
      obtain ⟨R', n1, n2, n3, n4⟩ := append_new hr' (e := e) (z := z) hpos hzs (xs := []) (ys := ys) (olds := []) (news := news) 0 (by unfold maxLen; simp; omega) (by simp) hly (by simp) h2 (by simp) h5 _ rfl
      simp only [List.length_nil, Nat.zero_add, List.nil_append] at n1 n2 n3 n4
      refine ⟨_, _, R', μ, .inl (hexec a w _ _ ?_), n1, .d _ _ n3, n4, n2⟩
      rw [hs, h1]
      cases ao with
      | none =>
        have := run_append_nil (P := P) w t o.type e ti z hu hi hz ad ys.length cap news (by rw [h2, hsize]) h3 hlen (by omega) (by rw [hbytes]; omega)
        simpa using this
      | some b0 =>
        have := run_append_grow (P := P) w t o.type e ti z hu hi hz b0 0 0 [] (by simp) (by simp) ad ys.length cap news (by rw [h2, hsize]) h3 (by omega) (by omega) (by rw [hbytes]; exact growslice_fits (by omega) (by rw [Nat.zero_add]; exact hb2))
        simpa using this
  split at h
  · rename_i hsn
    split at h
    case isFalse => cases h
    rename_i hbd
    simp only [Option.some.injEq] at h; subst h
    intro base R μ a w hr
    exact hnil st st.own rfl hbd hr hr ((hr.evalD hsn).nils_inv)
  · rename_i xs i hsx
    split at h
    case h_2 => cases h
    rename_i e' own' htk
    split at h
    case isFalse => cases h
    rename_i hc
    obtain ⟨rfl, hallx, hbd⟩ := hc
    simp only [Option.some.injEq] at h; subst h
    intro base R μ a w hr
    obtain ⟨hr', v0, vs, hv0, hown, hkeys, hvs, hap⟩ := hr.takeOwn htk
    have hsv : a.eval (.tmp i) = v0 := by
      refine hv0 _ ?_
      show a.tmps[i]? = some (a.tmps.getD i undef)
      by_cases hs : i < a.tmps.size
      · simp [hs]
      · have h3 : ¬ i < st.tmps.length := by rw [← hr.size]; exact hs
        simp [St.eval, List.getD, List.getElem?_eq_none (Nat.le_of_not_lt h3)] at hsx
    have hV := hr.evalD hsx
    have hlx : ∀ c ∈ xs, c.length = P.cellsOf e' := fun c hc => by simpa using List.all_eq_true.1 hallx c hc
    rcases hown with ⟨ao, rfl⟩ | ⟨g, n, cap, cur, rfl, hbg, hg, hnc, hcm, hcs, hnR⟩
    · have hx0 : xs = [] := by
        obtain ⟨ao', cap', h1, _⟩ := hV.sl_inv
        rw [hsv] at h1
        exact List.eq_nil_of_length_eq_zero (Value.slice.inj h1).2.1.symm
      subst hx0
      simp only [List.length_nil, Nat.zero_add] at hbd
      simpa using hnil { st with own := own' } own' rfl hbd hr hr' ⟨ao, hsv⟩
    · obtain ⟨ao', cap', h1, _, hrunx⟩ := hV.sl_inv
      rw [hsv] at h1
      cases h1
      -- the old elements' cells
      have holds : ∃ olds : List Value, olds.length = xs.length * P.cellsOf e' ∧ (∀ (j : Nat) (u : Value), olds[j]? = some u → w.cell? ((⟨g, 0, none⟩ : Addr).add j) = some u) ∧
          ∀ (i j : Nat) (c : List D) (d : D), xs[i]? = some c → c[j]? = some d → d.one = true ∧ ∃ v, olds[i * P.cellsOf e' + j]? = some v ∧ V R w v d := by
        by_cases hx0 : xs = []
        · subst hx0; exact ⟨[], by simp, by simp, by simp⟩
        · obtain ⟨b, o', size, hba, q1, q2, q3⟩ := hrunx hx0
          cases hba
          have hsz : size = P.cellsOf e' := by
            cases xs with
            | nil => exact absurd rfl hx0
            | cons c l => rw [← q2 c (.head _), hlx c (.head _)]
          subst hsz
          obtain ⟨olds, n1, n2, _, n4⟩ := rowCells q2 q3
          exact ⟨olds, n1, n2, n4⟩
      obtain ⟨olds, o1, o2, o3⟩ := holds
      have hb1 : xs.length + ys.length ≤ 140737488355328 := by rw [Nat.mul_add] at hbd; omega
      have hb2 : (xs.length + ys.length) * P.bytesOf e' ≤ 140737488355328 := by rw [Nat.mul_add] at hbd; omega
      by_cases hne : ys = []
      · subst hne
        obtain ⟨ax, capx, h1, _⟩ := asSl_spec hr hys
        refine ⟨.slice (some ⟨g, 0, none⟩) xs.length cap, w, R, μ, .inl (hexec a w _ w ?_), hr', .d _ _ ?_, ⟨.inr ⟨g, _, cap, cur, rfl, hbg, hg, hnc, hcm, hcs, hnR⟩, hkeys, vs, hvs, hap⟩, .refl _ _ _⟩
        · rw [hsv, h1]
          exact run_append_none hu hi _ _ cap hnc ax capx
        · rw [List.append_nil, ← hsv]; exact hV
      · obtain ⟨ad, capx, news, h1, h2, h3, h4, h5⟩ := hnews hr hne
        have hlen : 0 < ys.length := by cases ys with | nil => exact absurd rfl hne | cons _ _ => simp
        by_cases hroom : xs.length + ys.length ≤ cap
        · have hmul : (xs.length + ys.length) * P.cellsOf e' ≤ cap * P.cellsOf e' := Nat.mul_le_mul_right _ hroom
          have hfit : xs.length * P.cellsOf e' + news.length ≤ cur.size := by rw [h2, hcs, ← Nat.add_mul]; exact hmul
          have hrun := run_append_room (P := P) w t o.type e' ti hu hi g xs.length cap cur hg ad ys.length capx news (by rw [h2, hsize]) h3 h4 hroom (by rw [hsize]; exact hfit)
          rw [hsize] at hrun
          generalize hcur' : (cur.toList.take (xs.length * P.cellsOf e') ++ news ++ cur.toList.drop (xs.length * P.cellsOf e' + news.length)).toArray = cur' at hrun
          have hget : ∀ k, cur'[k]? = if k < xs.length * P.cellsOf e' then cur[k]? else if k < xs.length * P.cellsOf e' + news.length then news[k - xs.length * P.cellsOf e']? else cur[k]? := fun k => by
            rw [← hcur', List.getElem?_toArray, splice_get _ _ _ (by simpa using hfit)]
            simp
          have hspg : spareBlk (.slice (some ⟨g, 0, none⟩) xs.length cap) = some g := by simp [spareBlk]; omega
          obtain ⟨q1, q2, q3⟩ := hr'.growRow (g := g) (n := xs.length) (m := ys.length) (s := P.cellsOf e') (cur' := cur') (fun k o' hk he => hkeys k o' hk (by rw [hspg, he])) hvs (fun v' hv' hsp => (hap v' hv').1 g hspg hsp) hbg hg hnR (fun off hoff => by rw [hget, if_pos hoff])
          have hnew : (w.setRow g cur').heap[g]? = some (.cells cur' e' (0, 0)) := setRow_heap w g cur _ e' _ hg
          have hcsz : cur'.size = cap * P.cellsOf e' := by
            rw [← hcur', ← hcs]
            simp only [List.size_toArray, List.length_append, List.length_take, List.length_drop, Array.length_toList]
            omega
          refine ⟨.slice (some ⟨g, 0, none⟩) (xs.length + ys.length) cap, _, _, μ, .inl (hexec a w _ _ (by rw [hsv, h1]; exact hrun)), q1, .d _ _ ?_, ?_, q2⟩
          · have hcell : ∀ (i j : Nat) (c : List D) (d : D), (xs ++ ys)[i]? = some c → c[j]? = some d → d.one = true ∧ ∃ v, (w.setRow g cur').cell? ⟨g, 0 + i * P.cellsOf e' + j, none⟩ = some v ∧ V R w v d := fun i j c d hi' hj => by
              rw [Nat.zero_add, cell_of_row _ _ _ cur' e' (0, 0) hnew, hget]
              by_cases hil : i < xs.length
              · rw [List.getElem?_append_left hil] at hi'
                obtain ⟨w1, v, w2, w3⟩ := o3 i j c d hi' hj
                have hlt := (List.getElem?_eq_some_iff.1 w2).1
                have hcellv := o2 _ v w2
                rw [add_none, Nat.zero_add, cell_of_row _ _ _ cur e' (0, 0) hg] at hcellv
                rw [if_pos (by omega)]
                exact ⟨w1, v, hcellv, w3⟩
              · rw [List.getElem?_append_right (by omega)] at hi'
                obtain ⟨w1, v, w2, w3⟩ := h5 (i - xs.length) j c d hi' hj
                have hlt := (List.getElem?_eq_some_iff.1 w2).1
                have hidx : i * P.cellsOf e' + j = xs.length * P.cellsOf e' + ((i - xs.length) * P.cellsOf e' + j) := by
                  rw [← Nat.add_assoc, ← Nat.add_mul]; congr 2; omega
                rw [hidx, if_neg (by omega), if_pos (by omega), Nat.add_sub_cancel_left]
                exact ⟨w1, v, w2, w3⟩
            refine .sl g 0 _ cap (P.cellsOf e') _ (fun i j => ((w.setRow g cur').cell? ⟨g, 0 + i * P.cellsOf e' + j, none⟩).getD undef) (by simp) hroom hpos (fun c hc => by simp at hc; rcases hc with hc | hc; exact hlx c hc; exact hly c hc) (fun i j hi' hj => ⟨.inr ⟨rfl, ?_⟩, ?_⟩) (fun i j c d hi' hj => (hcell i j c d hi' hj).1) (fun i j c d hi' hj => ?_)
            · have : (i + 1) * P.cellsOf e' ≤ (xs.length + ys.length) * P.cellsOf e' := Nat.mul_le_mul_right _ (by omega)
              rw [Nat.add_mul] at this; omega
            · have hil : i < (xs ++ ys).length := by simp; omega
              have hei := List.getElem?_eq_getElem hil
              have hjl : j < ((xs ++ ys)[i]).length := by
                have hm : (xs ++ ys)[i] ∈ xs ++ ys := List.getElem_mem hil
                rw [List.mem_append] at hm
                rcases hm with hm | hm
                · rw [hlx _ hm]; exact hj
                · rw [hly _ hm]; exact hj
              obtain ⟨_, v, hv, _⟩ := hcell i j _ _ hei (List.getElem?_eq_getElem hjl)
              rw [hv]; rfl
            · obtain ⟨_, v, hv, hvd⟩ := hcell i j c d hi' hj
              rw [hv]; exact hvd.of_step q2
          · refine ⟨.inr ⟨g, _, cap, cur', rfl, hbg, hnew, hroom, hcm, hcsz, fun off hoff hR => ?_⟩, fun k o' hk => by have := hkeys k o' hk; rw [hspg] at this; simpa [spareBlk, show cap ≠ 0 by omega] using this, vs, q3, fun v' hv' => ?_⟩
            · rcases hR with hR | ⟨_, hR⟩
              · have : xs.length * P.cellsOf e' ≤ (xs.length + ys.length) * P.cellsOf e' := Nat.mul_le_mul_right _ (by omega)
                exact hnR off (by omega) hR
              · omega
            · have hsp2 : spareBlk (.slice (some ⟨g, 0, none⟩) (xs.length + ys.length) cap) = some g := by simp [spareBlk]; omega
              exact ⟨fun g' hg' hg'' => (hap v' hv').1 g' (by rw [hspg, ← hsp2]; exact hg') hg'', fun g' hg' hg'' => (hap v' hv').2 g' hg' (by rw [hspg, ← hsp2]; exact hg'')⟩
        · obtain ⟨R', n1, n2, n3, n4⟩ := append_new hr' (e := e') (z := z) hpos hzs (xs := xs) (ys := ys) (olds := olds) (news := news) cap (by unfold maxLen; omega) hlx hly o1 h2 o3 h5 _ rfl
          refine ⟨_, _, R', μ, .inl (hexec a w _ _ ?_), n1, .d _ _ n3, n4, n2⟩
          rw [hsv, h1]
          exact run_append_grow (P := P) w t o.type e' ti z hu hi hz ⟨g, 0, none⟩ xs.length cap olds (by rw [o1, hsize]) o2 ad ys.length capx news (by rw [h2, hsize]) h3 (by omega) (by omega) (by rw [hbytes]; exact growslice_fits (by omega) hb2)
  · cases h
end
end Go.VM
