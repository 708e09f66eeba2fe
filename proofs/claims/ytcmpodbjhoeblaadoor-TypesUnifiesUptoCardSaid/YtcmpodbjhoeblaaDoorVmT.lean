/- The abstract machine: a zero element is appended, and then written. No condition. -/
import Derived.Test.YtcmpodbjhoeblaaDoorVmS
set_option linter.unusedVariables false
set_option linter.unusedSimpArgs false
set_option linter.unusedSectionVars false
namespace Go.VM
open Go Go.RowKit
/-- Cells written over others, from a place on. -/
def spl (cur : Array Value) (off : Nat) (l : List Value) : Array Value := (cur.toList.take off ++ l ++ cur.toList.drop (off + l.length)).toArray
theorem spl_get {cur : Array Value} {off : Nat} {l : List Value} (h : off + l.length ≤ cur.size) (k : Nat) : (spl cur off l)[k]? = if k < off then cur[k]? else if k < off + l.length then l[k - off]? else cur[k]? := by
  unfold spl
  rw [List.getElem?_toArray, splice_get _ _ _ (by simpa using h)]
  simp
theorem spl_size {cur : Array Value} {off : Nat} {l : List Value} (h : off + l.length ≤ cur.size) : (spl cur off l).size = cur.size := by
  unfold spl
  simp only [List.size_toArray, List.length_append, List.length_take, List.length_drop, Array.length_toList]
  omega
theorem spl_spl {cur : Array Value} {off : Nat} {l l' : List Value} (h : off + l.length ≤ cur.size) (hl : l'.length = l.length) : spl (spl cur off l) off l' = spl cur off l' := by
  apply Array.ext_getElem?
  intro k
  have h1 := spl_size h
  rw [spl_get (by rw [h1]; omega), spl_get h, spl_get (by omega)]
  rw [hl]
  split
  · rfl
  · split
    · rfl
    · rfl
theorem spl_mid (a b c : List Value) (b' : List Value) (h : b'.length = b.length) : spl (a.toArray ++ b.toArray ++ c.toArray) a.length b' = a.toArray ++ b'.toArray ++ c.toArray := by
  unfold spl
  rw [h]
  simp
theorem setRow_setRow (w : World) (g : Nat) (a b : Array Value) : (w.setRow g a).setRow g b = w.setRow g b := by
  unfold World.setRow
  cases w with
  | mk heap tape drawn os output =>
    simp only
    congr 1
    apply Array.ext
    · simp
    · intro k h1 h2
      simp only [Array.getElem_modify]
      by_cases hk : g = k
      · simp only [hk, if_true]
        generalize heap[k]'(by simpa using h1) = o
        cases o <;> rfl
      · simp [hk]
theorem setRow_comm (w : World) {g b : Nat} (hne : g ≠ b) (x y : Array Value) : (w.setRow g x).setRow b y = (w.setRow b y).setRow g x := by
  unfold World.setRow
  cases w with
  | mk heap tape drawn os output =>
    simp only
    congr 1
    apply Array.ext
    · simp
    · intro k h1 h2
      simp only [Array.getElem_modify]
      by_cases hk : g = k
      · subst hk
        simp [Ne.symm hne]
      · by_cases hb : b = k
        · subst hb
          simp [hk]
        · simp [hk, hb]
section
variable {P : Program} {G : GT} {st : St}
theorem run_store_at {a : Act} {w : World} {o : Oper} {t : TypeId} {ad x : Operand} (ho : o.op = .store t ad x) {b off : Nat} {cur : Array Value} {T : TypeId} (had : a.eval ad = .pointer (some ⟨b, off, none⟩)) (hh : w.heap[b]? = some (.cells cur T (0, 0)))
    (hsz : (a.eval x).cells.size = P.cellsOf t) (hne : P.cellsOf t ≠ 0) (hone : ∀ u ∈ (a.eval x).cells.toList, u.oneCell' = true) (hfit : off + (a.eval x).cells.size ≤ cur.size) :
    (execOp a.eval o).run P w = .ok .skip (w.setRow b (spl cur off (a.eval x).cells.toList)) := by
  have hst := run_storeCells_at P b off T (a.eval x).cells.toList 0 cur w hh (by simpa using hfit) hone
  simp only [Nat.add_zero] at hst
  have hnn : ¬ ((a.eval x).cells.size ≠ P.cellsOf t) := by rw [hsz]; simp
  unfold spl
  simp only [execOp, ho, Sem.run_bind, had, Instr.storeAt, Instr.sureAddr, storeVar, Sem.run_pure, Result.andThen_ok, info_ok (info_of_cells hne) w, if_neg hnn, hst]
theorem run_indexAddr_at {a : Act} {w : World} {o : Oper} {t e : TypeId} {x i : Operand} (ho : o.op = .indexAddr t x i) (hu : P.underlying t = some (.slice e)) {b n cap k : Nat} {kd : IntKind} (hx : a.eval x = .slice (some ⟨b, 0, none⟩) n cap) (hi : a.eval i = .int kd (k : Int)) (hk : k < n) (hs : 0 < P.cellsOf e) :
    (execOp a.eval o).run P w = .ok (.value (.pointer (some ⟨b, k * P.cellsOf e, none⟩))) w := by
  have hso := info_ok (info_of_cells (P := P) (t := e) (by omega)) w
  have hkn : ¬ (n ≤ k) := by omega
  simp [execOp, ho, hx, hi, Instr.indexAt, run_underlying hu, asIntOf, hk, hso, add_none]
/-- A ZERO ELEMENT IS APPENDED: the world, and what it comes to when other cells are written there. -/
theorem append_hole {base : Base} {R : Nat → Nat → Prop} {μ : Nat → Nat} {a : Act} {w : World} (hr : Rel P G base R μ st a w) {t ty e : TypeId} (hok : elemOk P e = true) (hu : P.underlying t = some (.slice e)) {i : Tmp} {x : Operand} {xs : List (List D)} {z0 : List D} {own' : List (TypeId × List Loc)}
    (hsx : st.eval G (.tmp i) = .d (.sl xs)) (htk : takeOwn (.t i) st.own = some (e, own')) (hlx : ∀ c ∈ xs, c.length = P.cellsOf e) (hx : st.eval G x = .d (.sl [z0])) (hz0 : z0.length = P.cellsOf e) (hbd : (xs.length + 1) * (P.bytesOf e + 1) ≤ 140737488355328) :
    ∃ g cap cur1 w1, (Builtin.append_ #[t, t] ty #[a.eval (.tmp i), a.eval x]).run P w = .ok (.slice (some ⟨g, 0, none⟩) (xs.length + 1) cap) w1 ∧ w1.heap[g]? = some (.cells cur1 e (0, 0)) ∧ xs.length * P.cellsOf e + P.cellsOf e ≤ cur1.size ∧
      (∀ k o, getKey k st.H = some o → μ k ≠ g ∧ w1.heap[μ k]? = w.heap[μ k]?) ∧
      ∀ (news : List Value) (c : List D), news.length = P.cellsOf e → c.length = P.cellsOf e → (∀ u ∈ news, u.oneCell' = true) → (∀ (j : Nat) (d : D), c[j]? = some d → d.one = true ∧ ∃ v, news[j]? = some v ∧ V R w v d) →
        ∃ R1, Rel P G base R1 μ { st with own := own' } a (w1.setRow g (spl cur1 (xs.length * P.cellsOf e) news)) ∧ V R1 (w1.setRow g (spl cur1 (xs.length * P.cellsOf e) news)) (.slice (some ⟨g, 0, none⟩) (xs.length + 1) cap) (.sl (xs ++ [c])) ∧
          ActOk P base R1 μ { st with own := own' } a (w1.setRow g (spl cur1 (xs.length * P.cellsOf e) news)) (.slice (some ⟨g, 0, none⟩) (xs.length + 1) cap) (.fresh e) ∧ Step base R w R1 (w1.setRow g (spl cur1 (xs.length * P.cellsOf e) news)) := by
  obtain ⟨ti, z, hi, hsize, hbytes, hpos, hz, hzs⟩ := elemOk_spec hok
  have hb1 : xs.length + 1 ≤ 140737488355328 := by rw [Nat.mul_add] at hbd; omega
  have hb2 : (xs.length + 1) * P.bytesOf e ≤ 140737488355328 := by rw [Nat.mul_add] at hbd; omega
  obtain ⟨ao2, capx, hv2, hrun2⟩ := asSl_spec (ys := [z0]) hr (by rw [hx]; rfl)
  obtain ⟨b2, off2, size2, rfl, q1, q2, q3⟩ := hrun2 (by simp)
  have hsz2 : size2 = P.cellsOf e := by rw [← q2 z0 (.head _), hz0]
  subst hsz2
  obtain ⟨n0, m1, m2, m3, m4⟩ := rowCells q2 q3
  simp only [List.length_singleton, Nat.one_mul] at m1 hv2
  obtain ⟨hr', v0, vs, hv0, hown, hkeys, hvs, hap⟩ := hr.takeOwn htk
  have hsv : a.eval (.tmp i) = v0 := by
    refine hv0 _ ?_
    show a.tmps[i]? = some (a.tmps.getD i undef)
    by_cases hs : i < a.tmps.size
    · simp [hs]
    · have h3 : ¬ i < st.tmps.length := by rw [← hr.size]; exact hs
      simp [St.eval, List.getD, List.getElem?_eq_none (Nat.le_of_not_lt h3)] at hsx
  have hV := hr.evalD hsx
  have hlt : ∀ k o, getKey k st.H = some o → μ k < w.heap.size := fun k o hk => (hr.objs k o hk).2.2.lt
  -- a new row
  have hnew : ∀ (olds : List Value) (old : Nat), olds.length = xs.length * P.cellsOf e → (∀ (i j : Nat) (c : List D) (d : D), xs[i]? = some c → c[j]? = some d → d.one = true ∧ ∃ v, olds[i * P.cellsOf e + j]? = some v ∧ V R w v d) →
      (Builtin.append_ #[t, t] ty #[a.eval (.tmp i), a.eval x]).run P w = .ok (.slice (some ⟨w.heap.size, 0, none⟩) (xs.length + 1) (grownCap w (xs.length + 1) old e)) (w.drew.alloc (.cells (olds.toArray ++ n0.toArray ++ Builtin.zeroCells z.cells (grownCap w (xs.length + 1) old e - (xs.length + 1))) e)) →
      ∃ g cap cur1 w1, (Builtin.append_ #[t, t] ty #[a.eval (.tmp i), a.eval x]).run P w = .ok (.slice (some ⟨g, 0, none⟩) (xs.length + 1) cap) w1 ∧ w1.heap[g]? = some (.cells cur1 e (0, 0)) ∧ xs.length * P.cellsOf e + P.cellsOf e ≤ cur1.size ∧
      (∀ k o, getKey k st.H = some o → μ k ≠ g ∧ w1.heap[μ k]? = w.heap[μ k]?) ∧
      ∀ (news : List Value) (c : List D), news.length = P.cellsOf e → c.length = P.cellsOf e → (∀ u ∈ news, u.oneCell' = true) → (∀ (j : Nat) (d : D), c[j]? = some d → d.one = true ∧ ∃ v, news[j]? = some v ∧ V R w v d) →
        ∃ R1, Rel P G base R1 μ { st with own := own' } a (w1.setRow g (spl cur1 (xs.length * P.cellsOf e) news)) ∧ V R1 (w1.setRow g (spl cur1 (xs.length * P.cellsOf e) news)) (.slice (some ⟨g, 0, none⟩) (xs.length + 1) cap) (.sl (xs ++ [c])) ∧
          ActOk P base R1 μ { st with own := own' } a (w1.setRow g (spl cur1 (xs.length * P.cellsOf e) news)) (.slice (some ⟨g, 0, none⟩) (xs.length + 1) cap) (.fresh e) ∧ Step base R w R1 (w1.setRow g (spl cur1 (xs.length * P.cellsOf e) news)) := by
    intro olds old ho1 ho2 hrun
    refine ⟨w.heap.size, _, _, _, hrun, heap_alloc_new w.drew _, ?_, fun k o hk => ⟨by have := hlt k o hk; omega, Below.heap_alloc w.drew _ _ (hlt k o hk)⟩, ?_⟩
    · simp only [Array.size_append, List.size_toArray, ho1, m1]
      omega
    · intro news c hn hc h1 hcn
      have hsp : spl (olds.toArray ++ n0.toArray ++ Builtin.zeroCells z.cells (grownCap w (xs.length + 1) old e - (xs.length + 1))) (xs.length * P.cellsOf e) news = olds.toArray ++ news.toArray ++ Builtin.zeroCells z.cells (grownCap w (xs.length + 1) old e - (xs.length + 1)) := by
        have := spl_mid olds n0 (Builtin.zeroCells z.cells (grownCap w (xs.length + 1) old e - (xs.length + 1))).toList news (by rw [hn, m1])
        rw [ho1] at this
        simpa using this
      rw [hsp]
      have hal := setRow_alloc w.drew (olds.toArray ++ n0.toArray ++ Builtin.zeroCells z.cells (grownCap w (xs.length + 1) old e - (xs.length + 1))) (olds.toArray ++ news.toArray ++ Builtin.zeroCells z.cells (grownCap w (xs.length + 1) old e - (xs.length + 1))) e
      have hhs : w.drew.heap.size = w.heap.size := rfl
      rw [hhs] at hal
      rw [hal]
      obtain ⟨R', n1, n2, n3, n4⟩ := append_new hr' (e := e) (z := z) hpos hzs (xs := xs) (ys := [c]) (olds := olds) (news := news) old (by unfold maxLen; simp; omega) hlx (by simpa using hc) ho1 (by simpa using hn) ho2 (fun i j c' d hi hj => by
        cases i with
        | zero =>
          simp at hi
          subst hi
          simpa using hcn j d hj
        | succ i => simp at hi) _ rfl
      exact ⟨R', n1, n3, n4, n2⟩
  have hnil : xs = [] → (∃ ao, v0 = .slice ao 0 0) → _ := fun hx0 ⟨ao, hao⟩ => hnew [] 0 (by rw [hx0]; simp) (by rw [hx0]; simp) (by
    rw [hsv, hao, hv2, hx0]
    cases ao with
    | none =>
      have := run_append_nil (P := P) w t ty e ti z hu hi hz ⟨b2, off2, none⟩ 1 capx n0 (by rw [m1, hsize, Nat.one_mul]) m2 (by omega) (by omega) (by rw [hbytes]; rw [hx0] at hb2; simp at hb2; omega)
      simpa using this
    | some b0 =>
      have := run_append_grow (P := P) w t ty e ti z hu hi hz b0 0 0 [] (by simp) (by simp) ⟨b2, off2, none⟩ 1 capx n0 (by rw [m1, hsize, Nat.one_mul]) m2 (by omega) (by omega) (by rw [hbytes]; rw [hx0] at hb2; exact growslice_fits (by omega) (by simpa using hb2))
      simpa using this)
  rcases hown with ⟨ao, rfl⟩ | ⟨g, n, cap, cur, rfl, hbg, hg, hnc, hcm, hcs, hnR⟩
  · have hx0 : xs = [] := by
      obtain ⟨ao', cap', h1, _⟩ := hV.sl_inv
      rw [hsv] at h1
      exact List.eq_nil_of_length_eq_zero (Value.slice.inj h1).2.1.symm
    exact hnil hx0 ⟨ao, rfl⟩
  · obtain ⟨ao', cap', h1, _, hrunx⟩ := hV.sl_inv
    rw [hsv] at h1
    cases h1
    have holds : ∃ olds : List Value, olds.length = xs.length * P.cellsOf e ∧ (∀ (j : Nat) (u : Value), olds[j]? = some u → w.cell? ((⟨g, 0, none⟩ : Addr).add j) = some u) ∧
        ∀ (i j : Nat) (c : List D) (d : D), xs[i]? = some c → c[j]? = some d → d.one = true ∧ ∃ v, olds[i * P.cellsOf e + j]? = some v ∧ V R w v d := by
      by_cases hx0 : xs = []
      · subst hx0; exact ⟨[], by simp, by simp, by simp⟩
      · obtain ⟨b, o', size, hba, q1, q2, q3⟩ := hrunx hx0
        cases hba
        have hsz : size = P.cellsOf e := by
          cases xs with
          | nil => exact absurd rfl hx0
          | cons c l => rw [← q2 c (.head _), hlx c (.head _)]
        subst hsz
        obtain ⟨olds, n1, n2, _, n4⟩ := rowCells q2 q3
        exact ⟨olds, n1, n2, n4⟩
    obtain ⟨olds, o1, o2, o3⟩ := holds
    by_cases hroom : xs.length + 1 ≤ cap
    · have hmul : (xs.length + 1) * P.cellsOf e ≤ cap * P.cellsOf e := Nat.mul_le_mul_right _ hroom
      have hfit0 : xs.length * P.cellsOf e + P.cellsOf e ≤ cur.size := by rw [hcs]; rw [Nat.add_mul, Nat.one_mul] at hmul; exact hmul
      have hfit : xs.length * P.cellsOf e + n0.length ≤ cur.size := by rw [m1]; exact hfit0
      have hrun := run_append_room (P := P) w t ty e ti hu hi g xs.length cap cur hg ⟨b2, off2, none⟩ 1 capx n0 (by rw [m1, hsize, Nat.one_mul]) m2 m3 hroom (by rw [hsize]; exact hfit)
      rw [hsize] at hrun
      have hrun2 : (Builtin.append_ #[t, t] ty #[a.eval (.tmp i), a.eval x]).run P w = .ok (.slice (some ⟨g, 0, none⟩) (xs.length + 1) cap) (w.setRow g (spl cur (xs.length * P.cellsOf e) n0)) := by
        rw [hsv, hv2]
        exact hrun
      have hspg : spareBlk (.slice (some ⟨g, 0, none⟩) xs.length cap) = some g := by simp [spareBlk]; omega
      have hgne : ∀ k o, getKey k st.H = some o → μ k ≠ g := fun k o hk he => hkeys k o hk (by rw [hspg, he])
      refine ⟨g, cap, _, _, hrun2, setRow_heap w g cur _ e _ hg, ?_, fun k o hk => ⟨hgne k o hk, setRow_other w g _ _ (hgne k o hk)⟩, ?_⟩
      · rw [spl_size hfit]; exact hfit0
      · intro news c hn hc h1n hcn
        have hnl : news.length = n0.length := by rw [hn, m1]
        rw [spl_spl hfit hnl, setRow_setRow]
        have hfitn : xs.length * P.cellsOf e + news.length ≤ cur.size := by rw [hnl]; exact hfit
        generalize hcur' : spl cur (xs.length * P.cellsOf e) news = cur'
        have hget : ∀ k, cur'[k]? = if k < xs.length * P.cellsOf e then cur[k]? else if k < xs.length * P.cellsOf e + news.length then news[k - xs.length * P.cellsOf e]? else cur[k]? := fun k => by
          rw [← hcur']; exact spl_get hfitn k
        obtain ⟨p1, p2, p3⟩ := hr'.growRow (g := g) (n := xs.length) (m := 1) (s := P.cellsOf e) (cur' := cur') (fun k o' hk he => hkeys k o' hk (by rw [hspg, he])) hvs (fun v' hv' hsp => (hap v' hv').1 g hspg hsp) hbg hg hnR (fun off hoff => by rw [hget, if_pos hoff])
        have hnewg : (w.setRow g cur').heap[g]? = some (.cells cur' e (0, 0)) := setRow_heap w g cur _ e _ hg
        have hcsz : cur'.size = cap * P.cellsOf e := by rw [← hcur', spl_size hfitn, hcs]
        refine ⟨_, p1, ?_, ?_, p2⟩
        · have hly : ∀ c' ∈ [c], c'.length = P.cellsOf e := by simpa using hc
          have hcell : ∀ (i j : Nat) (c' : List D) (d : D), (xs ++ [c])[i]? = some c' → c'[j]? = some d → d.one = true ∧ ∃ v, (w.setRow g cur').cell? ⟨g, 0 + i * P.cellsOf e + j, none⟩ = some v ∧ V R w v d := fun i j c' d hi' hj => by
            rw [Nat.zero_add, cell_of_row _ _ _ cur' e (0, 0) hnewg, hget]
            by_cases hil : i < xs.length
            · rw [List.getElem?_append_left hil] at hi'
              obtain ⟨w1, v, w2, w3⟩ := o3 i j c' d hi' hj
              have hlt := (List.getElem?_eq_some_iff.1 w2).1
              have hcellv := o2 _ v w2
              rw [add_none, Nat.zero_add, cell_of_row _ _ _ cur e (0, 0) hg] at hcellv
              rw [if_pos (by omega)]
              exact ⟨w1, v, hcellv, w3⟩
            · rw [List.getElem?_append_right (by omega)] at hi'
              have hi0 : i = xs.length := by
                have := (List.getElem?_eq_some_iff.1 hi').1
                simp at this
                omega
              subst hi0
              simp at hi'
              subst hi'
              obtain ⟨w1, v, w2, w3⟩ := hcn j d hj
              have hlt := (List.getElem?_eq_some_iff.1 w2).1
              rw [if_neg (by omega), if_pos (by omega), Nat.add_sub_cancel_left]
              exact ⟨w1, v, w2, w3⟩
          refine .sl g 0 _ cap (P.cellsOf e) _ (fun i j => ((w.setRow g cur').cell? ⟨g, 0 + i * P.cellsOf e + j, none⟩).getD undef) (by simp) hroom hpos (fun c' hc' => by simp at hc'; rcases hc' with hc' | hc'; exact hlx c' hc'; exact hly c' (by simpa using hc')) (fun i j hi' hj => ⟨.inr ⟨rfl, ?_⟩, ?_⟩) (fun i j c' d hi' hj => (hcell i j c' d hi' hj).1) (fun i j c' d hi' hj => ?_)
          · have : (i + 1) * P.cellsOf e ≤ (xs.length + 1) * P.cellsOf e := Nat.mul_le_mul_right _ (by omega)
            rw [Nat.add_mul] at this; omega
          · have hil : i < (xs ++ [c]).length := by simp; omega
            have hei := List.getElem?_eq_getElem hil
            have hjl : j < ((xs ++ [c])[i]).length := by
              have hm : (xs ++ [c])[i] ∈ xs ++ [c] := List.getElem_mem hil
              rw [List.mem_append] at hm
              rcases hm with hm | hm
              · rw [hlx _ hm]; exact hj
              · rw [hly _ hm]; exact hj
            obtain ⟨_, v, hv, _⟩ := hcell i j _ _ hei (List.getElem?_eq_getElem hjl)
            rw [hv]; rfl
          · obtain ⟨_, v, hv, hvd⟩ := hcell i j c' d hi' hj
            rw [hv]; exact hvd.of_step p2
        · refine ⟨.inr ⟨g, _, cap, cur', rfl, hbg, hnewg, hroom, hcm, hcsz, fun off hoff hR => ?_⟩, fun k o' hk => by have := hkeys k o' hk; rw [hspg] at this; simpa [spareBlk, show cap ≠ 0 by omega] using this, vs, p3, fun v' hv' => ?_⟩
          · rcases hR with hR | ⟨_, hR⟩
            · have : xs.length * P.cellsOf e ≤ (xs.length + 1) * P.cellsOf e := Nat.mul_le_mul_right _ (by omega)
              exact hnR off (by omega) hR
            · omega
          · have hsp2 : spareBlk (.slice (some ⟨g, 0, none⟩) (xs.length + 1) cap) = some g := by simp [spareBlk]; omega
            exact ⟨fun g' hg' hg'' => (hap v' hv').1 g' (by rw [hspg, ← hsp2]; exact hg') hg'', fun g' hg' hg'' => (hap v' hv').2 g' hg' (by rw [hspg, ← hsp2]; exact hg'')⟩
    · refine hnew olds cap o1 o3 ?_
      rw [hsv, hv2]
      exact run_append_grow (P := P) w t ty e ti z hu hi hz ⟨g, 0, none⟩ xs.length cap olds (by rw [o1, hsize]) o2 ⟨b2, off2, none⟩ 1 capx n0 (by rw [m1, hsize, Nat.one_mul]) m2 (by omega) (by omega) (by rw [hbytes]; exact growslice_fits (by omega) hb2)
/-- What the temporaries hold behind the two steps. -/
abbrev tl2 (s : St) (own' : List (TypeId × List Loc)) (e : TypeId) (r p : Tmp) (xs : List (List D)) (c : List D) : St := finish (finish { s with own := own' } (some r) (.d (.sl (xs ++ [c]))) (.fresh e)) (some p) .undef .no
theorem wpOp_run {ops : Array Oper} {Q : Exit → Act → World → Prop} {i : Nat} {K : Act → World → Prop} {a a' : Act} {w w' : World} {o : Oper} (ho : ops[i]? = some o) (hg : o.guard = none) {v : Value} (hrun : (execOp a.eval o).run P w = .ok (.value v) w' ∨ ((execOp a.eval o).run P w = .ok .skip w' ∧ v = Go.undef)) (ha : a.put o.dst v = a') (h : K a' w') : wpOp P ops Q i K a w := by
  unfold wpOp
  rw [ho]
  have hw : ∀ y, Region.wanted o y = true := fun y => by unfold Region.wanted; rw [hg]
  simp only [hw, if_true]
  left
  unfold Oper.wp
  rcases hrun with h1 | ⟨h1, rfl⟩
  · rw [h1]
    show K (a.put o.dst v) w'
    rw [ha]; exact h
  · rw [h1]
    show K (a.put o.dst Go.undef) w'
    rw [ha]; exact h
/-- THE LAST FOUR OPERATIONS of 'x = append(x, T{..})': a zero element is appended, its place is found, it is written; the slice is stored: in whatever order. -/
theorem wp_tail {ops : Array Oper} {i0 i1 i2 i3 : Nat} {L0 : Array Bool} {t e : TypeId} {s z r p q x b : Tmp} {y0 y1 y2 y3 : TypeId} {p0 p1 p2 p3 : String} {f0 f1 f2 f3 : Array Edge} {xs : List (List D)} {z0 c : List D} {own' : List (TypeId × List Loc)} {out : Out} {Q : St → Prop} {QQ : Exit → Act → World → Prop}
    (h0 : ops[i0]? = some ⟨some r, .call { callee := .builtin .append, args := #[.tmp s, .tmp z], argTypes := #[t, t] }, y0, p0, f0, none⟩)
    (h1 : ops[i1]? = some ⟨some p, .indexAddr t (.tmp r) (.tmp q), y1, p1, f1, none⟩)
    (h2 : ops[i2]? = some ⟨none, .store e (.tmp p) (.tmp x), y2, p2, f2, none⟩)
    (h3 : ops[i3]? = some ⟨none, .store t (.tmp b) (.tmp r), y3, p3, f3, none⟩)
    (r0 : Region.ready .any ops L0 = [i0]) (r1 : Region.ready .any ops (L0.setIfInBounds i0 true) = [i1, i3]) (r2 : Region.ready .any ops ((L0.setIfInBounds i0 true).setIfInBounds i1 true) = [i2, i3]) (r3 : Region.ready .any ops ((L0.setIfInBounds i0 true).setIfInBounds i3 true) = [i1])
    (r4 : Region.ready .any ops (((L0.setIfInBounds i0 true).setIfInBounds i1 true).setIfInBounds i2 true) = [i3]) (r5 : Region.ready .any ops (((L0.setIfInBounds i0 true).setIfInBounds i1 true).setIfInBounds i3 true) = [i2]) (r6 : Region.ready .any ops (((L0.setIfInBounds i0 true).setIfInBounds i3 true).setIfInBounds i1 true) = [i2])
    (r7 : Region.ready .any ops ((((L0.setIfInBounds i0 true).setIfInBounds i1 true).setIfInBounds i2 true).setIfInBounds i3 true) = []) (r8 : Region.ready .any ops ((((L0.setIfInBounds i0 true).setIfInBounds i1 true).setIfInBounds i3 true).setIfInBounds i2 true) = []) (r9 : Region.ready .any ops ((((L0.setIfInBounds i0 true).setIfInBounds i3 true).setIfInBounds i1 true).setIfInBounds i2 true) = [])
    (hok : elemOk P e = true) (hu : P.underlying t = some (.slice e)) (hne : (r ≠ q ∧ r ≠ x ∧ r ≠ p ∧ r ≠ b) ∧ p ≠ x ∧ p ≠ b)
    (hlt : r < st.tmps.length ∧ p < st.tmps.length)
    (hsx : st.eval G (.tmp s) = .d (.sl xs)) (htk : takeOwn (.t s) st.own = some (e, own')) (hlx : ∀ c ∈ xs, c.length = P.cellsOf e) (hx : st.eval G (.tmp z) = .d (.sl [z0])) (hz0 : z0.length = P.cellsOf e) (hbd : (xs.length + 1) * (P.bytesOf e + 1) ≤ 140737488355328)
    (hq : st.eval G (.tmp q) = .d (.int .i64 (xs.length : Int))) (hxv : st.eval G (.tmp x) = .d (.agg c)) (hc : c.length = P.cellsOf e)
    (hst : vStore P G t (.tmp b) (.tmp r) (tl2 st own' e r p xs c) = some out) (hQ : Q out.st)
    {base : Base} {R : Nat → Nat → Prop} {μ : Nat → Nat} {a : Act} {w : World} (hr : Rel P G base R μ st a w)
    (hk : ∀ s' a' w' R' μ', Q s' → Rel P G base R' μ' s' a' w' → Step base R w R' w' → QQ .normal a' w') : wpAny P .any ops QQ 4 L0 a w := by
  obtain ⟨⟨n1, n2, n3, n4⟩, n5, n6⟩ := hne
  obtain ⟨l1, l2⟩ := hlt
  have hsz := hr.size
  obtain ⟨_, _, _, _, _, hpos, _, _⟩ := elemOk_spec hok
  obtain ⟨g, cap, cur1, w1, e0, hg, hfit, hobj, hnews⟩ := append_hole (ty := y0) hr hok hu (x := .tmp z) hsx htk hlx hx hz0 hbd
  -- what is written
  obtain ⟨pc, hpc, hpc1, hpc2⟩ := (hr.evalD hxv).agg_inv
  have hone : ∀ u ∈ pc.toList, u.oneCell' = true := fun u hu => by
    obtain ⟨j, hj⟩ := List.getElem?_of_mem hu
    have hjl : j < c.length := by rw [← hpc1]; simpa using (List.getElem?_eq_some_iff.1 hj).1
    obtain ⟨k1, k2⟩ := hpc2 j c[j] (by simp [hjl])
    have : pc.getD j Go.undef = u := by
      have : pc[j]? = some u := by simpa using hj
      simp [Array.getD_eq_getD_getElem?, this]
    rw [this] at k2
    exact k2.oneCell k1
  obtain ⟨R1, hr1, hV1, hA1, hs1⟩ := hnews pc.toList c (by simpa [hpc1] using hc) hc hone (fun j d hj => by
    obtain ⟨k1, k2⟩ := hpc2 j d hj
    have hjl : j < pc.size := by rw [hpc1]; exact (List.getElem?_eq_some_iff.1 hj).1
    refine ⟨k1, pc[j], by simp [hjl], ?_⟩
    simpa [Array.getD_eq_getD_getElem?, hjl] using k2)
  generalize hvS : (Value.slice (some ⟨g, 0, none⟩) (xs.length + 1) cap) = vS at *
  generalize hcur2 : spl cur1 (xs.length * P.cellsOf e) pc.toList = cur2 at *
  -- the temporaries
  have hra : r < a.tmps.size := by rw [hsz]; exact l1
  have hpa : p < a.tmps.size := by rw [hsz]; exact l2
  have hr1' := hr1.put (dst := some r) (.d _ _ hV1) hA1
  have hr2 := hr1'.put (dst := some p) (v := .pointer (some ⟨g, xs.length * P.cellsOf e, none⟩)) (act := .no) (.undef _) trivial
  generalize ha1 : a.put (some r) vS = a1 at *
  generalize ha2 : a1.put (some p) (.pointer (some ⟨g, xs.length * P.cellsOf e, none⟩)) = a2 at *
  have z1 : a1.tmps.size = a.tmps.size := by rw [← ha1]; exact size_put _ _ _
  have v1r : a1.eval (.tmp r) = vS := by rw [← ha1]; exact eval_put_same _ _ hra
  have v1q : a1.eval (.tmp q) = a.eval (.tmp q) := by rw [← ha1]; exact eval_put_ne _ _ (Ne.symm n1)
  have v1x : a1.eval (.tmp x) = a.eval (.tmp x) := by rw [← ha1]; exact eval_put_ne _ _ (Ne.symm n2)
  have v1b : a1.eval (.tmp b) = a.eval (.tmp b) := by rw [← ha1]; exact eval_put_ne _ _ (Ne.symm n4)
  have v2p : a2.eval (.tmp p) = .pointer (some ⟨g, xs.length * P.cellsOf e, none⟩) := by rw [← ha2]; exact eval_put_same _ _ (z1.symm ▸ hpa)
  have v2x : a2.eval (.tmp x) = .agg pc := by rw [← ha2, eval_put_ne _ _ (Ne.symm n5), v1x, hpc]
  have v2r : a2.eval (.tmp r) = vS := by rw [← ha2, eval_put_ne _ _ n3]; exact v1r
  have v2b : a2.eval (.tmp b) = a.eval (.tmp b) := by rw [← ha2, eval_put_ne _ _ (Ne.symm n6)]; exact v1b
  -- the box
  have hstb := hst
  unfold vStore at hstb
  split at hstb
  rotate_left
  · cases hstb
  rename_i kb off ys hb hys
  split at hstb
  rotate_left
  · cases hstb
  rename_i cs hkb
  split at hstb
  rotate_left
  · cases hstb
  rename_i hcd
  clear hstb
  have hHs : (tl2 st own' e r p xs c).H = st.H := rfl
  rw [hHs] at hkb
  have hb' : a2.eval (.tmp b) = .pointer (some ⟨μ kb, off, none⟩) := hr2.evalPtr hb
  have hys1 : ys.length = 1 := by
    have : (tl2 st own' e r p xs c).eval G (.tmp r) = .d (.sl (xs ++ [c])) := by
      simp [St.eval, finish, List.getD, l1, List.getElem?_set, Ne.symm n3]
    rw [this] at hys
    simp only [vcells, D.cells, List.map_cons, List.map_nil, Option.some.injEq] at hys
    rw [← hys]; rfl
  obtain ⟨_, _, vs0, T0, hh0, hsz0, _⟩ := hr.objs kb _ hkb
  obtain ⟨hbg, hw1b⟩ := hobj kb _ hkb
  have hvc : vS.cells = #[vS] := by rw [← hvS]; rfl
  have hvo : vS.oneCell' = true := by rw [← hvS]; rfl
  have hob : w1.heap[μ kb]? = some (.cells vs0 T0 (0, 0)) := hw1b.trans hh0
  generalize hX : spl vs0 off [vS] = X
  -- the steps
  have E0 : (execOp a.eval ⟨some r, .call { callee := .builtin .append, args := #[.tmp s, .tmp z], argTypes := #[t, t] }, y0, p0, f0, none⟩).run P w = .ok (.value vS) w1 := by
    simp [execOp, resolve, invoke, builtin, e0]
  have E1 : ∀ w', (execOp a1.eval ⟨some p, .indexAddr t (.tmp r) (.tmp q), y1, p1, f1, none⟩).run P w' = .ok (.value (.pointer (some ⟨g, xs.length * P.cellsOf e, none⟩))) w' := fun w' =>
    run_indexAddr_at rfl hu (v1r.trans hvS.symm) (v1q.trans (hr.evalInt hq)) (by omega) hpos
  have E2 : ∀ w' : World, w'.heap[g]? = some (.cells cur1 e (0, 0)) → (execOp a2.eval ⟨none, .store e (.tmp p) (.tmp x), y2, p2, f2, none⟩).run P w' = .ok .skip (w'.setRow g cur2) := fun w' hw' => by
    have := run_store_at (P := P) (a := a2) (w := w') (o := ⟨none, .store e (.tmp p) (.tmp x), y2, p2, f2, none⟩) rfl v2p hw' (by rw [v2x]; show pc.size = _; rw [hpc1, hc]) (by omega) (by rw [v2x]; exact hone) (by rw [v2x]; show _ + pc.size ≤ _; rw [hpc1, hc]; exact hfit)
    rw [v2x] at this
    have hcl : (Value.agg pc).cells = pc := rfl
    rw [hcl, hcur2] at this
    exact this
  have E3 : ∀ (ax : Act) (w' : World), ax.eval (.tmp b) = .pointer (some ⟨μ kb, off, none⟩) → ax.eval (.tmp r) = vS → w'.heap[μ kb]? = some (.cells vs0 T0 (0, 0)) → (execOp ax.eval ⟨none, .store t (.tmp b) (.tmp r), y3, p3, f3, none⟩).run P w' = .ok .skip (w'.setRow (μ kb) X) := fun ax w' hb1 hr1 hw' => by
    have := run_store_at (P := P) (a := ax) (w := w') (o := ⟨none, .store t (.tmp b) (.tmp r), y3, p3, f3, none⟩) rfl hb1 hw' (by rw [hr1, hvc, ← hcd.1, hys1]; rfl) (by omega) (by rw [hr1, hvc]; simpa using hvo) (by rw [hr1, hvc]; show off + 1 ≤ _; rw [hsz0]; omega)
    rw [hr1, hvc] at this
    have : (execOp ax.eval ⟨none, .store t (.tmp b) (.tmp r), y3, p3, f3, none⟩).run P w' = .ok .skip (w'.setRow (μ kb) (spl vs0 off [vS])) := this
    rw [hX] at this
    exact this
  have hb1 : a1.eval (.tmp b) = .pointer (some ⟨μ kb, off, none⟩) := by rw [v1b, ← v2b]; exact hb'
  have hgX : (w1.setRow (μ kb) X).heap[g]? = some (.cells cur1 e (0, 0)) := (setRow_other w1 (μ kb) g _ (Ne.symm hbg)).trans hg
  have hbX : (w1.setRow g cur2).heap[μ kb]? = some (.cells vs0 T0 (0, 0)) := (setRow_other w1 g (μ kb) _ hbg).trans hob
  have hcomm : (w1.setRow (μ kb) X).setRow g cur2 = (w1.setRow g cur2).setRow (μ kb) X := setRow_comm w1 hbg X cur2
  have hfin : QQ .normal a2 ((w1.setRow g cur2).setRow (μ kb) X) := by
    obtain ⟨v, w', R', μ', hrun, hr3, _, _, hs3⟩ := vStore_ok (o := ⟨none, .store t (.tmp b) (.tmp r), y3, p3, f3, none⟩) rfl hst base R1 μ a2 _ hr2
    rw [E3 a2 _ hb' v2r hbX] at hrun
    rcases hrun with hrun | ⟨hrun, _⟩
    · cases hrun
    · cases hrun
      exact hk out.st a2 _ R' μ' hQ hr3 (hs1.trans hs3)
  refine wpAny_all r0 (by simp) fun i hi => ?_
  simp only [List.mem_singleton] at hi
  subst hi
  refine wpOp_run h0 rfl (.inl E0) ha1 ?_
  refine wpAny_all r1 (by simp) fun j hj => ?_
  simp only [List.mem_cons, List.not_mem_nil, or_false] at hj
  rcases hj with rfl | rfl
  · refine wpOp_run h1 rfl (.inl (E1 w1)) ha2 ?_
    refine wpAny_all r2 (by simp) fun j hj => ?_
    simp only [List.mem_cons, List.not_mem_nil, or_false] at hj
    rcases hj with rfl | rfl
    · refine wpOp_run h2 rfl (.inr ⟨E2 w1 hg, rfl⟩) rfl ?_
      refine wpAny_all r4 (by simp) fun j hj => ?_
      simp only [List.mem_singleton] at hj
      subst hj
      exact wpOp_run h3 rfl (.inr ⟨E3 a2 _ hb' v2r hbX, rfl⟩) rfl (wpAny_done r7 hfin _)
    · refine wpOp_run h3 rfl (.inr ⟨E3 a2 _ hb' v2r hob, rfl⟩) rfl ?_
      refine wpAny_all r5 (by simp) fun j hj => ?_
      simp only [List.mem_singleton] at hj
      subst hj
      exact wpOp_run h2 rfl (.inr ⟨E2 _ hgX, rfl⟩) rfl (wpAny_done r8 (by rw [hcomm]; exact hfin) _)
  · refine wpOp_run h3 rfl (.inr ⟨E3 a1 _ hb1 v1r hob, rfl⟩) rfl ?_
    refine wpAny_all r3 (by simp) fun j hj => ?_
    simp only [List.mem_singleton] at hj
    subst hj
    refine wpOp_run h1 rfl (.inl (E1 _)) ha2 ?_
    refine wpAny_all r6 (by simp) fun j hj => ?_
    simp only [List.mem_singleton] at hj
    subst hj
    exact wpOp_run h2 rfl (.inr ⟨E2 _ hgX, rfl⟩) rfl (wpAny_done r9 (by rw [hcomm]; exact hfin) _)
end
end Go.VM
