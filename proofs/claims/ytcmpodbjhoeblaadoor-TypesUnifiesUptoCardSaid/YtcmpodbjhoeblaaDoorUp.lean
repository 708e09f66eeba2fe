/- The abstract machine on plain data: the size of what a law gets, for the second form of a statement. No condition. -/
import Derived.Test.YtcmpodbjhoeblaaDoorZ3
import Derived.Test.YtcmpodbjhoeblaaDoorRows
set_option linter.unusedVariables false
set_option linter.unusedSimpArgs false
set_option linter.unusedSectionVars false
namespace Go.VM
open Go Go.RowKit Go.ChangeShapes Go.WideShapes Go.Proofs.YtcmpodbjhoeblaaDoor
mutual
/-- How many values and letters data hold. -/
def szD : D → Nat
  | .str s => s.length + 1
  | .sl es => szLL es + 1
  | .agg ds => szL ds
  | .int _ _ => 1
  | .bool _ => 1
  | .nils => 1
def szL : List D → Nat
  | [] => 0
  | d :: r => szD d + szL r
def szLL : List (List D) → Nat
  | [] => 0
  | l :: r => szL l + szLL r
end
theorem szL_append : ∀ a b : List D, szL (a ++ b) = szL a + szL b
  | [], b => by simp [szL]
  | d :: a, b => by
    have := szL_append a b
    simp only [List.cons_append, szL, this]
    omega
mutual
theorem bulk_le {H : Type} : ∀ d : DataW H, szL (flat d) ≤ Rows.uptoBulk d
  | .lit (.int k n) => by simp [flat, szL, szD, Rows.uptoBulk]
  | .lit (.bool b) => by simp [flat, szL, szD, Rows.uptoBulk]
  | .lit (.string s) => by simp [flat, szL, szD, Rows.uptoBulk]
  | .nil => by simp [flat, szL, szD, szLL, Rows.uptoBulk]
  | .slice es sp => by
    have := bulk_each es
    simp only [flat, szL, szD, Rows.uptoBulk]
    omega
  | .agg ps => by
    have := bulk_cat ps
    simp only [flat, Rows.uptoBulk]
    omega
  | .lit (.float .f32 _) => by simp [flat, szL]
  | .lit (.float .f64 _) => by simp [flat, szL]
  | .lit .nil => by simp [flat, szL]
  | .ptr d => by simp [flat, szL]
  | .iface _ d => by simp [flat, szL]
  | .map es => by simp [flat, szL]
  | .held _ => by simp [flat, szL]
theorem bulk_each {H : Type} : ∀ l : List (DataW H), szLL (flatEach l) ≤ Rows.uptoBulkAll l
  | [] => by simp [flatEach, szLL]
  | d :: r => by
    have h1 := bulk_le d
    have h2 := bulk_each r
    simp only [flatEach, szLL, Rows.uptoBulkAll]
    omega
theorem bulk_cat {H : Type} : ∀ l : List (DataW H), szL (flatCat l) ≤ Rows.uptoBulkAll l
  | [] => by simp [flatCat, szL]
  | d :: r => by
    have h1 := bulk_le d
    have h2 := bulk_cat r
    simp only [flatCat, szL_append, Rows.uptoBulkAll]
    omega
end
section
variable {P : Program} {H : Type} {enc : TypeId × Value → H} {w : World} {sp : Nat → Bool} {held : Bool} {L : List TypeId}
theorem read_arg_sz {r : Reach} {b0 : Nat} (hlo : laidOutB P = true) (hp : plainOk P L = true) {t : TypeId} {v : Value} {d : DataW H} {ps : List MemPlace} (hT : L.contains t = true) (hval : Value.okWide P w r b0 t v) (h : DataW.Trod enc P w 0 sp held t v d ps) :
    ∃ x, FitsV P t x ∧ V (RW w) w v x ∧ szD x = szL (flat d) := by
  obtain ⟨n, hn⟩ := h
  obtain ⟨h1, h2, h3⟩ := read_trod hlo hp n t _ _ hT hn
  have hrow := List.all_eq_true.1 hp t (by simpa using hT)
  simp only [Bool.and_eq_true, decide_eq_true_eq] at hrow
  obtain ⟨_, hrow⟩ := hrow
  cases hu : P.underlying t with
  | none => rw [hu] at hrow; cases hrow
  | some u =>
    cases ha : descAgg u with
    | true =>
      have hv : ∃ cs : Array Value, v = .agg cs := by
        unfold Value.okWide at hval
        rw [hu] at hval
        cases u <;> simp only [descAgg] at ha <;> (try cases ha)
        · obtain ⟨cs, hv, _⟩ := hval; exact ⟨cs, hv⟩
        · obtain ⟨cs, hv, _⟩ := hval; exact ⟨cs, hv⟩
      obtain ⟨cs, rfl⟩ := hv
      refine ⟨.agg (flat d), by simp only [FitsV, hu, ha, if_true]; exact ⟨_, rfl, h2⟩, .agg _ _ (by simpa [Value.cells] using h1.symm) (fun i x hx => (h3 i x hx).1) (fun i x hx => ?_), by simp [szD]⟩
      have := (h3 i x hx).2
      simpa [Value.cells, List.getD, Array.getD_eq_getD_getElem?] using this
    | false =>
      have hc : v.cells = #[v] := by
        refine cell_value hu ha ?_ hval
        rw [hu] at hrow ⊢
        cases u <;> simp only [descAgg] at ha <;> (try cases ha) <;> first | rfl | (simp at hrow)
      rw [hc] at h1 h3
      simp at h1
      obtain ⟨x, hx⟩ : ∃ x, flat d = [x] := List.length_eq_one_iff.1 h1
      simp only [hx] at h2 h3
      refine ⟨x, by simp only [FitsV, hu, ha]; exact h2, by simpa using (h3 0 x rfl).2, by simp [hx, szL]⟩

theorem read_all_sz {r : Reach} {b0 : Nat} (hlo : laidOutB P = true) (hp : plainOk P L = true) : ∀ {ts : List TypeId} {vs : List Value} {ds : List (DataW H)} {ps : List MemPlace}, (∀ t ∈ ts, L.contains t = true) → (∀ (j : Nat) t v, ts[j]? = some t → vs[j]? = some v → Value.okWide P w r b0 t v) →
    DataW.TrodAll enc P w 0 sp held ts vs ds ps → ∃ xs, FitsAll P ts xs ∧ vs.length = xs.length ∧ (∀ (i : Nat) (d : D), xs[i]? = some d → V (RW w) w (vs.getD i undef) d) ∧ szL xs ≤ Rows.uptoBulkAll ds
  | [], _, _, _, _, _, h => by
    obtain ⟨rfl, rfl, rfl⟩ := trodAll_nil h
    exact ⟨[], trivial, rfl, by simp, by simp [szL]⟩
  | t :: ts, _, _, _, hT, hv, h => by
    obtain ⟨v, vs1, d, ds1, a, b, rfl, rfl, rfl, h1, h2⟩ := trodAll_cons h
    obtain ⟨x, q1, q2, q7⟩ := read_arg_sz hlo hp (hT t (.head _)) (hv 0 t v rfl rfl) h1
    obtain ⟨xs, q3, q4, q5, q6⟩ := read_all_sz hlo hp (fun t ht => hT t (.tail _ ht)) (fun j t v a b => hv (j + 1) t v a b) h2
    refine ⟨x :: xs, ⟨q1, q3⟩, by simp [q4], fun i d hi => ?_, by
      have := bulk_le d
      simp only [szL, Rows.uptoBulkAll]
      omega⟩
    cases i with
    | zero => simp at hi; subst hi; simpa using q2
    | succ i => simp at hi; simpa using q5 i d hi

theorem law_of_cs_upto {G : GT} {f : FuncId} {fn : Func} {s : ChangeSpec} {apart fresh handsOn again : Bool} {tb : TypeId} {r : Reach} {b0 : Nat}
    (hlo : laidOutB P = true) (hmr : mapsRowed P = true) (hsf : ((List.range P.types.size).all fun t => match P.underlying t with | some (.slice e) => decide (0 < P.cellsOf e) | _ => true) = true)
    (hp : plainOk P L = true) {ts : List TypeId} (hts : fn.params.toList = ts) (hT : (ts.all fun t => L.contains t) = true) (hvars : s.vars = []) (hres : fn.resultTypes = #[tb]) (htb : P.underlying tb = some .bool)
    (hs : ∀ ds : List (DataW H), ds.length = ts.length → s.fn H ds = { results := [.lit (.bool true)], args := ds })
    (hcs : ∀ xs, FitsAll P ts xs → szL xs ≤ 1048576 → CS P G f xs (.d (.bool true)) none)
    {W : World} {args : Array Value} {ds gs : List (DataW H)} {before : List MemPlace} (hval : ∀ (j : Nat) t v, fn.params[j]? = some t → args[j]? = some v → Value.okWide P W r b0 t v)
    (hW : DataW.Whole enc P fn.params.toList s.vars apart W args.toList ds gs before) (hG : Glob G (From W.heap.size) (RW W) W) (hk : Rows.uptoSmall H (ds ++ gs) = true) :
    Calls P f args W fun e W' => ∃ v, e = .returned v ∧ s.post enc P fn apart fresh handsOn again W args v W' := by
  have hW' := hW
  obtain ⟨p, q, hA, hV, rfl, hfz, hnd⟩ := hW
  rw [hvars] at hV
  obtain ⟨rfl, rfl⟩ := trodVars_none hV
  rw [hts] at hA
  have hTm : ∀ t ∈ ts, L.contains t = true := List.all_eq_true.1 hT
  obtain ⟨xs, q1, q2, q3, q6⟩ := read_all_sz hlo hp hTm (fun j t v a b => hval j t v (by rw [← Array.getElem?_toList, hts]; exact a) (by rw [← Array.getElem?_toList]; exact b)) hA
  have hsz : szL xs ≤ 1048576 := by
    have h1 : Rows.uptoBulkAll (ds ++ []) ≤ 1048576 := of_decide_eq_true hk
    rw [List.append_nil] at h1
    omega
  refine (hcs xs q1 hsz W (RW W) args hG (fun _ _ h => h) (by simpa using q2) (fun i d hi => by simpa [List.getD, Array.getD_eq_getD_getElem?] using q3 i d hi)).mono fun e W' ⟨v, R', he, htv, hst, _, _⟩ => ?_
  have hv : v = .bool true := by
    have := htv (fun _ => 0)
    cases this with
    | d _ _ h => cases h; rfl
  subst he hv
  have hlen := trodAll_len hA
  have hlt : ∀ x ∈ p ++ [], x.block < W.heap.size := hW'.lt
  refine ⟨_, rfl, post_kept hW' hst.below.below (fun _ _ _ => ?_) (fun sp' hsp => ?_) (fun _ _ => ?_) ?_⟩
  · rw [List.append_nil, hs ds hlen, hres]
    exact trodAll_cons_mk (shut_bool htb _) trodAll_mk0
  · rw [List.append_nil, List.append_nil, hs ds hlen, hts]
    have h1 := trodAll_carry (w' := W') hA fun x hx => hst.below.below.same (hlt x (by simpa using hx))
    refine h1.respare (kids_rows hlo hmr) (fun t e ht hu => slices_full_of P hsf t e ht hu) (fun t ht => ?_) (fun x hx => hsp x (by simpa using hx))
    have hrow := List.all_eq_true.1 hp t (by simpa using hTm t ht)
    simp only [Bool.and_eq_true, decide_eq_true_eq] at hrow
    exact hrow.1
  · rw [List.append_nil, hs ds hlen, hvars]
    rfl
  · exact ok_one hres rfl (okWide_bool_mk htb _)

end
end Go.VM
