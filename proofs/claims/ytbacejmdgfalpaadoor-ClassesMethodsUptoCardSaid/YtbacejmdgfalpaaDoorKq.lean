/- The examples' modules: the store into an instance. No condition. -/
import Derived.Test.YtbacejmdgfalpaaDoorKp
set_option linter.unusedVariables false
set_option linter.unusedSimpArgs false
set_option linter.unusedSectionVars false
namespace Go.Proofs.YtbacejmdgfalpaaDoor
open Go Go.VM Go.RowKit
set_option maxRecDepth 100000
set_option maxHeartbeats 8000000
variable {G : GT}
def markS : D → Bool
  | .int .i64 5 => true
  | .str s => s == [97] || s == [120] || s == [101, 113]
  | _ => false
theorem mark_uniq {R : Nat → Nat → Prop} {w : World} {v : Value} {d x : D} (h : V R w v d) (h2 : V R w v x) (hx : markS x = true) : markS d = true := by
  unfold markS at hx
  split at hx
  · rw [h.int_uniq h2]; rfl
  · rw [h.str_uniq h2]; exact hx
  · cases hx
theorem less_z {R : Nat → Nat → Prop} {w : World} {row : Array Value} {R' : Nat → Nat → Prop} {w0 : World} (hR : ∀ b o, R b o → b < w.heap.size) (hz : ListsZ R w df0 row R' w0) :
    ∃ g cap cur, row.getD 2 undef = .slice (some ⟨g, 0, none⟩) 2 cap ∧ w0.heap[g]? = some (.cells cur tIn (0, 0)) ∧ 24 ≤ cur.size ∧ ∃ R2, ListsZ R w .nils row R2 (w0.setRow g (spl cur 23 [niV])) := by
  obtain ⟨hsz, hs, hb, hV, hown⟩ := hz
  have hV2 : V R' w0 (row.getD 2 undef) (.sl (rawIs df0)) := hV 2 _ rfl
  obtain ⟨ao, cap, hv, hle, hne⟩ := hV2.sl_inv
  obtain ⟨b, o, size, rfl, hs0, hs1, hrun⟩ := hne (by simp)
  have h12 : size = 12 := (hs1 _ (List.mem_cons_self ..)).symm
  subst h12
  rcases hown with ⟨ao', h0⟩ | ⟨g, n, cap', cur, q1, q2, q3, q4, q5, q6, q7⟩
  · rw [hv] at h0; cases h0
  rw [hv] at q1
  have e1 : b = g ∧ o = 0 ∧ n = 2 ∧ cap' = cap := by
    injection q1 with z1 z2 z3
    injection z1 with z1
    injection z1 with z4 z5
    exact ⟨z4, z5, z2.symm, z3.symm⟩
  obtain ⟨rfl, rfl, rfl, rfl⟩ := e1
  rw [cells_in] at q6 q7
  have hcur : 24 ≤ cur.size := by omega
  have hfit : 23 + ([niV] : List Value).length ≤ cur.size := hcur
  have hflat : ∀ (i j : Nat) (c : List D) (d : D), (rawIs df0)[i]? = some c → c[j]? = some d → d.one = true ∧ ∃ v, cur[i * 12 + j]? = some v ∧ V R' w0 v d := fun i j c d hi hj => by
    obtain ⟨p1, _, v, p2, p3⟩ := hrun i c hi j d hj
    rw [cell_of_row w0 _ _ cur tIn (0, 0) q3, Nat.zero_add] at p2
    exact ⟨p1, v, p2, p3⟩
  have hmark : ((rawIs df0).all fun c => c.all fun d => !markS d) = true := by decide +kernel
  have hS : ∀ j v x, R' b j → cur[j]? = some v → markS x = true → ¬ V R' w0 v x := fun j v x hj hv hx hvx => by
    have hj24 : j < 24 := Nat.lt_of_not_le fun h => q7 j h hj
    have hi2 : j / 12 < (rawIs df0).length := by show j / 12 < 2; omega
    have hc : (rawIs df0)[j / 12]? = some (rawIs df0)[j / 12] := List.getElem?_eq_getElem hi2
    have hcl : ((rawIs df0)[j / 12]).length = 12 := hs1 _ (List.getElem_mem hi2)
    have hjl : j % 12 < ((rawIs df0)[j / 12]).length := by rw [hcl]; omega
    obtain ⟨_, v', p2, p3⟩ := hflat (j / 12) (j % 12) _ _ hc (List.getElem?_eq_getElem hjl)
    rw [show j / 12 * 12 + j % 12 = j by omega, hv] at p2
    cases p2
    have h1 := mark_uniq p3 hvx hx
    have h2 := List.all_eq_true.1 (List.all_eq_true.1 hmark _ (List.getElem_mem hi2)) _ (List.getElem_mem hjl)
    rw [h1] at h2
    cases h2
  obtain ⟨w1, hw1⟩ : ∃ w1, w0.setRow b (spl cur 23 [niV]) = w1 := ⟨_, rfl⟩
  have hg1 : w1.heap[b]? = some (.cells (spl cur 23 [niV]) tIn (0, 0)) := by rw [← hw1]; exact setRow_heap w0 b cur _ tIn _ q3
  have ho1 : ∀ k, k ≠ b → w1.heap[k]? = w0.heap[k]? := fun k hk => by rw [← hw1]; exact setRow_other w0 b k _ hk
  have hsz1 : w1.heap.size = w0.heap.size := by rw [← hw1]; simp
  have hbw : w.heap.size ≤ b := q2
  have hbl : b < w0.heap.size := (Array.getElem?_eq_some_iff.1 q3).1
  -- what does not lean on the block stays
  have stay : ∀ {v d}, V R' w0 v d → gdD markS d = true → V (fun k o => (R' k o ∧ k ≠ b) ∨ (k = b ∧ o < 24)) w1 v d := fun hvd hd =>
    (hvd.avoid q3 hS hd).step (fun k o h => .inl h) fun k o h => World.cell?_of_block (ho1 k h.2)
  refine ⟨b, cap', cur, hv, q3, hcur, fun k o => (R' k o ∧ k ≠ b) ∨ (k = b ∧ o < 24), hsz, ⟨⟨?_, ?_, ?_, ?_, fun k hk => ?_⟩, fun k o h => .inl ⟨hs.mono k o h, fun e => by have := hR k o h; omega⟩, fun k o h hn => ?_, fun k o h => ?_⟩, fun k o h => ?_, fun i d hi => ?_, ?_⟩
  · rw [hw1, ← hw1]; exact hs.below.os
  · rw [hw1, ← hw1]; exact hs.below.tape
  · rw [hw1, ← hw1]; exact hs.below.output
  · rw [hw1, hsz1]; exact hs.below.size
  · rw [hw1, ho1 k fun e => hk (by rw [e]; exact q2)]; exact hs.below.block k hk
  · rcases h with ⟨h, _⟩ | ⟨rfl, _⟩
    · exact hs.new k o h hn
    · exact q2
  · have hkb : k ≠ b := fun e => by have := hR k o h; omega
    rw [hw1, World.cell?_of_block (a := ⟨k, o, none⟩) (ho1 k hkb)]
    exact hs.cells k o h
  · rw [hw1, hsz1]
    rcases h with ⟨h, _⟩ | ⟨rfl, _⟩
    · exact hb k o h
    · exact hbl
  · rw [hw1]
    have hcell : ∀ (i j : Nat) (c : List D) (d : D), (rawIs .nils)[i]? = some c → c[j]? = some d → d.one = true ∧ ∃ v, (spl cur 23 [niV])[i * 12 + j]? = some v ∧ V (fun k o => (R' k o ∧ k ≠ b) ∨ (k = b ∧ o < 24)) w1 v d := fun i j c d hi hj => by
      have hgd : ∀ d, d ∈ (rawIs df0).flatten → gdD markS d = true := gdL_mem (by simp [rawIs, rawIn, gdL, gdD, gdLL, markS, tyD, dfC, dfX, strs, ndC, zeroTy])
      have hold : ∀ c', (rawIs df0)[i]? = some c' → c'[j]? = some d → i * 12 + j ≠ 23 → d.one = true ∧ ∃ v, (spl cur 23 [niV])[i * 12 + j]? = some v ∧ V (fun k o => (R' k o ∧ k ≠ b) ∨ (k = b ∧ o < 24)) w1 v d := fun c' hc' hd' h23 => by
        obtain ⟨p1, v, p2, p3⟩ := hflat i j c' d hc' hd'
        refine ⟨p1, v, ?_, stay p3 (hgd d (List.mem_flatten.2 ⟨c', List.mem_of_getElem? hc', List.mem_of_getElem? hd'⟩))⟩
        have hlt : i * 12 + j < 24 := by
          have h1 : i < 2 := (List.getElem?_eq_some_iff.1 hc').1
          have h2 : j < 12 := by
            have := (List.getElem?_eq_some_iff.1 hd').1
            rwa [hs1 c' (List.mem_of_getElem? hc')] at this
          omega
        rw [spl_get hfit, if_pos (by omega)]
        exact p2
      match i, hi with
      | 0, hi =>
        simp only [rawIs, List.getElem?_cons_zero, Option.some.injEq] at hi
        subst hi
        exact hold _ rfl hj (by
          have : j < 12 := (List.getElem?_eq_some_iff.1 hj).1
          omega)
      | 1, hi =>
        simp only [rawIs, List.getElem?_cons_succ, List.getElem?_cons_zero, Option.some.injEq] at hi
        subst hi
        have hj12 : j < 12 := (List.getElem?_eq_some_iff.1 hj).1
        by_cases h11 : j = 11
        · subst h11
          simp [rawIn, tyD] at hj
          subst hj
          refine ⟨rfl, niV, ?_, .nils none⟩
          rw [spl_get hfit, if_neg (by omega), if_pos (by show 1 * 12 + 11 < 23 + 1; omega)]
          rfl
        · refine hold _ rfl ?_ (by omega)
          match j, hj12, h11, hj with
          | 0, _, _, hj => exact hj
          | 1, _, _, hj => exact hj
          | 2, _, _, hj => exact hj
          | 3, _, _, hj => exact hj
          | 4, _, _, hj => exact hj
          | 5, _, _, hj => exact hj
          | 6, _, _, hj => exact hj
          | 7, _, _, hj => exact hj
          | 8, _, _, hj => exact hj
          | 9, _, _, hj => exact hj
          | 10, _, _, hj => exact hj
          | j + 11, h1, h2, _ => omega
      | i + 2, hi => simp [rawIs] at hi
    match i, hi with
    | 0, hi => simp [rawMo] at hi; subst hi; exact stay (hV 0 .nils rfl) rfl
    | 1, hi => simp only [rawMo, List.getElem?_cons_succ, List.getElem?_cons_zero, Option.some.injEq] at hi; subst hi; exact stay (hV 1 _ rfl) (by decide +kernel)
    | 2, hi =>
      simp only [rawMo, List.getElem?_cons_succ, List.getElem?_cons_zero, Option.some.injEq] at hi
      subst hi
      rw [hv]
      refine .sl b 0 2 cap' 12 _ (fun i j => (w1.cell? ⟨b, 0 + i * 12 + j, none⟩).getD undef) rfl hle (by omega) (fun e he => ?_) (fun i j hi hj => ⟨.inr ⟨rfl, by omega⟩, ?_⟩) (fun i j e d hi hj => (hcell i j e d hi hj).1) (fun i j e d hi hj => ?_)
      · simp at he
        rcases he with rfl | rfl <;> rfl
      · rw [cell_of_row w1 _ _ _ tIn (0, 0) hg1, Array.getElem?_eq_getElem (by rw [spl_size hfit]; omega)]
        rfl
      · obtain ⟨_, v, p2, p3⟩ := hcell i j e d hi hj
        rw [cell_of_row w1 _ _ _ tIn (0, 0) hg1, Nat.zero_add, p2]
        exact p3
    | 3, hi => simp [rawMo] at hi; subst hi; exact stay (hV 3 .nils rfl) rfl
    | 4, hi => simp [rawMo] at hi; subst hi; exact stay (hV 4 .nils rfl) rfl
    | 5, hi => simp [rawMo] at hi; subst hi; exact stay (hV 5 .nils rfl) rfl
    | i + 6, hi => simp [rawMo] at hi
  · rw [hw1, hv]
    refine .inr ⟨b, 2, cap', _, rfl, q2, hg1, hle, q5, ?_, fun off hoff h => ?_⟩
    · rw [spl_size hfit, cells_in]; exact q6
    · rw [cells_in] at hoff
      rcases h with ⟨_, h⟩ | ⟨_, h⟩
      · exact h rfl
      · omega
end Go.Proofs.YtbacejmdgfalpaaDoor
