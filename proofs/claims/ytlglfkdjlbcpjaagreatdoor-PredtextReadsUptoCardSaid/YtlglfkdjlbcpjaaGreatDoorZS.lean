/- Joined texts. The reader of predicates: signs, operations, names; the walks. The reader of predicates: the operation at a place, texts joined, names; the walks. The reader of predicates: texts joined, names; the walks. The reader of predicates: lists, chains, comparisons, primaries; the walks. No condition. -/
import Derived.Test.YtlglfkdjlbcpjaaGreatDoorZR
import Derived.Test.YtlglfkdjlbcpjaaGreatDoorZB
import Derived.Test.YtlglfkdjlbcpjaaGreatDoorZ9
import Derived.Test.YtlglfkdjlbcpjaaGreatDoorZ7
import Derived.Test.YtlglfkdjlbcpjaaGreatDoorZ4
import Derived.Test.YtlglfkdjlbcpjaaGreatDoorZV
section
set_option linter.unusedVariables false
set_option linter.unusedSimpArgs false
set_option linter.unusedSectionVars false
namespace Go.Proofs.YtlglfkdjlbcpjaaGreatDoor
open Go Go.VM
set_option maxRecDepth 100000
set_option maxHeartbeats 8000000
variable {G : GT}
theorem rg1 : List.range 1 = [0] := rfl
theorem rg2 : List.range 2 = [0, 1] := rfl
theorem rg3 : List.range 3 = [0, 1, 2] := rfl
abbrev rdD (l : List Tok) : D := .agg [.sl (l.map tokE)]
theorem sgB_at {l : List Tok} {i : Nat} (h : i < l.length) (s : List UInt8) : sgB l i s = (decide (l[i].kind = 4) && decide (l[i].text = s)) := by simp [sgB, h]
theorem sgB_no {l : List Tok} {i : Nat} (h : ¬ i < l.length) (s : List UInt8) : sgB l i s = false := by
  unfold sgB
  rw [List.getElem?_eq_none (by omega)]
theorem kdB_at {l : List Tok} {i : Nat} (h : i < l.length) (k : Int) : kdB l i k = decide (l[i].kind = k) := by simp [kdB, h]
theorem kdB_no {l : List Tok} {i : Nat} (h : ¬ i < l.length) (k : Int) : kdB l i k = false := by
  unfold kdB
  rw [List.getElem?_eq_none (by omega)]
theorem txA_at {l : List Tok} {i : Nat} (h : i < l.length) : txA l i = l[i].text := by simp [txA, h]
theorem nmA_at {l : List Tok} {i : Nat} (h : i < l.length) : nmA l i = l[i].n := by simp [nmA, h]
theorem ent_rsign : VM.Enters Tryz.prog 62 := VM.Enters.mk Tryz.func62 rfl
theorem rsign_cs (l : List Tok) (i : Nat) (s : List UInt8) (hl : l.length ≤ 900000000) : CS Tryz.prog G 62 [rdD l, .int .i64 i, .str s] (.d (.bool (sgB l i s))) none := by
  refine CS.of_VK Tryz.func62 rfl Tryz.ntmps62 rfl ?_
  by_cases hlt : i < l.length
  · rw [sgB_at hlt]
    obtain ⟨t, ht⟩ : ∃ t, l[i] = t := ⟨_, rfl⟩
    rw [ht]
    simp [hlt, ht, tokE]
    by_cases h1 : t.kind = 4
    · by_cases h2 : t.text = s <;> simp [h1, h2, hlt, ht, tokE]
    · simp [h1, hlt, ht, tokE]
  · rw [sgB_no hlt]
    simp [hlt]
theorem ent_predtext_two : VM.Enters Tryz.prog 63 := VM.Enters.mk Tryz.func63 rfl
theorem predtext_two_cs (op : Int) (a b : Pr) : CS Tryz.prog G 63 [.int .i64 op, .agg (prD a), .agg (prD b)] (.d (.agg (prD (tw op a b)))) none := by
  refine CS.of_VK Tryz.func63 rfl Tryz.ntmps63 rfl ?_
  simp [tw, rg2, prC_eq]
def opsI (k : Nat) : List (List D) := (opL k).map fun p => [.int .i64 p.1]
theorem ent_predtext_operators : VM.Enters Tryz.prog 96 := VM.Enters.mk Tryz.func96 rfl
theorem predtext_operators_cs (k : Nat) : CS Tryz.prog G 96 [.int .i64 k] (.d (.sl (opsI k))) none := by
  refine CS.of_VK Tryz.func96 rfl Tryz.ntmps96 rfl ?_
  match k with
  | 0 => simp [opsI, opL, rg1, rg2]
  | 1 => simp [opsI, opL, rg1, rg2]
  | 2 => simp [opsI, opL, rg1, rg2]
  | 3 => simp [opsI, opL, rg1, rg2]
  | 4 => simp [opsI, opL, rg1, rg2]
  | 5 => simp [opsI, opL, rg1, rg2]
  | 6 => simp [opsI, opL, rg1, rg2]
  | 7 => simp [opsI, opL, rg1, rg2]
  | 8 => simp [opsI, opL, rg1, rg2]
  | k + 9 =>
    have h1 : ¬ (k : Int) + 9 = 1 := by omega
    have h3 : ¬ (k : Int) + 9 = 3 := by omega
    have h4 : ¬ (k : Int) + 9 = 4 := by omega
    have h7 : ¬ (k : Int) + 9 = 7 := by omega
    have h8 : ¬ (k : Int) + 9 = 8 := by omega
    simp [opsI, opL, h1, h3, h4, h7, h8]
/-- The form of an operation with two kids: its level, those of its kids, its sign. -/
def frm (op : Int) : Option (Int × Int × Int × List UInt8) :=
  if op = 18 then some (1, 1, 2, [60, 61, 62]) else if op = 17 then some (2, 3, 2, [61, 62]) else if op = 16 then some (3, 3, 4, [124, 124]) else if op = 15 then some (4, 4, 5, [38, 38])
  else if op = 10 then some (6, 7, 7, [61]) else if op = 11 then some (6, 7, 7, [33, 61]) else if op = 12 then some (6, 7, 7, [60]) else if op = 13 then some (6, 7, 7, [60, 61])
  else if op = 6 then some (7, 7, 8, [43]) else if op = 7 then some (7, 7, 8, [45]) else if op = 8 then some (8, 8, 9, [42]) else none
def frmR : Option (Int × Int × Int × List UInt8) → DV
  | some (a, b, c, s) => .tup [.agg [.int .i64 a, .int .i64 b, .int .i64 c, .str s], .bool true]
  | none => .tup [.agg [.int .i64 0, .int .i64 0, .int .i64 0, .str []], .bool false]
theorem frmR_keyless (o) : keyless (frmR o) = true := by
  cases o with
  | none => rfl
  | some q => obtain ⟨a, b, c, s⟩ := q; rfl
theorem ent_predtext_forms : VM.Enters Tryz.prog 29 := VM.Enters.mk Tryz.func29 rfl
theorem predtext_forms_cs (op : Int) : CS Tryz.prog G 29 [.int .i64 op] (frmR (frm op)) none := by
  refine CS.of_VK Tryz.func29 rfl Tryz.ntmps29 rfl ?_
  simp
  by_cases h18 : op = 18
  · simp [h18, frm, frmR]
  by_cases h17 : op = 17
  · simp [h17, frm, frmR]
  by_cases h16 : op = 16
  · simp [h16, frm, frmR]
  by_cases h15 : op = 15
  · simp [h15, frm, frmR]
  by_cases h10 : op = 10
  · simp [h10, frm, frmR]
  by_cases h11 : op = 11
  · simp [h11, frm, frmR]
  by_cases h12 : op = 12
  · simp [h12, frm, frmR]
  by_cases h13 : op = 13
  · simp [h13, frm, frmR]
  by_cases h6 : op = 6
  · simp [h6, frm, frmR]
  by_cases h7 : op = 7
  · simp [h7, frm, frmR]
  by_cases h8 : op = 8
  · simp [h8, frm, frmR]
  simp [h18, h17, h16, h15, h10, h11, h12, h13, h6, h7, h8, frm, frmR]
end Go.Proofs.YtlglfkdjlbcpjaaGreatDoor
end

section
set_option linter.unusedVariables false
set_option linter.unusedSimpArgs false
set_option linter.unusedSectionVars false
namespace Go.Proofs.YtlglfkdjlbcpjaaGreatDoor
open Go Go.VM
set_option maxRecDepth 100000
set_option maxHeartbeats 8000000
variable {G : GT}
/-! ### The operation at a place -/
theorem opL_frm (k : Nat) : ∀ p ∈ opL k, ∃ a b c, frm p.1 = some (a, b, c, p.2) := by
  unfold opL
  split <;> simp [frm]
abbrev capH (l : List Tok) (n : Nat) : List (Nat × AObj) := [(100000, .cells [.d (.sl (l.map tokE))]), (100001, .cells [.d (.int .i64 n)])]
theorem ent_chain1 : VM.Enters Tryz.prog 97 := VM.Enters.mk Tryz.func97 rfl
theorem chain1_ch (l : List Tok) (n : Nat) (hl : l.length ≤ 900000000) {op a b c : Int} {s : List UInt8} (h : frm op = some (a, b, c, s)) : CH Tryz.prog G 97 ⟨[.d (.int .i64 op), .ptr 100000 0, .ptr 100001 0], capH l n, []⟩ ⟨[.d (.bool (sgB l n s))], capH l n, []⟩ := by
  have h1 := predtext_forms_cs (G := G) op
  rw [h, frmR] at h1
  have h2 := rsign_cs (G := G) l n s hl
  refine CH.of_VK Tryz.func97 rfl Tryz.ntmps97 rfl (by simp) ?_
  simp
  refine callK.mk ent_predtext_forms h1 ?_
  simp
  refine callK.mk ent_rsign h2 ?_
  simp
def ixO (l : List Tok) (n : Nat) : List (Int × List UInt8) → Nat → Int
  | [], _ => -1
  | p :: r, i => if sgB l n p.2 = true then (i : Int) else ixO l n r (i + 1)
theorem ixO_step {l : List Tok} {n : Nat} {o : List (Int × List UInt8)} {i : Nat} (h : i < o.length) : ixO l n (o.drop i) i = if sgB l n o[i].2 = true then (i : Int) else ixO l n (o.drop (i + 1)) (i + 1) := by
  rw [List.drop_eq_getElem_cons h, ixO]
theorem ent_ixOp : VM.Enters Tryz.prog 95 := VM.Enters.mk Tryz.func95 rfl
theorem ixOp_ch (l : List Tok) (n : Nat) (o : List (Int × List UInt8)) (ho : ∀ p ∈ o, ∃ a b c, frm p.1 = some (a, b, c, p.2)) (hl : l.length ≤ 900000000) (hol : o.length ≤ 10) :
    CH Tryz.prog G 95 ⟨[.d (.sl (o.map fun p => [.int .i64 p.1])), .clo 97 [.ptr 100000 0, .ptr 100001 0]], capH l n, []⟩ ⟨[.d (.int .i64 (ixO l n o 0))], capH l n, []⟩ := by
  obtain ⟨r, hr⟩ : ∃ r, ixO l n o 0 = r := ⟨_, rfl⟩
  rw [hr]
  refine CH.of_VK Tryz.func95 rfl Tryz.ntmps95 rfl (by simp) ?_
  simp
  refine SW.loopF (ι := { i : Nat // i ≤ o.length ∧ ixO l n (o.drop i) i = r }) (fun i => [(8, .d (.int .i64 i.1))]) (fun _ => capH l n) (fun _ => []) (fun i => o.length - i.1) ⟨0, by simpa using hr⟩ (by simp) ?_
  rintro ⟨i, hi, hR⟩
  try simp only at hi hR
  by_cases hlt : i < o.length
  · have hw := wrap64s (show i < 9223372036854775807 by omega)
    obtain ⟨q, hq⟩ : ∃ q, o[i] = q := ⟨_, rfl⟩
    obtain ⟨a, b, c, hf⟩ := ho o[i] (List.getElem_mem hlt)
    rw [ixO_step hlt] at hR
    rw [hq] at hf hR
    have hc := chain1_ch (G := G) l n hl hf
    simp [hlt, hq]
    refine callHK.ro ent_chain1 hc [(100000, 100000), (100001, 100001)] (by simp) (by simp) (by simp) (by simp) (by simp) ?_
    cases hs : sgB l n q.2
    · rw [if_neg (by simp [hs])] at hR
      simp
      exact Again.mk ⟨i + 1, hlt, hR⟩ (by simp [hw]) (by simp; omega)
    · rw [if_pos hs] at hR
      simp [hR]
  · have : i = o.length := by omega
    subst this
    rw [List.drop_length, ixO] at hR
    simp [← hR]
end Go.Proofs.YtlglfkdjlbcpjaaGreatDoor
end

section
set_option linter.unusedVariables false
set_option linter.unusedSimpArgs false
set_option linter.unusedSectionVars false
namespace Go.Proofs.YtlglfkdjlbcpjaaGreatDoor
open Go Go.VM
set_option maxRecDepth 100000
set_option maxHeartbeats 8000000
variable {G : GT}
theorem ent_Join : VM.Enters Tryz.prog 26 := VM.Enters.mk Tryz.func26 rfl
theorem Join_cs (xs : List (List UInt8)) (sep : List UInt8) (hl : xs.length ≤ 140737488355328) (hj : (Lib.join xs sep).length ≤ 140737488355328) : CS Tryz.prog G 26 [.sl (xs.map fun s => [.str s]), .str sep] (.d (.str (Lib.join xs sep))) none :=
  join_cs Tryz.strings_Join_none Tryz.strings_Join hl hj
theorem join_flat : ∀ xs : List (List UInt8), Lib.join xs [] = xs.flatten
  | [] => rfl
  | x :: r => by rw [Lib.join_cons, Lib.joinTail]; simp
theorem ent_predtext_joined : VM.Enters Tryz.prog 25 := VM.Enters.mk Tryz.func25 rfl
theorem predtext_joined_cs (xs : List (List UInt8)) (hl : xs.length ≤ 1000000) (hj : xs.flatten.length ≤ 900000000) : CS Tryz.prog G 25 [.sl (xs.map fun s => [.str s])] (.d (.str xs.flatten)) none := by
  have h := Join_cs (G := G) xs [] (by omega) (by rw [join_flat]; omega)
  rw [join_flat] at h
  refine CS.of_VK Tryz.func25 rfl Tryz.ntmps25 rfl ?_
  simp
  refine callK.mk ent_Join h ?_
  simp
theorem joined2 (a b : List UInt8) (h : (a ++ b).length ≤ 900000000) : CS Tryz.prog G 25 [.sl [[.str a], [.str b]]] (.d (.str (a ++ b))) none := by
  have := predtext_joined_cs (G := G) [a, b] (by simp) (by simpa using h)
  simpa using this
theorem joined3 (a b c : List UInt8) (h : (a ++ (b ++ c)).length ≤ 900000000) : CS Tryz.prog G 25 [.sl [[.str a], [.str b], [.str c]]] (.d (.str (a ++ (b ++ c)))) none := by
  have := predtext_joined_cs (G := G) [a, b, c] (by simp) (by simpa using h)
  simpa using this
/-! ### Names -/
/-- How long all texts are. -/
def txS : List Tok → Nat
  | [] => 0
  | t :: r => t.text.length + 1 + txS r
theorem txS_app : ∀ a b : List Tok, txS (a ++ b) = txS a + txS b
  | [], b => by simp [txS]
  | t :: a, b => by
    rw [List.cons_append, txS, txS, txS_app a b]
    omega
theorem txS_take {l : List Tok} {i : Nat} (h : i < l.length) : txS (l.take (i + 1)) = txS (l.take i) + (l[i].text.length + 1) := by
  rw [List.take_succ_eq_append_getElem h, txS_app]
  simp [txS]
theorem txS_le (l : List Tok) (i : Nat) : txS (l.take i) ≤ txS l := by
  have := txS_app (l.take i) (l.drop i)
  rw [List.take_append_drop] at this
  omega
/-- Tokens that are not too many and not too long. -/
def okTs (l : List Tok) : Prop := l.length ≤ 50000 ∧ txS l ≤ 900000
theorem parts_grow {l : List Tok} {j : Nat} {s : List UInt8} (hs : s.length ≤ txS (l.take j)) (h1 : j + 1 < l.length) : (s ++ ([46] ++ (l[j + 1]).text)).length ≤ txS (l.take (j + 2)) := by
  have q1 := txS_take (l := l) (i := j) (by omega)
  have q2 : txS (l.take (j + 2)) = txS (l.take (j + 1)) + ((l[j + 1]).text.length + 1) := txS_take h1
  simp only [List.length_append, List.length_cons, List.length_nil]
  omega
theorem parts_grow3 {l : List Tok} {j : Nat} {s : List UInt8} (hs : s.length ≤ txS (l.take (j + 2))) (h1 : j + 2 < l.length) : (s ++ (l[j + 2]).text).length ≤ txS (l.take (j + 3)) := by
  have q2 : txS (l.take (j + 3)) = txS (l.take (j + 2)) + ((l[j + 2]).text.length + 1) := txS_take h1
  simp only [List.length_append]
  omega
theorem okTs.le {l : List Tok} (h : okTs l) {i n : Nat} (hn : n ≤ txS (l.take i)) : n ≤ 900000000 := by
  have h1 := txS_le l i
  have h2 := h.2
  omega
theorem wrapA {i k : Nat} (h : i + k < 9223372036854775807) : IntKind.i64.wrap ((i : Int) + k) = ((i + k : Nat) : Int) := by rw [wrap64 (by omega)]; simp
theorem wtB_at {l : List Tok} {i : Nat} (h : i < l.length) : wtB l i = (decide (l[i].kind = 1) || decide (l[i].kind = 2)) := by simp [wtB, kdB_at h]
theorem wtB_no {l : List Tok} {i : Nat} (h : ¬ i < l.length) : wtB l i = false := by simp [wtB, kdB_no h]
theorem parts_stop {l : List Tok} {f i : Nat} {s : List UInt8} (h : sgB l i [46] = false) : partsN l f i s = (s, i) := by
  cases f with
  | zero => rfl
  | succ f => rw [partsN, if_neg (by simp [h])]
def namR : Option (List UInt8 × Nat) → DV
  | some (s, n) => .tup [.str s, .int .i64 n]
  | none => .tup [.str [], .int .i64 (-1)]
theorem namR_keyless (o) : keyless (namR o) = true := by
  cases o with
  | none => rfl
  | some q => obtain ⟨a, b⟩ := q; rfl
theorem SW_cut {P : Program} {x y : Code} {st : St} {Q : Exit → St → Prop} (st' : St) (h1 : SW P G x st fun e s => match e with
    | .normal => Weak s st'
    | e => Q e s) (h2 : SW P G y st' Q) : SW P G (.seq x y) st Q := SW.seqq fun base R μ a w hr =>
  wp_mono (h1 base R μ a w hr) fun e a1 w1 ⟨s, R1, μ1, q1, q2, q3⟩ => by
    cases e with
    | normal => exact ⟨s, R1, μ1, fun base R μ a w hr => h2 base R μ a w (hr.weak q1), q2, q3⟩
    | _ => exact ⟨s, R1, μ1, q1, q2, q3⟩
theorem ent_rname : VM.Enters Tryz.prog 92 := VM.Enters.mk Tryz.func92 rfl
theorem rname_cs (hG : G 3 = some kwCells) (l : List Tok) (i : Nat) (hl : okTs l) (hi : i ≤ l.length) : CS Tryz.prog G 92 [rdD l, .int .i64 i] (namR (nameR kwB l i)) none := by
  have hll := hl.1
  obtain ⟨o, ho⟩ : ∃ o, nameR kwB l i = o := ⟨_, rfl⟩
  rw [ho]
  refine CS.of_SWK Tryz.func92 rfl Tryz.ntmps92 rfl ?_
  refine SW.seqq (SW.vk ?_)
  simp
  by_cases hlt : i < l.length
  rotate_left
  · have hge : l.length ≤ i := Nat.le_of_not_lt hlt
    have : o = none := by rw [← ho]; simp [nameR, nmOk, wtB_no hlt]
    subst this
    refine SW.seqq (SW.vk ?_)
    simp [hge, namR]
  have hge : ¬ l.length ≤ i := by omega
  unfold nameR nmOk at ho
  rw [wtB_at hlt, txA_at hlt] at ho
  obtain ⟨t, ht⟩ : ∃ t, l[i] = t := ⟨_, rfl⟩
  rw [ht] at ho
  by_cases hw : t.kind = 1 ∨ t.kind = 2
  rotate_left
  · have k1 : ¬ t.kind = 1 := fun h => hw (.inl h)
    have k2 : ¬ t.kind = 2 := fun h => hw (.inr h)
    have : o = none := by rw [← ho]; simp [k1, k2]
    subst this
    refine SW.seqq (SW.vk ?_)
    simp [hge, hlt, ht, tokE]
    simp [k1, k2, hlt, ht, tokE, namR]
  have hwd : (decide (t.kind = 1) || decide (t.kind = 2)) = true := by simpa using hw
  rw [hwd, Bool.true_and] at ho
  refine SW_cut ⟨[.d (rdD l), .d (.int .i64 i), .ptr 2 0, .undef, .d (.str []), .d (.int .i64 0)] ++ List.replicate 125 .undef, [(2, .cells [.d (.sl (l.map tokE))])], []⟩ (SW.vk ?_) ?_
  · simp [hge, hlt, ht, tokE]
    by_cases k1 : t.kind = 1
    · simp [k1, hlt, ht, tokE, List.replicate]
    · have k2 := hw.resolve_left k1
      simp [k1, k2, hlt, ht, tokE, List.replicate]
  refine SW.seqq (SW.vk ?_)
  simp [hlt, ht, tokE, List.replicate]
  cases hok : (!kwB t.text || decide (t.text = [118]) || decide (t.text = [116, 97, 103]) || decide (t.text = [118, 97, 108]))
  · have : o = none := by rw [← ho]; simp [hok]
    subst this
    simp at hok
    obtain ⟨⟨⟨q1, q2⟩, q3⟩, q4⟩ := hok
    refine SW.seqq (SW.vk ?_)
    simp
    refine callK.mk ent_n_Keyword (n_Keyword_cs hG t.text) ?_
    simp [q1, q2, q3, q4, namR]
  rw [if_pos hok] at ho
  refine SW_cut ⟨[.d (rdD l), .d (.int .i64 i), .ptr 2 0, .undef, .d (.str []), .d (.int .i64 0), .d (.str t.text)] ++ List.replicate 124 .undef, [(2, .cells [.d (.sl (l.map tokE))])], []⟩ (SW.vk ?_) ?_
  · simp
    refine callK.mk ent_n_Keyword (n_Keyword_cs hG t.text) ?_
    by_cases q1 : kwB t.text = true
    · by_cases q2 : t.text = [118]
      · rw [q2] at q1
        simp [q1, q2, List.replicate]
      · by_cases q3 : t.text = [116, 97, 103]
        · rw [q3] at q1
          simp [q1, q3, List.replicate]
        · have q4 : t.text = [118, 97, 108] := by simpa [q1, q2, q3] using hok
          rw [q4] at q1
          simp [q1, q4, List.replicate]
    · simp [q1, List.replicate]
  obtain ⟨rs, rn, hrr⟩ : ∃ rs rn, partsN l l.length (i + 1) t.text = (rs, rn) := ⟨_, _, rfl⟩
  rw [hrr] at ho
  subst ho
  have hw1 := wrap64s (show i < 9223372036854775807 by omega)
  refine SW.vk ?_
  simp [hw1, List.replicate]
  refine SW.loopF (ι := { p : Nat × List UInt8 // p.1 ≤ l.length ∧ p.2.length ≤ txS (l.take p.1) ∧ ∃ f, l.length ≤ f + p.1 ∧ partsN l f p.1 p.2 = (rs, rn) }) (fun p => [(1, .d (.int .i64 p.1.1)), (6, .d (.str p.1.2))]) (fun _ => [(2, .cells [.d (.sl (l.map tokE))])]) (fun _ => []) (fun p => l.length - p.1.1) ⟨(i + 1, t.text), hlt, by have := txS_take hlt; rw [ht] at this; simp only; omega, l.length, by omega, hrr⟩ (by simp) ?_
  rintro ⟨⟨j, s⟩, hj, hs, f, hf, hp⟩
  simp only at hj hs hf hp
  have hsg := rsign_cs (G := G) l j [46] (by omega)
  have hj1 := wrap64s (show j < 9223372036854775807 by omega)
  have hj2 : IntKind.i64.wrap ((j : Int) + 2) = ((j + 2 : Nat) : Int) := by rw [wrap64 (by omega)]; simp
  have hj3 : IntKind.i64.wrap ((j : Int) + 2 + 1) = ((j + 3 : Nat) : Int) := by rw [wrap64 (by omega)]; omega
  simp
  refine callK.mk ent_rsign hsg ?_
  cases hd : sgB l j [46] with
  | false =>
    rw [parts_stop hd] at hp
    cases hp
    simp [namR]
  | true =>
    have hjl := sgB_lt hd
    obtain ⟨f, rfl⟩ : ∃ g, f = g + 1 := ⟨f - 1, by omega⟩
    rw [partsN, if_pos hd] at hp
    simp [hj1]
    by_cases hlt1 : j + 1 < l.length
    rotate_left
    · rw [if_neg (by rw [wtB_no hlt1]; simp), if_neg (by rw [kdB_no hlt1]; simp)] at hp
      cases hp
      simp [hlt1, namR]
    obtain ⟨u, hu⟩ : ∃ u, l[j + 1] = u := ⟨_, rfl⟩
    have hgr := parts_grow hs hlt1
    rw [hu] at hgr
    rw [wtB_at hlt1, kdB_at hlt1, txA_at hlt1, hu] at hp
    have hjoin := joined3 (G := G) s [46] u.text (hl.le hgr)
    simp [hj1, hlt1, hu, tokE]
    by_cases k1 : u.kind = 1
    · simp [k1] at hp
      simp [k1, hj1, hlt1, hu, tokE, rg3]
      refine callK.mk ent_predtext_joined hjoin ?_
      simp [hj2, k1]
      exact Again.mk ⟨(j + 2, s ++ ([46] ++ u.text)), hlt1, hgr, f, by omega, by simpa using hp⟩ (by simp [hj2]) (by simp; omega)
    by_cases k2 : u.kind = 2
    · simp [k2] at hp
      simp [k1, k2, hj1, hlt1, hu, tokE, rg3]
      refine callK.mk ent_predtext_joined hjoin ?_
      simp [hj2, k2]
      exact Again.mk ⟨(j + 2, s ++ ([46] ++ u.text)), hlt1, hgr, f, by omega, by simpa using hp⟩ (by simp [hj2]) (by simp; omega)
    by_cases k3 : u.kind = 3
    rotate_left
    · simp [k1, k2, k3] at hp
      obtain ⟨rfl, rfl⟩ := hp
      simp [k1, k2, k3, namR]
    simp [k3] at hp
    simp [k1, k2, k3, hj1, hlt1, hu, tokE, rg3]
    refine callK.mk ent_predtext_joined hjoin ?_
    simp [hj2, k3]
    by_cases hlt2 : j + 2 < l.length
    rotate_left
    · rw [if_neg (by rw [wtB_no hlt2]; simp)] at hp
      have hlt2' : ¬ (j : Int) + 2 < (l.length : Int) := by omega
      simp [hlt2']
      exact Again.mk ⟨(j + 2, s ++ ([46] ++ u.text)), hlt1, hgr, f, by omega, by simpa using hp⟩ (by simp [hj2]) (by simp; omega)
    have hlt2' : (j : Int) + 2 < (l.length : Int) := by omega
    have hnn : (0 : Int) ≤ (j : Int) + 2 := by omega
    have htn : ((j : Int) + 2).toNat = j + 2 := by omega
    obtain ⟨v, hv⟩ : ∃ v, l[j + 2] = v := ⟨_, rfl⟩
    have hgr3 := parts_grow3 hgr hlt2
    rw [hv] at hgr3
    rw [wtB_at hlt2, txA_at hlt2, hv] at hp
    have hjoin2 := joined2 (G := G) (s ++ ([46] ++ u.text)) v.text (hl.le hgr3)
    simp at hjoin2
    simp [hlt2', hlt2, hnn, htn, hv, tokE]
    by_cases m1 : v.kind = 1
    · simp [m1] at hp
      simp [m1, hlt2, hlt2', hnn, htn, hv, tokE, rg2]
      refine callK.mk ent_predtext_joined hjoin2 ?_
      simp [hj3]
      exact Again.mk ⟨(j + 3, s ++ ([46] ++ u.text) ++ v.text), hlt2, hgr3, f, by omega, by simpa using hp⟩ (by simp [hj3]) (by simp; omega)
    by_cases m2 : v.kind = 2
    · simp [m2] at hp
      simp [m1, m2, hlt2, hlt2', hnn, htn, hv, tokE, rg2]
      refine callK.mk ent_predtext_joined hjoin2 ?_
      simp [hj3]
      exact Again.mk ⟨(j + 3, s ++ ([46] ++ u.text) ++ v.text), hlt2, hgr3, f, by omega, by simpa using hp⟩ (by simp [hj3]) (by simp; omega)
    simp [m1, m2] at hp
    simp [m1, m2, hlt2, hlt2', hnn, htn, hv, tokE]
    exact Again.mk ⟨(j + 2, s ++ ([46] ++ u.text)), hlt1, hgr, f, by omega, by simpa using hp⟩ (by simp [hj2]) (by simp; omega)
end Go.Proofs.YtlglfkdjlbcpjaaGreatDoor
end

section
set_option linter.unusedVariables false
set_option linter.unusedSimpArgs false
set_option linter.unusedSectionVars false
namespace Go.Proofs.YtlglfkdjlbcpjaaGreatDoor
open Go Go.VM
set_option maxRecDepth 100000
set_option maxHeartbeats 8000000
variable {G : GT}
def resA : Option (Pr × Nat) → Pr → DV
  | some (p, n), _ => .tup [.agg (prD p), .int .i64 n]
  | none, j => .tup [.agg (prD j), .int .i64 (-1)]
def resL : Option (List Pr × Nat) → DV
  | some (ks, n) => .tup [.sl (ks.map prC), .int .i64 n]
  | none => .tup [.sl [], .int .i64 (-1)]
theorem resA_keyless (o) (j) : keyless (resA o j) = true := by
  cases o with
  | none => rfl
  | some q => obtain ⟨a, b⟩ := q; rfl
theorem resL_keyless (o) : keyless (resL o) = true := by
  cases o with
  | none => rfl
  | some q => obtain ⟨a, b⟩ := q; rfl
theorem prC_four (l : List Pr) : ∀ x : List D, x ∈ l.map prC → x.length = 4 := fun x hx => by
  obtain ⟨p, _, rfl⟩ := List.mem_map.1 hx
  rw [prC_eq]
  rfl
section
variable {l : List Tok} {f : Nat}
/-- The contracts of reading in f steps. -/
def AtC (G : GT) (l : List Tok) (f : Nat) : Prop := ∀ i k, 1 ≤ k → k ≤ 9 → k ≠ 6 → i ≤ l.length → mu l.length i k ≤ f → ∃ j, CS Tryz.prog G 40 [rdD l, .int .i64 i, .int .i64 k] (resA (atF kwB l f i k) j) none
def CmC (G : GT) (l : List Tok) (f : Nat) : Prop := ∀ i, i ≤ l.length → mu l.length i 6 ≤ f → ∃ j, CS Tryz.prog G 64 [rdD l, .int .i64 i] (resA (atF kwB l f i 6) j) none
def PrC (G : GT) (l : List Tok) (f : Nat) : Prop := ∀ i, i ≤ l.length → mu l.length i 10 ≤ f → ∃ j, CS Tryz.prog G 65 [rdD l, .int .i64 i] (resA (atF kwB l f i 10) j) none
theorem ent_at : VM.Enters Tryz.prog 40 := VM.Enters.mk Tryz.func40 rfl
theorem ent_rlist : VM.Enters Tryz.prog 93 := VM.Enters.mk Tryz.func93 rfl
theorem mu_one {L n : Nat} (h : n < L) : mu L (n + 1) 1 = (L - n) * 12 + 10 := by unfold mu; omega
theorem rlist_cs (hl : okTs l) (hA : AtC G l f) (n : Nat) (hf : (l.length - n) * 12 + 10 ≤ f) : CS Tryz.prog G 93 [rdD l, .int .i64 n] (resL (listG (atF kwB l f) l n)) none := by
  have hll := hl.1
  obtain ⟨o, ho⟩ : ∃ o, listG (atF kwB l f) l n = o := ⟨_, rfl⟩
  rw [ho]
  unfold listG at ho
  have hsg := rsign_cs (G := G) l n [40] (by omega)
  refine CS.of_VK Tryz.func93 rfl Tryz.ntmps93 rfl ?_
  simp
  refine callK.mk ent_rsign hsg ?_
  cases hd : sgB l n [40] with
  | false =>
    rw [if_neg (by simp [hd])] at ho
    subst ho
    simp [resL]
  | true =>
    have hnl := sgB_lt hd
    rw [if_pos hd] at ho
    simp
    refine SW.loopF (ι := { p : Nat × List Pr // p.1 < l.length ∧ (l.length - p.1) * 12 + 10 ≤ f ∧ p.2.length ≤ p.1 ∧ ∃ g, l.length ≤ g + p.1 ∧ argsG (atF kwB l f) l g p.1 p.2 = o }) (fun p => [(1, .d (.int .i64 p.1.1)), (6, .d (.sl (p.1.2.map prC)))]) (fun _ => [(2, .cells [.d (.sl (l.map tokE))])]) (fun _ => [(25, [.t 6])]) (fun p => l.length - p.1.1) ⟨(n, []), hnl, hf, by simp, l.length, by omega, ho⟩ (by simp) ?_
    rintro ⟨⟨i, acc⟩, hi, hf, hal, g, hg, hR⟩
    simp only at hi hf hal hg hR
    have hi1 := wrap64s (show i < 9223372036854775807 by omega)
    obtain ⟨g, rfl⟩ : ∃ h, g = h + 1 := ⟨g - 1, by omega⟩
    rw [argsG] at hR
    obtain ⟨jk, hat⟩ := hA (i + 1) 1 (by omega) (by omega) (by omega) hi (by rw [mu_one hi]; exact hf)
    simp [hi1]
    refine callK.mk (hkl := resA_keyless _ _) ent_at hat ?_
    cases hr : atF kwB l f (i + 1) 1 with
    | none =>
      rw [hr] at hR
      simp only at hR
      subst hR
      simp [resA, resL]
    | some q =>
      obtain ⟨p, m⟩ := q
      have hadv := atF_adv kwB l f _ _ _ _ hr
      rw [hr] at hR
      simp only at hR
      have hm1 := wrap64s (show m < 9223372036854775807 by omega)
      have hs1 := rsign_cs (G := G) l m [41] (by omega)
      have hs2 := rsign_cs (G := G) l m [44] (by omega)
      have hfour := prC_four acc
      have hap : acc.map prC ++ [prD p] = (acc ++ [p]).map prC := by simp [prC_eq]
      simp [resA]
      have hsz : (acc.length + 1) * 57 ≤ 140737488355328 := by omega
      simp [hsz]
      refine callK.mk ent_rsign hs1 ?_
      cases hd1 : sgB l m [41] with
      | true =>
        rw [if_pos hd1] at hR
        subst hR
        simp [hm1, resL, prC_eq]
      | false =>
        rw [if_neg (by simp [hd1])] at hR
        simp
        refine callK.mk ent_rsign hs2 ?_
        cases hd2 : sgB l m [44] with
        | false =>
          rw [if_neg (by simp [hd2])] at hR
          subst hR
          simp [resL]
        | true =>
          rw [if_pos hd2] at hR
          have hml := sgB_lt hd2
          have hmu : (l.length - m) * 12 + 10 ≤ f := by omega
          have hac : (acc ++ [p]).length ≤ m := by simp; omega
          simp
          exact Again.mk ⟨(m, acc ++ [p]), hml, hmu, hac, g, by omega, hR⟩ (by simp [prC_eq]) (by simp; omega)
/-! ### Chains -/
theorem ent_chain : VM.Enters Tryz.prog 66 := VM.Enters.mk Tryz.func66 rfl
theorem opAt_ix {l : List Tok} {n k : Nat} : (match opAt l n k with
    | none => ixO l n (opL k) 0 = -1
    | some op => ∃ (q : Nat) (h : q < (opL k).length), ixO l n (opL k) 0 = q ∧ (opL k)[q].1 = op) := by
  have gen : ∀ (o : List (Int × List UInt8)) (i : Nat), (match (o.find? fun p => sgB l n p.2).map (·.1) with
      | none => ixO l n o i = -1
      | some op => ∃ (q : Nat) (h : q < o.length), ixO l n o i = ((q + i : Nat) : Int) ∧ o[q].1 = op) := by
    intro o
    induction o with
    | nil => intro i; rfl
    | cons p r ih =>
      intro i
      rw [List.find?_cons, ixO]
      cases hs : sgB l n p.2 with
      | true => exact ⟨0, by simp, by simp, rfl⟩
      | false =>
        have := ih (i + 1)
        simp only [Bool.false_eq_true, if_false]
        cases ho : (r.find? fun p => sgB l n p.2).map (·.1) with
        | none => rw [ho] at this; exact this
        | some op =>
          rw [ho] at this
          obtain ⟨q, hq, h1, h2⟩ := this
          exact ⟨q + 1, by simpa using hq, by rw [h1]; congr 1; omega, by simpa using h2⟩
  have := gen (opL k) 0
  unfold opAt
  cases ho : ((opL k).find? fun p => sgB l n p.2).map (·.1) with
  | none => rw [ho] at this; exact this
  | some op => rw [ho] at this; simpa using this
theorem opL_two (k : Nat) : (opL k).length ≤ 2 := by
  unfold opL
  split <;> simp
/-- The frame behind the loop. -/
def chSt (p : Pr) (z : Int) : St := ⟨List.replicate 6 .undef ++ [.ptr 6 0, .d (.int .i64 0), .ptr 8 0, .ptr 9 0] ++ List.replicate 41 .undef, [(6, .cells [.d (.int .i64 0), .d (.str []), .d (.int .i64 0), .d .nils]), (8, .cells ((prD p).map .d)), (9, .cells [.d (.int .i64 z)])], []⟩
theorem chain_cs (hl : okTs l) (hA : AtC G l f) (i k : Nat) (hk : 1 ≤ k ∧ k ≤ 8 ∧ k ≠ 5) (hi : i ≤ l.length) (hf : mu l.length i k ≤ f + 1) :
    ∃ j, CS Tryz.prog G 66 [rdD l, .int .i64 i, .int .i64 k] (resA ((atF kwB l f i (k + 1)).map fun q => chainG (atF kwB l f) l k l.length q.1 q.2) j) none := by
  have hll := hl.1
  obtain ⟨ja, hat⟩ := hA i (k + 1) (by omega) (by omega) (by omega) hi (by unfold mu at hf ⊢; omega)
  refine ⟨ja, ?_⟩
  obtain ⟨o, ho⟩ : ∃ o, ((atF kwB l f i (k + 1)).map fun q => chainG (atF kwB l f) l k l.length q.1 q.2) = o := ⟨_, rfl⟩
  rw [ho]
  have hops := predtext_operators_cs (G := G) k
  have hk1 := wrap64s (show k < 9223372036854775807 by omega)
  refine CS.of_SWK Tryz.func66 rfl Tryz.ntmps66 rfl ?_
  refine SW.seqq (SW.vk ?_)
  simp
  refine SW.seqq (SW.vk ?_)
  simp [hk1]
  refine callK.mk (hkl := resA_keyless _ _) ent_at hat ?_
  cases hr : atF kwB l f i (k + 1) with
  | none =>
    rw [hr] at ho
    subst ho
    simp [resA]
    refine SW_cut (chSt ja (-1)) (SW.vk ?_) ?_
    rotate_left
    · skip
      refine SW.seqq (SW_three (by kernel_rfl) (by kernel_rfl) rfl rfl rfl rfl ⟨?_, ?_⟩)
      · simp [chSt, List.replicate]
        refine SW.vk ?_
        simp
      · simp [chSt, List.replicate]
        refine SW.vk ?_
        simp
    simp
    refine SW.loopF (ι := { x : Unit // True }) (fun _ => []) (fun _ => [(3, .cells [.d (.sl (l.map tokE))]), (6, .cells [.d (.int .i64 0), .d (.str []), .d (.int .i64 0), .d .nils]), (8, .cells ((prD ja).map .d)), (9, .cells [.d (.int .i64 (-1))])]) (fun _ => []) (fun _ => 0) ⟨(), trivial⟩ (by simp) ?_
    rintro ⟨_, _⟩
    simp [chSt, List.replicate]
  | some q =>
    obtain ⟨a, n⟩ := q
    have hadv := atF_adv kwB l f _ _ _ _ hr
    rw [hr] at ho
    simp only [Option.map_some] at ho
    obtain ⟨⟨rp, rn⟩, hres⟩ : ∃ r, chainG (atF kwB l f) l k l.length a n = r := ⟨_, rfl⟩
    rw [hres] at ho
    subst ho
    simp [resA]
    refine SW_cut (chSt rp rn) (SW.vk ?_) ?_
    rotate_left
    · skip
      refine SW.seqq (SW_three (by kernel_rfl) (by kernel_rfl) rfl rfl rfl rfl ⟨?_, ?_⟩)
      · simp [chSt, List.replicate]
        refine SW.vk ?_
        simp
      · simp [chSt, List.replicate]
        refine SW.vk ?_
        simp
    simp
    refine SW.loopF (ι := { p : Pr × Nat // p.2 ≤ l.length ∧ i < p.2 ∧ ∃ g, l.length ≤ g + p.2 ∧ chainG (atF kwB l f) l k g p.1 p.2 = (rp, rn) }) (fun _ => []) (fun p => [(3, .cells [.d (.sl (l.map tokE))]), (6, .cells [.d (.int .i64 0), .d (.str []), .d (.int .i64 0), .d .nils]), (8, .cells ((prD p.1.1).map .d)), (9, .cells [.d (.int .i64 p.1.2)])]) (fun _ => []) (fun p => l.length - p.1.2) ⟨(a, n), hadv.2, hadv.1, l.length, by omega, hres⟩ (by simp) ?_
    rintro ⟨⟨a, n⟩, hn, hin, g, hg, hR⟩
    simp only at hn hin hg hR
    have hcx := ixOp_ch (G := G) l n (opL k) (opL_frm k) (by omega) (by have := opL_two k; omega)
    have hix := opAt_ix (l := l) (n := n) (k := k)
    have hn1 := wrap64s (show n < 9223372036854775807 by omega)
    change CH _ _ _ ⟨[.d (.sl (opsI k)), _], _, _⟩ _ at hcx
    simp
    refine callK.mk ent_predtext_operators hops ?_
    simp
    refine callHK.ro ent_ixOp hcx [(100000, 3), (100001, 9)] (by simp) (by simp) (by simp) (by simp) (by simp) ?_
    cases hop : opAt l n k with
    | none =>
      rw [hop] at hix
      simp only at hix
      have : (a, n) = (rp, rn) := by
        rw [← hR]
        cases g with
        | zero => rfl
        | succ g => rw [chainG, hop]
      cases this
      simp [hix, chSt, List.replicate]
    | some op =>
      rw [hop] at hix
      obtain ⟨q, hq, hx, hqo⟩ := hix
      obtain ⟨hnl, _, _⟩ := opAt_some hop
      obtain ⟨g, rfl⟩ : ∃ h, g = h + 1 := ⟨g - 1, by omega⟩
      rw [chainG, hop] at hR
      obtain ⟨jb, hat2⟩ := hA (n + 1) (k + 1) (by omega) (by omega) (by omega) hnl (by
        have := mu_next (L := l.length) (i := i) (i' := n + 1) (k := k) (k' := k + 1) (by omega) hnl (by omega) (by omega)
        omega)
      have hql : q < (opsI k).length := by simpa [opsI] using hq
      have hqe : (opsI k)[q] = [.int .i64 op] := by simp [opsI, hqo]
      simp [hx, hn1, hk1]
      refine callK.mk (hkl := resA_keyless _ _) ent_at hat2 ?_
      cases hr2 : atF kwB l f (n + 1) (k + 1) with
      | none =>
        rw [hr2] at hR
        cases hR
        simp [resA, chSt, List.replicate]
      | some z =>
        obtain ⟨b, m⟩ := z
        have hadv2 := atF_adv kwB l f _ _ _ _ hr2
        rw [hr2] at hR
        simp only at hR
        have htw := predtext_two_cs (G := G) op a b
        simp [resA]
        refine ⟨lexOk.mk (by kernel_rfl), ?_⟩
        refine callK.mk ent_predtext_operators hops ?_
        simp [hql, hqe]
        refine callK.mk ent_predtext_two htw ?_
        simp
        exact Again.mk ⟨(tw op a b, m), hadv2.2, by simp only; omega, g, by simp only; omega, hR⟩ (by simp) (by simp; omega)
end
end Go.Proofs.YtlglfkdjlbcpjaaGreatDoor
end
