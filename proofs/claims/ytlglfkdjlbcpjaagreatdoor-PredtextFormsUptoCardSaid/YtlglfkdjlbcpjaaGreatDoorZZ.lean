/- Joined texts. Any number in decimal, as the reference prints it; the walks. The reference's text of a predicate; the walks. No condition. -/
import Derived.Test.YtlglfkdjlbcpjaaGreatDoorZ7
import Derived.Test.YtlglfkdjlbcpjaaGreatDoorZ4
import Derived.Test.YtlglfkdjlbcpjaaGreatDoorZY
import Derived.Test.YtlglfkdjlbcpjaaGreatDoorZQ
section
set_option linter.unusedVariables false
set_option linter.unusedSimpArgs false
set_option linter.unusedSectionVars false
namespace Go.Proofs.YtlglfkdjlbcpjaaGreatDoor
open Go Go.VM
set_option maxRecDepth 100000
set_option maxHeartbeats 8000000
variable {G : GT}
/-! ### Plain -/
/-- The digits of a number to the base 10000, the last one first. -/
def bigF : Nat → Nat → List Nat
  | 0, _ => []
  | k + 1, u => if u = 0 then [] else u % 10000 :: bigF k (u / 10000)
theorem bigF_step {k u : Nat} (h : u ≠ 0) : bigF (k + 1) u = u % 10000 :: bigF k (u / 10000) := by rw [bigF, if_neg h]
theorem bigF_lt : ∀ k u, ∀ d ∈ bigF k u, d < 10000
  | 0, _, d, h => by cases h
  | k + 1, u, d, h => by
    rw [bigF] at h
    split at h
    · cases h
    · rcases List.mem_cons.1 h with rfl | h
      · exact Nat.mod_lt _ (by omega)
      · exact bigF_lt k _ d h
theorem bigF_len : ∀ k u, (bigF k u).length ≤ k
  | 0, _ => by simp [bigF]
  | k + 1, u => by
    rw [bigF]
    split
    · simp
    · have := bigF_len k (u / 10000)
      simp only [List.length_cons]
      omega
theorem bigF_last : ∀ k u, u < 10000 ^ k → ∀ d, (bigF k u).getLast? = some d → d ≠ 0
  | 0, _, _, d, h => by simp [bigF] at h
  | k + 1, u, hu, d, h => by
    rw [bigF] at h
    split at h
    · simp at h
    · rename_i h0
      cases hb : bigF k (u / 10000) with
      | nil =>
        rw [hb] at h
        simp only [List.getLast?_singleton, Option.some.injEq] at h
        subst h
        have : u / 10000 = 0 := by
          cases k with
          | zero =>
            have : u < 10000 := by simpa using hu
            omega
          | succ k =>
            rw [bigF] at hb
            split at hb
            · assumption
            · cases hb
        omega
      | cons x r =>
        rw [hb, List.getLast?_cons_cons] at h
        refine bigF_last k (u / 10000) ?_ d (by rw [hb]; exact h)
        rw [Nat.div_lt_iff_lt_mul (by omega)]
        simpa [Nat.pow_succ] using hu
/-- Four digits of a number. -/
def fourT (d : Nat) : List UInt8 := [UInt8.ofNat (48 + d / 1000), UInt8.ofNat (48 + d / 100 % 10), UInt8.ofNat (48 + d / 10 % 10), UInt8.ofNat (48 + d % 10)]
theorem fourT_val (l : List UInt8) {d : Nat} (h : d < 10000) : valN (l ++ fourT d) = 10000 * valN l + d := by
  have e : l ++ fourT d = l ++ [UInt8.ofNat (48 + d / 1000)] ++ [UInt8.ofNat (48 + d / 100 % 10)] ++ [UInt8.ofNat (48 + d / 10 % 10)] ++ [UInt8.ofNat (48 + d % 10)] := by simp [fourT]
  rw [e, valN_snoc, valN_snoc, valN_snoc, valN_snoc, ofDg (by omega), ofDg (by omega), ofDg (by omega), ofDg (by omega)]
  omega
theorem fourT_dg {d : Nat} (h : d < 10000) : ∀ c ∈ fourT d, isDg c = true := by
  intro c hc
  simp only [fourT, List.mem_cons, List.not_mem_nil, or_false] at hc
  rw [isDg_iff]
  rcases hc with rfl | rfl | rfl | rfl <;> rw [ofDg (by omega)] <;> omega
/-- All digits, the first one first. -/
def allT (l : List Nat) : List UInt8 := (l.reverse.map fourT).flatten
theorem allT_cons (d : Nat) (l : List Nat) : allT (d :: l) = allT l ++ fourT d := by simp [allT]
theorem allT_val : ∀ k u, u < 10000 ^ k → valN (allT (bigF k u)) = u
  | 0, u, h => by
    have : u = 0 := by simpa using h
    subst this
    rfl
  | k + 1, u, h => by
    rw [bigF]
    split
    · rename_i h0
      subst h0
      rfl
    · rw [allT_cons, fourT_val _ (Nat.mod_lt _ (by omega)), allT_val k (u / 10000) (by rw [Nat.div_lt_iff_lt_mul (by omega)]; simpa [Nat.pow_succ] using h)]
      omega
theorem allT_dg : ∀ l : List Nat, (∀ d ∈ l, d < 10000) → ∀ c ∈ allT l, isDg c = true
  | [], _, c, hc => by simp [allT] at hc
  | d :: l, h, c, hc => by
    rw [allT_cons, List.mem_append] at hc
    rcases hc with hc | hc
    · exact allT_dg l (fun x hx => h x (.tail _ hx)) c hc
    · exact fourT_dg (h d (.head _)) c hc
theorem allT_len (l : List Nat) : (allT l).length = 4 * l.length := by
  induction l with
  | nil => rfl
  | cons d l ih => rw [allT_cons, List.length_append, ih]; simp [fourT]; omega
/-- Without zeros in front, but for a last one. -/
def stripT : List UInt8 → List UInt8
  | c :: d :: r => if c = 48 then stripT (d :: r) else c :: d :: r
  | l => l
theorem valF_zero (l : List UInt8) : valN (48 :: l) = valN l := by simp [valN, valF]
theorem stripT_val : ∀ l, valN (stripT l) = valN l
  | [] => rfl
  | [c] => rfl
  | c :: d :: r => by
    rw [stripT]
    split
    · rename_i h
      subst h
      rw [stripT_val (d :: r), valF_zero]
    · rfl
theorem stripT_canon : ∀ l, l ≠ [] → (∀ c ∈ l, isDg c = true) → canon (stripT l)
  | [], h, _ => absurd rfl h
  | [c], _, hd => ⟨by simp [stripT], hd, fun _ => rfl⟩
  | c :: d :: r, _, hd => by
    rw [stripT]
    split
    · exact stripT_canon (d :: r) (by simp) fun x hx => hd x (.tail _ hx)
    · rename_i h
      exact ⟨by simp, hd, fun e => absurd (by simpa using e) h⟩
theorem strip_dd {k u : Nat} (h : u < 10000 ^ k) (h0 : u ≠ 0) : stripT (allT (bigF k u)) = Lib.decDigits u := by
  have hne : allT (bigF k u) ≠ [] := fun e => by
    have := allT_val k u h
    rw [e] at this
    exact h0 this.symm
  have hc := stripT_canon _ hne (allT_dg _ (bigF_lt k u))
  have h1 := (canon_dd _ _ rfl hc).1
  rw [stripT_val, allT_val k u h] at h1
  exact h1.symm
/-! ### Walks -/
abbrev bgD (neg : Bool) (l : List Nat) : List D := [.bool neg, .sl (l.map fun d : Nat => [D.int .i64 (d : Int)])]
theorem rgQ1 : List.range 1 = [0] := rfl
theorem dg_piece : ∀ d : Nat, d < 10 → (48 :: ([49, 50, 51, 52, 53, 54, 55, 56, 57] : List UInt8).take d).drop d = [UInt8.ofNat (48 + d)] := by decide
theorem ent_r2_four : VM.Enters Tryz.prog 125 := VM.Enters.mk Tryz.func125 rfl
theorem r2_four_cs (d : Nat) (h : d < 10000) : CS Tryz.prog G 125 [.int .i64 d] (.d (.str (fourT d))) none := by
  refine CS.of_VK Tryz.func125 rfl Tryz.ntmps125 rfl ?_
  simp
  refine ⟨lexOk.mk (by kernel_rfl), ?_⟩
  have hI : ∀ (x k : Nat), x < 10000 → IntKind.i64.wrap ((x : Int) / (k : Int)) = ((x / k : Nat) : Int) := fun x k hx => by
    have h1 : ((x : Int) / (k : Int)) = ((x / k : Nat) : Int) := rfl
    rw [h1]
    have h2 : x / k ≤ x := Nat.div_le_self _ _
    generalize x / k = q at *
    exact wrap64 (by omega)
  obtain ⟨a, ha⟩ : ∃ a, d / 1000 = a := ⟨_, rfl⟩
  obtain ⟨x, hx⟩ : ∃ x, d / 100 = x := ⟨_, rfl⟩
  obtain ⟨y, hy⟩ : ∃ y, d / 10 = y := ⟨_, rfl⟩
  obtain ⟨b, hb⟩ : ∃ b, x % 10 = b := ⟨_, rfl⟩
  obtain ⟨c, hc⟩ : ∃ c, y % 10 = c := ⟨_, rfl⟩
  obtain ⟨e, he⟩ : ∃ e, d % 10 = e := ⟨_, rfl⟩
  have wa : IntKind.i64.wrap ((d : Int) / 1000) = (a : Int) := by rw [← ha]; exact hI d 1000 h
  have wx : IntKind.i64.wrap ((d : Int) / 100) = (x : Int) := by rw [← hx]; exact hI d 100 h
  have wy : IntKind.i64.wrap ((d : Int) / 10) = (y : Int) := by rw [← hy]; exact hI d 10 h
  have vb : (x : Int).tmod 10 = (b : Int) := by rw [← hb]; rfl
  have vc : (y : Int).tmod 10 = (c : Int) := by rw [← hc]; rfl
  have ve : (d : Int).tmod 10 = (e : Int) := by rw [← he]; rfl
  have w0 : ∀ z : Nat, z < 10 → IntKind.i64.wrap (z : Int) = (z : Int) := fun z hz => wrap64 (by omega)
  have w1 : ∀ z : Nat, z < 10 → IntKind.i64.wrap ((z : Int) + 1) = (z : Int) + 1 := fun z hz => wrap64 (by omega)
  have la : a < 10 := by omega
  have lb : b < 10 := by omega
  have lc : c < 10 := by omega
  have le : e < 10 := by omega
  have nb : ∀ z : Nat, z < 10 → (z : Int) + 1 ≤ 10 := fun z hz => by omega
  have nt : ∀ z : Nat, ((z : Int) + 1).toNat = z + 1 := fun z => by omega
  have pz : ∀ z : Nat, z < 10 → (48 :: ([49, 50, 51, 52, 53, 54, 55, 56, 57] : List UInt8).take z).drop z = [UInt8.ofNat (48 + z)] := dg_piece
  have ef : fourT d = [UInt8.ofNat (48 + a), UInt8.ofNat (48 + b), UInt8.ofNat (48 + c), UInt8.ofNat (48 + e)] := by unfold fourT; rw [ha, hx, hy, hb, hc, he]
  rw [ef]
  simp [wa, wx, wy, vb, vc, ve, w0 a la, w0 b lb, w0 c lc, w0 e le, w1 a la, w1 b lb, w1 c lc, w1 e le, nb a la, nb b lb, nb c lc, nb e le, nt, pz a la, pz b lb, pz c lc, pz e le]
theorem ent_r2_Of : VM.Enters Tryz.prog 89 := VM.Enters.mk Tryz.func89 rfl
theorem r2_Of_cs (n : Int) (h : I64 n) : CS Tryz.prog G 89 [.int .i64 n] (.d (.agg (bgD (decide (n < 0)) (bigF 5 n.natAbs)))) none := by
  refine CS.of_VK Tryz.func89 rfl Tryz.ntmps89 rfl ?_
  simp
  unfold I64 at h
  refine SW.loopF (ι := { x : Int × List Nat // I64 x.1 ∧ (0 ≤ n → 0 ≤ x.1) ∧ (n ≤ 0 → x.1 ≤ 0) ∧ ∃ k, x.2.length + k = 5 ∧ x.1.natAbs < 10000 ^ k ∧ x.2 ++ bigF k x.1.natAbs = bigF 5 n.natAbs }) (fun x => [(0, .d (.int .i64 x.1.1)), (3, .d (.sl (x.1.2.map fun d : Nat => [D.int .i64 (d : Int)])))]) (fun _ => [(2, .cells [.d (.bool false), .d .nils])]) (fun _ => [(3, [.t 3])]) (fun x => x.1.1.natAbs) ⟨(n, []), h, fun h => h, fun h => h, 5, rfl, by simp only; omega, rfl⟩ (by simp) ?_
  rintro ⟨⟨m, l⟩, hm, hp, hq, k, hlk, hmk, hr⟩
  simp only at hm hp hq hlk hmk hr
  unfold I64 at hm
  by_cases hz : m = 0
  · subst hz
    have : bigF k (0 : Int).natAbs = [] := by cases k <;> rfl
    rw [this, List.append_nil] at hr
    subst hr
    simp
  · obtain ⟨q, r, e1, e2, e3, e4, e5, e6, e7⟩ := tm_parts m 10000 (by omega)
    have w1 : IntKind.i64.wrap q = q := wrap64 (by omega)
    have hqa : q.natAbs = m.natAbs / 10000 := by rw [← e1, Int.natAbs_tdiv]; rfl
    have hra : r.natAbs = m.natAbs % 10000 := by rw [← e2, Int.natAbs_tmod]; rfl
    obtain ⟨k, rfl⟩ : ∃ j, k = j + 1 := by
      cases k with
      | zero => simp at hmk; exact absurd hmk hz
      | succ k => exact ⟨k, rfl⟩
    rw [bigF_step (by omega), ← hqa, ← hra] at hr
    have hr2 : (l ++ [r.natAbs]) ++ bigF k q.natAbs = bigF 5 n.natAbs := by rw [List.append_assoc]; exact hr
    have hmk2 : q.natAbs < 10000 ^ k := by
      rw [hqa, Nat.div_lt_iff_lt_mul (by omega)]
      simpa [Nat.pow_succ] using hmk
    have hll : (l ++ [r.natAbs]).length + k = 5 := by simp; omega
    have hsz : (l.length + 1) * 9 ≤ 140737488355328 := by omega
    have hI2 : I64 q := ⟨by omega, by omega⟩
    by_cases hneg : r < 0
    · have w2 : IntKind.i64.wrap (-r) = ((r.natAbs : Nat) : Int) := by rw [wrap64 (by omega)]; omega
      simp [hz, e2, hneg, w2, e1, w1, rgQ1, hsz]
      exact Again.mk ⟨(q, l ++ [r.natAbs]), hI2, by simp only; omega, by simp only; omega, k, hll, hmk2, hr2⟩ (by simp) (by simp; omega)
    · obtain ⟨d, rfl⟩ : ∃ d : Nat, r = d := ⟨r.natAbs, by omega⟩
      have hd0 : ¬ ((d : Int) < 0) := by omega
      simp [hz, e2, e1, w1, rgQ1, hsz]
      exact Again.mk ⟨(q, l ++ [d]), hI2, by simp only; omega, by simp only; omega, k, hll, hmk2, hr2⟩ (by simp) (by simp; omega)
theorem ent_r2_Valid : VM.Enters Tryz.prog 145 := VM.Enters.mk Tryz.func145 rfl
theorem r2_Valid_cs (neg : Bool) (l : List Nat) (hl : l.length ≤ 5) (hd : ∀ d ∈ l, d < 10000) (hz : ∀ d, l.getLast? = some d → d ≠ 0) (hn : l = [] → neg = false) : CS Tryz.prog G 145 [.agg (bgD neg l)] (.d (.bool true)) none := by
  have h200 : ¬ 200 < l.length := by omega
  by_cases h0 : l = []
  · have := hn h0
    subst this
    refine CS.of_VK Tryz.func145 rfl Tryz.ntmps145 rfl ?_
    simp [h200, h0]
    refine SW.loopF (ι := { i : Unit // True }) (fun _ => [(4, .d (.int .i64 0))]) (fun _ => [(1, .cells [.d (.bool false), .d (.sl [])])]) (fun _ => []) (fun _ => 0) ⟨(), trivial⟩ (by simp) ?_
    rintro ⟨_, _⟩
    simp
  · have hpos : 0 < l.length := List.length_pos_iff.2 h0
    obtain ⟨k, hk⟩ : ∃ k, l.length = k + 1 := ⟨l.length - 1, by omega⟩
    have hkl : k < l.length := by omega
    have hw : IntKind.i64.wrap ((l.length : Int) - 1) = (k : Int) := by rw [wrap64 (by omega)]; omega
    have hlast : ¬ (l[k] : Int) = 0 := by
      have := hz l[k] (by rw [List.getLast?_eq_getElem?, hk, Nat.add_sub_cancel, List.getElem?_eq_getElem hkl])
      omega
    have hlast' : ¬ l[k] = 0 := by omega
    refine CS.of_VK Tryz.func145 rfl Tryz.ntmps145 rfl ?_
    simp [h200, h0, hpos, hw, hkl, hlast, hlast']
    refine SW.loopF (ι := { i : Nat // i ≤ l.length }) (fun i => [(4, .d (.int .i64 i.1))]) (fun _ => [(1, .cells [.d (.bool neg), .d (.sl (l.map fun d : Nat => [D.int .i64 (d : Int)]))])]) (fun _ => []) (fun i => l.length - i.1) ⟨0, by simp⟩ (by simp) ?_
    rintro ⟨i, hi⟩
    by_cases hlt : i < l.length
    · have hw := wrap64s (show i < 9223372036854775807 by omega)
      have hdi := hd l[i] (List.getElem_mem hlt)
      have hge : ¬ 10000 ≤ (l[i] : Int) := by omega
      have hneg : ¬ (l[i] : Int) < 0 := by omega
      simp [hlt, hge, hneg]
      exact Again.mk ⟨i + 1, hlt⟩ (by simp [hw]) (by simp; omega)
    · simp [hlt]
theorem ent_r2_digits : VM.Enters Tryz.prog 124 := VM.Enters.mk Tryz.func124 rfl
theorem r2_digits_cs (neg : Bool) (l : List Nat) (hl : l.length ≤ 5) (hd : ∀ d ∈ l, d < 10000) (hz : ∀ d, l.getLast? = some d → d ≠ 0) (hn : l = [] → neg = false) : CS Tryz.prog G 124 [.agg (bgD neg l)] (.d (.sl (l.map fun d : Nat => [D.int .i64 (d : Int)]))) none := by
  have hv := r2_Valid_cs (G := G) neg l hl hd hz hn
  refine CS.of_VK Tryz.func124 rfl Tryz.ntmps124 rfl ?_
  simp
  refine callK.mk ent_r2_Valid hv ?_
  simp
theorem ent_r2_negative : VM.Enters Tryz.prog 126 := VM.Enters.mk Tryz.func126 rfl
theorem r2_negative_cs (neg : Bool) (l : List Nat) (hl : l.length ≤ 5) (hd : ∀ d ∈ l, d < 10000) (hz : ∀ d, l.getLast? = some d → d ≠ 0) (hn : l = [] → neg = false) : CS Tryz.prog G 126 [.agg (bgD neg l)] (.d (.bool neg)) none := by
  have hv := r2_Valid_cs (G := G) neg l hl hd hz hn
  refine CS.of_VK Tryz.func126 rfl Tryz.ntmps126 rfl ?_
  simp
  refine callK.mk ent_r2_Valid hv ?_
  simp
/-- The reference's text of a number. -/
def txtB (neg : Bool) (l : List Nat) : List UInt8 := if l = [] then [48] else if neg = true then 45 :: stripT (allT l) else stripT (allT l)
theorem allT_take {l : List Nat} {i : Nat} (h : i < l.length) : allT (l.drop i) = allT (l.drop (i + 1)) ++ fourT l[i] := by
  rw [List.drop_eq_getElem_cons h, allT_cons]
theorem strip_len : ∀ l, (stripT l).length ≤ l.length
  | [] => Nat.le_refl _
  | [c] => Nat.le_refl _
  | c :: d :: r => by
    rw [stripT]
    split
    · have := strip_len (d :: r)
      simp only [List.length_cons] at *
      omega
    · exact Nat.le_refl _
theorem ent_r2_Text : VM.Enters Tryz.prog 88 := VM.Enters.mk Tryz.func88 rfl
theorem r2_Text_cs (neg : Bool) (l : List Nat) (hl : l.length ≤ 5) (hd : ∀ d ∈ l, d < 10000) (hz : ∀ d, l.getLast? = some d → d ≠ 0) (hn : l = [] → neg = false) : CS Tryz.prog G 88 [.agg (bgD neg l)] (.d (.str (txtB neg l))) none := by
  have hdg := r2_digits_cs (G := G) neg l hl hd hz hn
  have hng := r2_negative_cs (G := G) neg l hl hd hz hn
  have hall := allT_len l
  have hw0 : IntKind.i64.wrap ((l.length : Int) - 1) = (l.length : Int) - 1 := wrap64 (by omega)
  refine CS.of_VK Tryz.func88 rfl Tryz.ntmps88 rfl ?_
  simp
  refine callK.mk ent_r2_digits hdg ?_
  simp [hw0]
  refine SW.loopF (ι := { i : Nat // i ≤ l.length }) (fun i => [(4, .d (.str (allT (l.drop i.1)))), (5, .d (.int .i64 ((i.1 : Int) - 1)))]) (fun _ => [(1, .cells [.d (.bool neg), .d (.sl (l.map fun d : Nat => [D.int .i64 (d : Int)]))])]) (fun _ => []) (fun i => i.1) ⟨l.length, Nat.le_refl _⟩ (by simp [allT]) ?_
  rintro ⟨i, hi⟩
  cases i with
  | succ i =>
    have hlt : i < l.length := hi
    have hw : IntKind.i64.wrap ((i : Int) - 1) = (i : Int) - 1 := wrap64 (by omega)
    have hf := r2_four_cs (G := G) l[i] (hd l[i] (List.getElem_mem hlt))
    have hlen : (allT (l.drop (i + 1))).length + (fourT l[i]).length ≤ 9223372036854775807 := by
      rw [allT_len]
      simp [fourT]
      omega
    simp [hlt]
    refine callK.mk ent_r2_four hf ?_
    simp [hlen]
    exact Again.mk ⟨i, by omega⟩ (by simp [hw, allT_take hlt]) (by simp)
  | zero =>
    have hneg1 : ¬ (0 : Int) ≤ 0 - 1 := by omega
    simp
    refine SW.loopF (ι := { s : List UInt8 // s.length ≤ 20 ∧ stripT s = stripT (allT l) ∧ (s = [] ↔ l = []) }) (fun s => [(4, .d (.str s.1))]) (fun _ => [(1, .cells [.d (.bool neg), .d (.sl (l.map fun d : Nat => [D.int .i64 (d : Int)]))])]) (fun _ => []) (fun s => s.1.length) ⟨allT l, by omega, rfl, by rw [← List.length_eq_zero_iff, hall, ← List.length_eq_zero_iff]; omega⟩ (by simp) ?_
    rintro ⟨s, hs, hst, he⟩
    match s, hs, hst, he with
    | [], hs, hst, he =>
      have hl0 := he.1 rfl
      simp [txtB, hl0]
    | [c], hs, hst, he =>
      have hl0 : ¬ l = [] := fun e => by have := he.2 e; cases this
      have e1 : stripT (allT l) = [c] := hst.symm
      simp
      refine callK.mk ent_r2_negative hng ?_
      cases neg with
      | true => simp [txtB, hl0, e1]
      | false => simp [txtB, hl0, e1]
    | c :: d :: r, hs, hst, he =>
      have hl0 : ¬ l = [] := fun e => by have := he.2 e; cases this
      have h1r : (1 : Int) < (r.length : Int) + 1 + 1 := by omega
      have h0r : (0 : Int) < (r.length : Int) + 1 + 1 := by omega
      have h1e : (1 : Int) ≤ (r.length : Int) + 1 + 1 := by omega
      by_cases h48 : c = 48
      · subst h48
        rw [stripT, if_pos rfl] at hst
        simp [h1r, h0r, h1e]
        exact Again.mk ⟨d :: r, by simp at hs ⊢; omega, hst, by simp [hl0]⟩ (by simp) (by simp)
      · rw [stripT, if_neg h48] at hst
        have h48' : ¬ (c.toNat : Int) = 48 := fun e => h48 (UInt8.toNat_inj.1 (by simpa using e))
        have h48n : ¬ c.toNat = 48 := fun e => h48 (UInt8.toNat_inj.1 (by simpa using e))
        simp [h1r, h0r, h1e, h48, h48', h48n]
        refine callK.mk ent_r2_negative hng ?_
        simp at hs
        cases neg with
        | true =>
          have hsz2 : 1 + (r.length + 1 + 1) ≤ 9223372036854775807 := by omega
          simp [txtB, hl0, ← hst, hsz2]
        | false => simp [txtB, hl0, ← hst]
theorem ent_r8_number : VM.Enters Tryz.prog 56 := VM.Enters.mk Tryz.func56 rfl
theorem r8_number_cs (n : Int) (h : I64 n) : CS Tryz.prog G 56 [.int .i64 n] (.d (.str (Lib.itoa n))) none := by
  have hI := h
  unfold I64 at hI
  have hb : n.natAbs < 10000 ^ 5 := by omega
  have hOf := r2_Of_cs (G := G) n h
  have hnil : bigF 5 n.natAbs = [] → decide (n < 0) = false := fun e => by
    rw [bigF] at e
    split at e
    · rename_i h0
      simp
      omega
    · cases e
  have hT := r2_Text_cs (G := G) (decide (n < 0)) (bigF 5 n.natAbs) (bigF_len 5 _) (bigF_lt 5 _) (bigF_last 5 _ hb) hnil
  have e : txtB (decide (n < 0)) (bigF 5 n.natAbs) = Lib.itoa n := by
    unfold txtB Lib.itoa
    by_cases h0 : n.natAbs = 0
    · have : n = 0 := by omega
      subst this
      simp [bigF, dd_small]
    · rw [if_neg (by rw [bigF_step h0]; simp), strip_dd hb h0]
      by_cases hn : n < 0
      · rw [if_pos (by simpa using hn), if_pos hn]
      · rw [if_neg (by simpa using hn), if_neg hn, show n.toNat = n.natAbs by omega]
  rw [e] at hT
  refine CS.of_VK Tryz.func56 rfl Tryz.ntmps56 rfl ?_
  simp
  refine callK.mk ent_r2_Of hOf ?_
  simp
  refine callK.mk ent_r2_Text hT ?_
  simp
end Go.Proofs.YtlglfkdjlbcpjaaGreatDoor
end

section
set_option linter.unusedVariables false
set_option linter.unusedSimpArgs false
set_option linter.unusedSectionVars false
namespace Go.Proofs.YtlglfkdjlbcpjaaGreatDoor
open Go Go.VM
set_option maxRecDepth 100000
set_option maxHeartbeats 8000000
variable {G : GT}
theorem join_step {xs : List (List UInt8)} {sep : List UInt8} {i : Nat} (h : i < xs.length) : Lib.join (xs.take (i + 1)) sep = (if 0 < i then Lib.join (xs.take i) sep ++ sep else []) ++ xs[i] := by
  cases xs with
  | nil => simp at h
  | cons x r =>
    cases i with
    | zero => simp [Lib.join_cons, Lib.joinTail]
    | succ k =>
      have hk : k < r.length := by simpa using h
      rw [if_pos (by omega), List.take_succ_cons, List.take_succ_cons, Lib.join_cons, Lib.join_cons, Lib.joinTail_take_succ sep r k r[k] (by simp [hk])]
      simp [List.append_assoc]
theorem join_take_le (xs : List (List UInt8)) (sep : List UInt8) (i : Nat) : (Lib.join (xs.take i) sep).length ≤ (Lib.join xs sep).length := by
  cases xs with
  | nil => simp
  | cons x r =>
    cases i with
    | zero => simp [Lib.join_nil]
    | succ k =>
      rw [List.take_succ_cons, Lib.join_cons, Lib.join_cons]
      have := Lib.joinTail_take_le sep r k
      simp
      omega
theorem ent_r8_level : VM.Enters Tryz.prog 55 := VM.Enters.mk Tryz.func55 rfl
theorem r8_level_gen (op : Int) (nm : Nm) (n : Int) (es : List (List D)) : CS Tryz.prog G 55 [.agg [.int .i64 op, .str nm, .int .i64 n, .sl es]] (.d (.int .i64 (levN op))) none := by
  refine CS.of_VK Tryz.func55 rfl Tryz.ntmps55 rfl ?_
  simp
  by_cases h18 : op = 18
  · simp [h18, levN, frN]
  by_cases h17 : op = 17
  · simp [h17, levN, frN]
  by_cases h16 : op = 16
  · simp [h16, levN, frN]
  by_cases h15 : op = 15
  · simp [h15, levN, frN]
  by_cases h14 : op = 14
  · simp [h14, levN, frN]
  by_cases h10 : op = 10
  · simp [h10, levN, frN]
  by_cases h11 : op = 11
  · simp [h11, levN, frN]
  by_cases h12 : op = 12
  · simp [h12, levN, frN]
  by_cases h13 : op = 13
  · simp [h13, levN, frN]
  by_cases h6 : op = 6
  · simp [h6, levN, frN]
  by_cases h7 : op = 7
  · simp [h7, levN, frN]
  by_cases h8 : op = 8
  · simp [h8, levN, frN]
  by_cases h9 : op = 9
  · simp [h9, levN, frN]
  simp [h18, h17, h16, h15, h14, h10, h11, h12, h13, h6, h7, h8, h9, levN, frN]
theorem r8_level_cs (p : Pr) : CS Tryz.prog G 55 [.agg (prD p)] (.d (.int .i64 (levN p.op))) none := r8_level_gen p.op p.name p.n _
theorem ent_r8_sign : VM.Enters Tryz.prog 59 := VM.Enters.mk Tryz.func59 rfl
theorem r8_sign_cs {op : Int} {lv l r : Nat} {s : List UInt8} (hf : frN op = some (lv, l, r, s)) (h17 : op ≠ 17) : CS Tryz.prog G 59 [.int .i64 op] (.d (.str s)) none := by
  refine CS.of_VK Tryz.func59 rfl Tryz.ntmps59 rfl ?_
  simp
  rcases frN_cases hf with ⟨rfl, hq⟩ | ⟨rfl, hq⟩ | ⟨rfl, hq⟩ | ⟨rfl, hq⟩ | ⟨rfl, hq⟩ | ⟨rfl, hq⟩ | ⟨rfl, hq⟩ | ⟨rfl, hq⟩ | ⟨rfl, hq⟩ | ⟨rfl, hq⟩ | ⟨rfl, hq⟩ <;> cases hq <;> first | exact absurd rfl h17 | simp
theorem ent_r8_text : VM.Enters Tryz.prog 33 := VM.Enters.mk Tryz.func33 rfl
theorem ent_r8_kid : VM.Enters Tryz.prog 58 := VM.Enters.mk Tryz.func58 rfl
theorem ent_r8_list : VM.Enters Tryz.prog 57 := VM.Enters.mk Tryz.func57 rfl
/-- The reference's text. -/
def BtC (G : GT) (p : Pr) : Prop := CS Tryz.prog G 33 [.agg (prD p)] (.d (.str (bdO oT p))) none
theorem r8_kid_cs {p : Pr} (h : BtC G p) (k : Nat) (hs : (bdO oT p).length ≤ 800000000) : CS Tryz.prog G 58 [.agg (prD p), .int .i64 k] (.d (.str (prtO oT p k))) none := by
  have hlv := r8_level_cs (G := G) p
  by_cases hl : k ≤ levN p.op
  · rw [prtO_lo _ hl]
    have hlt : ¬ levN p.op < k := by omega
    refine CS.of_VK Tryz.func58 rfl Tryz.ntmps58 rfl ?_
    simp
    refine callK.mk ent_r8_level hlv ?_
    simp [hlt]
    refine callK.mk ent_r8_text h ?_
    simp
  · have e : prtO oT p k = [40] ++ (bdO oT p ++ [41]) := prtO_hi _ (by omega)
    rw [e]
    have hlt : levN p.op < k := by omega
    have hs1 : 1 + (bdO oT p).length ≤ 9223372036854775807 := by omega
    have hs2 : 1 + (bdO oT p).length + 1 ≤ 9223372036854775807 := by omega
    refine CS.of_VK Tryz.func58 rfl Tryz.ntmps58 rfl ?_
    simp
    refine callK.mk ent_r8_level hlv ?_
    simp [hlt]
    refine callK.mk ent_r8_text h ?_
    simp [hs1, hs2]
    repeat (refine stepK_len (by first | omega | (simp; omega)) ?_; simp)
theorem prt_ge (p : Pr) (k : Nat) : (bdO oT p).length ≤ (prtO oT p k).length := by
  by_cases h : k ≤ levN p.op
  · rw [prtO_lo _ h]; exact Nat.le_refl _
  · rw [prtO_hi _ (by omega)]
    simp [outT_sg]
    omega
theorem r8_list_cs (ks : List Pr) (hk : ∀ k ∈ ks, BtC G k) (hl : ks.length ≤ 100000) (hs : (listO oT (ks.map (prtO oT))).length ≤ 900000000) : CS Tryz.prog G 57 [.sl (ks.map prC)] (.d (.str (listO oT (ks.map (prtO oT))))) none := by
  have he : listO oT (ks.map (prtO oT)) = [40] ++ (Lib.join (ks.map (bdO oT)) [44, 32] ++ [41]) := by
    unfold listO
    rw [List.map_map, ← commas_join]
    have : ((fun f : Nat → List UInt8 => f 1) ∘ prtO oT) = bdO oT := by
      funext p
      exact prtO_lo _ (levN_le _).1
    rw [this]
    rfl
  rw [he] at hs ⊢
  have hjl : (Lib.join (ks.map (bdO oT)) [44, 32]).length ≤ 900000000 := by
    simp only [List.length_append] at hs
    omega
  refine CS.of_VK Tryz.func57 rfl Tryz.ntmps57 rfl ?_
  simp
  refine SW.loopF (ι := { i : Nat // i ≤ ks.length }) (fun i => [(3, .d (.str ([40] ++ Lib.join ((ks.map (bdO oT)).take i.1) [44, 32]))), (4, .d (.int .i64 i.1))]) (fun _ => []) (fun _ => []) (fun i => ks.length - i.1) ⟨0, by simp⟩ (by simp [Lib.join_nil]) ?_
  rintro ⟨i, hi⟩
  by_cases hlt : i < ks.length
  · have hg := prs_get hlt
    have hw := wrap64s (show i < 9223372036854775807 by omega)
    have hc := hk ks[i] (List.getElem_mem hlt)
    have hst := join_step (xs := ks.map (bdO oT)) (sep := [44, 32]) (i := i) (by simpa using hlt)
    have hle := join_take_le (ks.map (bdO oT)) [44, 32] (i + 1)
    rw [hst] at hle
    obtain ⟨J, hJ⟩ : ∃ J, Lib.join ((ks.map (bdO oT)).take i) [44, 32] = J := ⟨_, rfl⟩
    have hJ2 : Lib.join ((List.map (bdO oT) (ks.take i))) [44, 32] = J := by rw [← hJ, List.map_take]
    by_cases h0 : 0 < i
    · rw [if_pos h0, hJ] at hst hle
      simp at hst hle
      simp [hlt, hg, h0, hJ, hJ2]
      repeat (refine stepK_len (by first | omega | (simp; omega)) ?_; simp [hlt, hg])
      refine callK.mk ent_r8_text hc ?_
      simp
      repeat (refine stepK_len (by first | omega | (simp; omega)) ?_; simp)
      exact Again.mk ⟨i + 1, hlt⟩ (by simp [hw, hst]) (by simp; omega)
    · have hi0 : i = 0 := by omega
      subst hi0
      rw [if_neg h0] at hst hle
      simp at hst hle
      simp [hlt, hg, Lib.join_nil]
      refine callK.mk ent_r8_text hc ?_
      simp
      repeat (refine stepK_len (by first | omega | (simp; omega)) ?_; simp)
      exact Again.mk ⟨0 + 1, hlt⟩ (by simp [hst]; exact hw.symm) (by simp; omega)
  · have : i = ks.length := by omega
    subst this
    have hfull : (ks.map (bdO oT)).take ks.length = ks.map (bdO oT) := List.take_of_length_le (by simp)
    simp
    try rw [hfull]
    repeat (refine stepK_len (by first | omega | (simp; omega)) ?_; simp)
/-! ### All forms -/
theorem bt_int {n : Int} (h1 : -1000000000000 ≤ n) (h2 : n ≤ 1000000000000) : BtC G ⟨1, [], n, []⟩ := by
  have hI := r8_number_cs (G := G) n ⟨by omega, by omega⟩
  have hlv := r8_level_gen (G := G) 1 [] n []
  unfold BtC
  have hd := dd_small13 (n := n.natAbs) (by omega)
  by_cases hn : n < 0
  · have e : bdO oT ⟨1, [], n, []⟩ = [40] ++ (([45] ++ Lib.decDigits n.natAbs) ++ [41]) := by
      show (if n < 0 then _ else _) = _
      rw [if_pos hn]
      simp [outT]
    have hi : Lib.itoa n = [45] ++ Lib.decDigits n.natAbs := by unfold Lib.itoa; rw [if_pos hn]; rfl
    rw [hi] at hI
    rw [e]
    refine CS.of_VK Tryz.func33 rfl Tryz.ntmps33 rfl ?_
    simp
    refine callK.mk ent_r8_level hlv ?_
    simp [hn]
    refine callK.mk ent_r8_number hI ?_
    simp
    repeat (refine stepK_len (by first | omega | (simp; omega)) ?_; simp)
  · have e : bdO oT ⟨1, [], n, []⟩ = Lib.decDigits n.natAbs := by
      show (if n < 0 then _ else _) = _
      rw [if_neg hn]
      rfl
    have hi : Lib.itoa n = Lib.decDigits n.natAbs := by unfold Lib.itoa; rw [if_neg hn, show n.toNat = n.natAbs by omega]
    rw [hi] at hI
    rw [e]
    refine CS.of_VK Tryz.func33 rfl Tryz.ntmps33 rfl ?_
    simp
    refine callK.mk ent_r8_level hlv ?_
    simp [hn]
    refine callK.mk ent_r8_number hI ?_
    simp
theorem bt_boo {n : Int} (hn : n = 0 ∨ n = 1) : BtC G ⟨2, [], n, []⟩ := by
  have hlv := r8_level_gen (G := G) 2 [] n []
  unfold BtC
  refine CS.of_VK Tryz.func33 rfl Tryz.ntmps33 rfl ?_
  simp
  refine callK.mk ent_r8_level hlv ?_
  rcases hn with rfl | rfl
  · simp [bdO, bodyO, frN, outT]
  · simp [bdO, bodyO, frN, outT]
theorem bt_var {s : List UInt8} : BtC G ⟨3, s, 0, []⟩ := by
  have hlv := r8_level_gen (G := G) 3 s 0 []
  have e : bdO oT ⟨3, s, 0, []⟩ = s := rfl
  unfold BtC
  rw [e]
  refine CS.of_VK Tryz.func33 rfl Tryz.ntmps33 rfl ?_
  simp
  refine callK.mk ent_r8_level hlv ?_
  simp
theorem bt_app {s : List UInt8} {ks : List Pr} (hk : ∀ k ∈ ks, BtC G k) (hl : ks.length ≤ 100000) (hs : (bdO oT ⟨4, s, 0, ks⟩).length ≤ 900000000) : BtC G ⟨4, s, 0, ks⟩ := by
  have hlv := r8_level_gen (G := G) 4 s 0 (ks.map prC)
  have e : bdO oT ⟨4, s, 0, ks⟩ = s ++ listO oT (ks.map (prtO oT)) := rfl
  unfold BtC
  rw [e] at hs ⊢
  have hL := r8_list_cs ks hk hl (by simp at hs; omega)
  simp at hs
  refine CS.of_VK Tryz.func33 rfl Tryz.ntmps33 rfl ?_
  simp
  refine callK.mk ent_r8_level hlv ?_
  simp
  refine ⟨lexOk.mk (by kernel_rfl), ?_⟩
  try simp
  refine callK.mk ent_r8_list hL ?_
  simp
  repeat (refine stepK_len (by first | omega | (simp; omega)) ?_; simp)
theorem bt_hole {s : List UInt8} {ks : List Pr} (hk : ∀ k ∈ ks, BtC G k) (hl : ks.length ≤ 100000) (hs : (bdO oT ⟨5, s, 0, ks⟩).length ≤ 900000000) : BtC G ⟨5, s, 0, ks⟩ := by
  have hlv := r8_level_gen (G := G) 5 s 0 (ks.map prC)
  have e : bdO oT ⟨5, s, 0, ks⟩ = [63] ++ (s ++ listO oT (ks.map (prtO oT))) := rfl
  unfold BtC
  rw [e] at hs ⊢
  have hL := r8_list_cs ks hk hl (by simp at hs; omega)
  simp at hs
  refine CS.of_VK Tryz.func33 rfl Tryz.ntmps33 rfl ?_
  simp
  refine callK.mk ent_r8_level hlv ?_
  simp
  refine ⟨lexOk.mk (by kernel_rfl), ?_⟩
  try simp
  repeat (refine stepK_len (by first | omega | (simp; omega)) ?_; simp)
  refine callK.mk ent_r8_list hL ?_
  simp
  repeat (refine stepK_len (by first | omega | (simp; omega)) ?_; simp)
theorem bt_not {a : Pr} (ha : BtC G a) (hs : (bdO oT ⟨14, [], 0, [a]⟩).length ≤ 700000000) : BtC G ⟨14, [], 0, [a]⟩ := by
  have e : bdO oT ⟨14, [], 0, [a]⟩ = [33] ++ prtO oT a 5 := rfl
  unfold BtC
  rw [e] at hs ⊢
  simp at hs
  have hge := prt_ge a 5
  have hK := r8_kid_cs ha 5 (by omega)
  refine CS.of_VK Tryz.func33 rfl Tryz.ntmps33 rfl ?_
  simp
  refine callK.mk ent_r8_level (r8_level_gen _ _ _ _) ?_
  simp [levN]
  refine callK.mk ent_r8_kid hK ?_
  simp
  repeat (refine stepK_len (by first | omega | (simp; omega)) ?_; simp)
theorem bt_neg {a : Pr} (ha : BtC G a) (hs : (bdO oT ⟨9, [], 0, [a]⟩).length ≤ 700000000) : BtC G ⟨9, [], 0, [a]⟩ := by
  have e : bdO oT ⟨9, [], 0, [a]⟩ = [45] ++ prtO oT a 9 := rfl
  unfold BtC
  rw [e] at hs ⊢
  simp at hs
  have hge := prt_ge a 9
  have hK := r8_kid_cs ha 9 (by omega)
  refine CS.of_VK Tryz.func33 rfl Tryz.ntmps33 rfl ?_
  simp
  refine callK.mk ent_r8_level (r8_level_gen _ _ _ _) ?_
  simp [levN]
  refine callK.mk ent_r8_kid hK ?_
  simp
  repeat (refine stepK_len (by first | omega | (simp; omega)) ?_; simp)
theorem bt_two {op : Int} {lv l r : Nat} {s : List UInt8} {a b : Pr} (hf : frN op = some (lv, l, r, s)) (ha : BtC G a) (hb : BtC G b) (hs : (bdO oT ⟨op, [], 0, [a, b]⟩).length ≤ 700000000) : BtC G ⟨op, [], 0, [a, b]⟩ := by
  have e : bdO oT ⟨op, [], 0, [a, b]⟩ = prtO oT a l ++ ([32] ++ (s ++ ([32] ++ prtO oT b r))) := bdO_two oT hf rfl
  unfold BtC
  rw [e] at hs ⊢
  simp at hs
  by_cases h17 : op = 17
  · subst h17
    cases hf
    have hge1 := prt_ge a 3
    have hge2 := prt_ge b 2
    have hK1 := r8_kid_cs ha 3 (by omega)
    have hK2 := r8_kid_cs hb 2 (by omega)
    refine CS.of_VK Tryz.func33 rfl Tryz.ntmps33 rfl ?_
    simp
    refine callK.mk ent_r8_level (r8_level_gen _ _ _ _) ?_
    simp [levN, frN]
    refine ⟨lexOk.mk (by kernel_rfl), ?_⟩
    try simp
    refine callK.mk ent_r8_kid hK1 ?_
    simp
    repeat (refine stepK_len (by first | omega | (simp; omega)) ?_; simp)
    refine callK.mk ent_r8_kid hK2 ?_
    simp
    repeat (refine stepK_len (by first | omega | (simp; omega)) ?_; simp)
  have hsg := r8_sign_cs (G := G) hf h17
  rcases frN_cases hf with ⟨rfl, hq⟩ | ⟨rfl, hq⟩ | ⟨rfl, hq⟩ | ⟨rfl, hq⟩ | ⟨rfl, hq⟩ | ⟨rfl, hq⟩ | ⟨rfl, hq⟩ | ⟨rfl, hq⟩ | ⟨rfl, hq⟩ | ⟨rfl, hq⟩ | ⟨rfl, hq⟩ <;> cases hq
  · skip
    have hge1 := prt_ge a 1
    have hge2 := prt_ge b 2
    have hK1 := r8_kid_cs ha 1 (by omega)
    have hK2 := r8_kid_cs hb 2 (by omega)
    refine CS.of_VK Tryz.func33 rfl Tryz.ntmps33 rfl ?_
    simp
    refine callK.mk ent_r8_level (r8_level_gen _ _ _ _) ?_
    simp [levN, frN]
    refine ⟨lexOk.mk (by kernel_rfl), ?_⟩
    try simp
    refine callK.mk ent_r8_kid hK1 ?_
    simp
    repeat (refine stepK_len (by first | omega | (simp; omega)) ?_; simp)
    refine callK.mk ent_r8_sign hsg ?_
    simp
    repeat (refine stepK_len (by first | omega | (simp; omega)) ?_; simp)
    refine callK.mk ent_r8_kid hK2 ?_
    simp
    repeat (refine stepK_len (by first | omega | (simp; omega)) ?_; simp)
  · exact absurd rfl h17
  · skip
    have hge1 := prt_ge a 3
    have hge2 := prt_ge b 4
    have hK1 := r8_kid_cs ha 3 (by omega)
    have hK2 := r8_kid_cs hb 4 (by omega)
    refine CS.of_VK Tryz.func33 rfl Tryz.ntmps33 rfl ?_
    simp
    refine callK.mk ent_r8_level (r8_level_gen _ _ _ _) ?_
    simp [levN, frN]
    refine ⟨lexOk.mk (by kernel_rfl), ?_⟩
    try simp
    refine callK.mk ent_r8_kid hK1 ?_
    simp
    repeat (refine stepK_len (by first | omega | (simp; omega)) ?_; simp)
    refine callK.mk ent_r8_sign hsg ?_
    simp
    repeat (refine stepK_len (by first | omega | (simp; omega)) ?_; simp)
    refine callK.mk ent_r8_kid hK2 ?_
    simp
    repeat (refine stepK_len (by first | omega | (simp; omega)) ?_; simp)
  · skip
    have hge1 := prt_ge a 4
    have hge2 := prt_ge b 5
    have hK1 := r8_kid_cs ha 4 (by omega)
    have hK2 := r8_kid_cs hb 5 (by omega)
    refine CS.of_VK Tryz.func33 rfl Tryz.ntmps33 rfl ?_
    simp
    refine callK.mk ent_r8_level (r8_level_gen _ _ _ _) ?_
    simp [levN, frN]
    refine ⟨lexOk.mk (by kernel_rfl), ?_⟩
    try simp
    refine callK.mk ent_r8_kid hK1 ?_
    simp
    repeat (refine stepK_len (by first | omega | (simp; omega)) ?_; simp)
    refine callK.mk ent_r8_sign hsg ?_
    simp
    repeat (refine stepK_len (by first | omega | (simp; omega)) ?_; simp)
    refine callK.mk ent_r8_kid hK2 ?_
    simp
    repeat (refine stepK_len (by first | omega | (simp; omega)) ?_; simp)
  · skip
    have hge1 := prt_ge a 7
    have hge2 := prt_ge b 7
    have hK1 := r8_kid_cs ha 7 (by omega)
    have hK2 := r8_kid_cs hb 7 (by omega)
    refine CS.of_VK Tryz.func33 rfl Tryz.ntmps33 rfl ?_
    simp
    refine callK.mk ent_r8_level (r8_level_gen _ _ _ _) ?_
    simp [levN, frN]
    refine ⟨lexOk.mk (by kernel_rfl), ?_⟩
    try simp
    refine callK.mk ent_r8_kid hK1 ?_
    simp
    repeat (refine stepK_len (by first | omega | (simp; omega)) ?_; simp)
    refine callK.mk ent_r8_sign hsg ?_
    simp
    repeat (refine stepK_len (by first | omega | (simp; omega)) ?_; simp)
    refine callK.mk ent_r8_kid hK2 ?_
    simp
    repeat (refine stepK_len (by first | omega | (simp; omega)) ?_; simp)
  · skip
    have hge1 := prt_ge a 7
    have hge2 := prt_ge b 7
    have hK1 := r8_kid_cs ha 7 (by omega)
    have hK2 := r8_kid_cs hb 7 (by omega)
    refine CS.of_VK Tryz.func33 rfl Tryz.ntmps33 rfl ?_
    simp
    refine callK.mk ent_r8_level (r8_level_gen _ _ _ _) ?_
    simp [levN, frN]
    refine ⟨lexOk.mk (by kernel_rfl), ?_⟩
    try simp
    refine callK.mk ent_r8_kid hK1 ?_
    simp
    repeat (refine stepK_len (by first | omega | (simp; omega)) ?_; simp)
    refine callK.mk ent_r8_sign hsg ?_
    simp
    repeat (refine stepK_len (by first | omega | (simp; omega)) ?_; simp)
    refine callK.mk ent_r8_kid hK2 ?_
    simp
    repeat (refine stepK_len (by first | omega | (simp; omega)) ?_; simp)
  · skip
    have hge1 := prt_ge a 7
    have hge2 := prt_ge b 7
    have hK1 := r8_kid_cs ha 7 (by omega)
    have hK2 := r8_kid_cs hb 7 (by omega)
    refine CS.of_VK Tryz.func33 rfl Tryz.ntmps33 rfl ?_
    simp
    refine callK.mk ent_r8_level (r8_level_gen _ _ _ _) ?_
    simp [levN, frN]
    refine ⟨lexOk.mk (by kernel_rfl), ?_⟩
    try simp
    refine callK.mk ent_r8_kid hK1 ?_
    simp
    repeat (refine stepK_len (by first | omega | (simp; omega)) ?_; simp)
    refine callK.mk ent_r8_sign hsg ?_
    simp
    repeat (refine stepK_len (by first | omega | (simp; omega)) ?_; simp)
    refine callK.mk ent_r8_kid hK2 ?_
    simp
    repeat (refine stepK_len (by first | omega | (simp; omega)) ?_; simp)
  · skip
    have hge1 := prt_ge a 7
    have hge2 := prt_ge b 7
    have hK1 := r8_kid_cs ha 7 (by omega)
    have hK2 := r8_kid_cs hb 7 (by omega)
    refine CS.of_VK Tryz.func33 rfl Tryz.ntmps33 rfl ?_
    simp
    refine callK.mk ent_r8_level (r8_level_gen _ _ _ _) ?_
    simp [levN, frN]
    refine ⟨lexOk.mk (by kernel_rfl), ?_⟩
    try simp
    refine callK.mk ent_r8_kid hK1 ?_
    simp
    repeat (refine stepK_len (by first | omega | (simp; omega)) ?_; simp)
    refine callK.mk ent_r8_sign hsg ?_
    simp
    repeat (refine stepK_len (by first | omega | (simp; omega)) ?_; simp)
    refine callK.mk ent_r8_kid hK2 ?_
    simp
    repeat (refine stepK_len (by first | omega | (simp; omega)) ?_; simp)
  · skip
    have hge1 := prt_ge a 7
    have hge2 := prt_ge b 8
    have hK1 := r8_kid_cs ha 7 (by omega)
    have hK2 := r8_kid_cs hb 8 (by omega)
    refine CS.of_VK Tryz.func33 rfl Tryz.ntmps33 rfl ?_
    simp
    refine callK.mk ent_r8_level (r8_level_gen _ _ _ _) ?_
    simp [levN, frN]
    refine ⟨lexOk.mk (by kernel_rfl), ?_⟩
    try simp
    refine callK.mk ent_r8_kid hK1 ?_
    simp
    repeat (refine stepK_len (by first | omega | (simp; omega)) ?_; simp)
    refine callK.mk ent_r8_sign hsg ?_
    simp
    repeat (refine stepK_len (by first | omega | (simp; omega)) ?_; simp)
    refine callK.mk ent_r8_kid hK2 ?_
    simp
    repeat (refine stepK_len (by first | omega | (simp; omega)) ?_; simp)
  · skip
    have hge1 := prt_ge a 7
    have hge2 := prt_ge b 8
    have hK1 := r8_kid_cs ha 7 (by omega)
    have hK2 := r8_kid_cs hb 8 (by omega)
    refine CS.of_VK Tryz.func33 rfl Tryz.ntmps33 rfl ?_
    simp
    refine callK.mk ent_r8_level (r8_level_gen _ _ _ _) ?_
    simp [levN, frN]
    refine ⟨lexOk.mk (by kernel_rfl), ?_⟩
    try simp
    refine callK.mk ent_r8_kid hK1 ?_
    simp
    repeat (refine stepK_len (by first | omega | (simp; omega)) ?_; simp)
    refine callK.mk ent_r8_sign hsg ?_
    simp
    repeat (refine stepK_len (by first | omega | (simp; omega)) ?_; simp)
    refine callK.mk ent_r8_kid hK2 ?_
    simp
    repeat (refine stepK_len (by first | omega | (simp; omega)) ?_; simp)
  · skip
    have hge1 := prt_ge a 8
    have hge2 := prt_ge b 9
    have hK1 := r8_kid_cs ha 8 (by omega)
    have hK2 := r8_kid_cs hb 9 (by omega)
    refine CS.of_VK Tryz.func33 rfl Tryz.ntmps33 rfl ?_
    simp
    refine callK.mk ent_r8_level (r8_level_gen _ _ _ _) ?_
    simp [levN, frN]
    refine ⟨lexOk.mk (by kernel_rfl), ?_⟩
    try simp
    refine callK.mk ent_r8_kid hK1 ?_
    simp
    repeat (refine stepK_len (by first | omega | (simp; omega)) ?_; simp)
    refine callK.mk ent_r8_sign hsg ?_
    simp
    repeat (refine stepK_len (by first | omega | (simp; omega)) ?_; simp)
    refine callK.mk ent_r8_kid hK2 ?_
    simp
    repeat (refine stepK_len (by first | omega | (simp; omega)) ?_; simp)
theorem text8_all {p : Pr} (h : WfP nmP p) : nodP p ≤ 100000 → BtC G p := by
  have hb : ∀ {q : Pr}, WfP nmP q → nodP q ≤ 100000 → (bdO oT q).length ≤ 700000000 := fun hq hn => by
    have := bd_len (fun s hs => (nm_ok hs).2.2) hq
    omega
  induction h with
  | int n h1 h2 => exact fun _ => bt_int h1 h2
  | boo n h => exact fun _ => bt_boo h
  | var s h => exact fun _ => bt_var
  | app s ks h h1 h2 ih =>
    intro hn
    have hB := hb (.app s ks h h1 h2) hn
    have hl := len_le_nod ks
    simp only [nodP] at hn
    exact bt_app (fun k hk => ih k hk (by have := nod_mem hk; omega)) (by omega) (by omega)
  | hole s ks h h1 h2 ih =>
    intro hn
    have hB := hb (.hole s ks h h1 h2) hn
    have hl := len_le_nod ks
    simp only [nodP] at hn
    exact bt_hole (fun k hk => ih k hk (by have := nod_mem hk; omega)) (by omega) (by omega)
  | neg a h ih =>
    intro hn
    have hB := hb (.neg a h) hn
    simp only [nodP, nodPs] at hn
    exact bt_neg (ih (by omega)) hB
  | not a h ih =>
    intro hn
    have hB := hb (.not a h) hn
    simp only [nodP, nodPs] at hn
    exact bt_not (ih (by omega)) hB
  | two op lv l r s a b hf ha hb' iha ihb =>
    intro hn
    have hB := hb (.two op lv l r s a b hf ha hb') hn
    simp only [nodP, nodPs] at hn
    exact bt_two hf (iha (by omega)) (ihb (by omega)) hB
theorem ent_r8_Text : VM.Enters Tryz.prog 12 := VM.Enters.mk Tryz.func12 rfl
theorem r8_Text_cs (p : Pr) (hN : nodP p ≤ 1000000) : CS Tryz.prog G 12 [.agg (prD p)] (txtR p) none := by
  have hck := r7_Check_cs (G := G) p (by omega)
  unfold txtR
  refine CS.of_VK Tryz.func12 rfl Tryz.ntmps12 rfl ?_
  simp
  refine callK.mk ent_r7_Check hck ?_
  by_cases h0 : chkE p = 0
  · have hT := text8_all (G := G) (wf_chk h0) (by have := (chk_zero h0).1; omega)
    simp [h0]
    refine callK.mk ent_r8_text hT ?_
    simp
  · simp [h0]
end Go.Proofs.YtlglfkdjlbcpjaaGreatDoor
end
