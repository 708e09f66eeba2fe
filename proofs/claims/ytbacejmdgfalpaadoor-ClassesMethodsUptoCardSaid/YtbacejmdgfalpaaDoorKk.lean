/- The examples' modules: what they are, and that a slice in them is nobody else's; the walks. No condition. -/
import Derived.Test.YtbacejmdgfalpaaDoorKj
import Derived.Test.YtbacejmdgfalpaaDoorZV
set_option linter.unusedVariables false
set_option linter.unusedSimpArgs false
set_option linter.unusedSectionVars false
namespace Go.VM
open Go Go.RowKit
section
variable {P : Program} {G : GT} {st : St}
/-- A region whose order is drawn, the first m operations by the machine, the rest by a law, at the level of worlds. -/
theorem region_tail_wp {id : Nat} {ops : Array Oper} {m : Nat} {T : St → Prop} {QQ : Exit → Act → World → Prop} (hS : noGuard ops m = true) (hm : P.follows .mixedOrders = true) (hB : lexDE ops m = true) (hF : freshB ops st = true) (h : VOps P G true ops (ops.toList.take m) st T)
    {base : Base} {R : Nat → Nat → Prop} {μ : Nat → Nat} {a : Act} {w : World} (hr : Rel P G base R μ st a w)
    (hT : ∀ s a' w' R' μ', T s → Rel P G base R' μ' s a' w' → Step base R w R' w' → wpAny P .any ops QQ (ops.size - m) (listedTo m ops.size) a' w') : (Code.region id ops true).wp P QQ a w := by
  obtain ⟨hr', hs'⟩ := hr.drew
  unfold lexDE at hB
  rw [Bool.and_eq_true, Bool.and_eq_true, Bool.and_eq_true, decide_eq_true_eq] at hB
  obtain ⟨⟨hN, hmle, hTA⟩, hB⟩ := hB
  rw [Bool.or_eq_true, List.isEmpty_iff, Bool.and_eq_true, List.all_eq_true, decide_eq_true_eq] at hN
  have mem : ∀ {i oi d}, ops[i]? = some oi → isNew oi = true → oi.dst = some d → d ∈ newKeys ops := fun hi hn hd => List.mem_filterMap.2 ⟨_, by rw [Array.mem_toList_iff]; exact Array.mem_of_getElem? hi, by rw [if_pos hn]; exact hd⟩
  have hA : NewApart ops := fun i j oi oj d hi hj hni hnj hdi hdj => by
    rcases hN with hN | ⟨_, hN⟩
    · have := mem hi hni hdi; rw [hN] at this; cases this
    · exact nodup_at (l := ops.toList) (f := fun o => if isNew o then o.dst else none) hN i j (by simpa using hi) (by simpa using hj) (by rw [if_pos hni]; exact hdi) (by rw [if_pos hnj]; exact hdj)
  have hI : NewInv ops (Array.replicate ops.size false) st := fun j oj d hj hn _ hd => List.all_eq_true.1 hF d (mem hj hn hd)
  have hlen : (ops.toList.take m).length = m := by simp; omega
  have h1 := VAnyE_lex (P := P) (G := G) hTA hA (hN.imp (fun h => h) (fun h => h.1)) (ops.toList.take m) 0 (Array.replicate ops.size false) st (by rw [hlen]; omega) (fun j hj => by
    rw [hlen] at hj
    rw [List.getElem?_take, if_pos hj]
    simp) (fun k hk => by
    rcases Nat.lt_or_ge k ops.size with h' | h'
    · simp [h'] at hk
    · simp [Nat.not_lt.2 h'] at hk) hI (by rw [hlen]; exact hB) h
  rw [hlen] at h1
  have hS2 : ∀ i, i < m → ∃ o, ops[i]? = some o ∧ ops[i]? = some o ∧ o.guard = none := fun i hi => by
    have hg := List.all_eq_true.1 hS i (List.mem_range.2 hi)
    split at hg
    · rename_i o ho
      exact ⟨o, ho, ho, by simpa using hg⟩
    · cases hg
  refine wp_region_any hm ?_
  have h2 := VAnyE_cross (r := ops.size - m) (QQ := QQ) (⟨rfl, fun _ => rfl⟩ : sameWait ops ops) hS2 m _ st h1 base R μ a w.drew hr' fun s a' w' R' μ' q1 q2 q3 =>
    hT s a' w' R' μ' q1 q2 (hs'.trans q3)
  rw [show m + (ops.size - m) = ops.size by omega] at h2
  exact h2
/-- A slice literal, at the level of worlds. -/
theorem buildSlice_raw {o : Oper} {t e : TypeId} {len : Nat} {parts : Array (Nat × Operand)} {ps : List (Nat × D)} (ho : o.op = .buildSlice t len parts) (he : elemOfD P t = some e) (hps : partsD G st parts.toList = some ps)
    (hok : elemOk P e = true) (hidx : ps.map (·.1) = List.range len) (hall : (ps.all fun p => p.2.cells.length == P.cellsOf e) = true) (hbig : len * P.cellsOf e ≤ 2 ^ 24)
    {base : Base} {R : Nat → Nat → Prop} {μ : Nat → Nat} {a : Act} {w : World} (hr : Rel P G base R μ st a w) :
    ∃ cs : Array Value, (execOp a.eval o).run P w = .ok (.value (.slice (some ⟨w.heap.size, 0, none⟩) len len)) (w.alloc (.cells cs e)) ∧ cs.size = len * P.cellsOf e ∧
      ∀ (i j : Nat) (c : List D) (d : D), (ps.map fun p => p.2.cells)[i]? = some c → c[j]? = some d → d.one = true ∧ ∃ v, cs[i * P.cellsOf e + j]? = some v ∧ V R w v d := by
  obtain ⟨i, z, hi, hsize, hbytes, hpos, hz, hzs⟩ := elemOk_spec hok
  have hu := elemOfD_spec he
  obtain ⟨hl, hp⟩ := partsD_spec hr hps
  have hpl : ps.length = len := by have := congrArg List.length hidx; simpa using this
  have hlen2 : ∀ q ∈ ps, q.2.cells.length = P.cellsOf e := fun q hq => by simpa using List.all_eq_true.1 hall q hq
  have hget : ∀ (i : Nat) (p : Nat × Value), (parts.toList.map fun x => (x.1, a.eval x.2))[i]? = some p → ∃ q, ps[i]? = some q ∧ p.1 = i ∧ V R w p.2 q.2 := fun i p hpi => by
    have hil : i < ps.length := by rw [← hl]; have := (List.getElem?_eq_some_iff.1 hpi).1; simpa using this
    have hq : ps[i]? = some ps[i] := List.getElem?_eq_getElem hil
    obtain ⟨h1, h2⟩ := hp i p ps[i] hpi hq
    refine ⟨ps[i], hq, ?_, h2⟩
    have h3 : (ps.map (·.1))[i]? = (List.range len)[i]? := by rw [hidx]
    rw [List.getElem?_map, hq, List.getElem?_range (by omega)] at h3
    have h4 : ps[i].1 = i := by simpa using h3
    omega
  obtain ⟨cs', q1, q2, _, q4⟩ := fill_seq (P.cellsOf e) (parts.toList.map fun x => (x.1, a.eval x.2)) 0 ((Array.range (len * P.cellsOf e)).map fun i => (if len * P.cellsOf e = 0 then (#[] : Array Value) else z.cells)[i % (if len * P.cellsOf e = 0 then (#[] : Array Value) else z.cells).size]!)
    (fun i p hpi => by
      obtain ⟨q, hq, h1, h2⟩ := hget i p hpi
      exact ⟨by omega, by rw [h2.cells.1, hlen2 q (List.mem_of_getElem? hq)]⟩) (by simp [hl, hpl])
  have hcsz : cs'.size = len * P.cellsOf e := by rw [q2]; simp
  refine ⟨cs', ?_, hcsz, fun i j c d hi hj => ?_⟩
  · have hbig' : ¬ (len * P.cellsOf e > 2 ^ 24) := by omega
    have hpar : (parts.map fun (x : Nat × Operand) => (x.1, a.eval x.2)).toList = parts.toList.map fun x => (x.1, a.eval x.2) := by simp
    have hso := info_ok (P := P) (t := e) (by rw [hi]; rfl) w
    by_cases h0 : len * P.cellsOf e = 0
    · simp only [h0, if_true] at q1
      simp only [execOp, ho, Instr.buildSlice, Sem.run_bind, run_underlying hu, Result.andThen_ok, hso, h0, gt_iff_lt, Nat.not_lt_zero, if_false, if_true, Sem.run_pure, hpar, q1, newRow]
      rfl
    · simp only [h0, if_false] at q1
      simp only [execOp, ho, Instr.buildSlice, Sem.run_bind, run_underlying hu, Result.andThen_ok, hso, if_neg hbig', h0, if_false, Sem.run_pure, zeroValue, typeInfo, hi, hz, hpar, q1, newRow, run_program]
      rfl
  · simp only [List.getElem?_map, Option.map_eq_some_iff] at hi
    obtain ⟨q, hq, rfl⟩ := hi
    have hil : i < parts.toList.length := by rw [hl]; exact (List.getElem?_eq_some_iff.1 hq).1
    have hpi : (parts.toList.map fun x => (x.1, a.eval x.2))[i]? = some ((parts.toList[i]).1, a.eval (parts.toList[i]).2) := by rw [List.getElem?_map, List.getElem?_eq_getElem hil]; rfl
    obtain ⟨_, hv⟩ := hp i _ q hpi hq
    obtain ⟨v1, v2⟩ := hv.cells
    have hjl : j < q.2.cells.length := (List.getElem?_eq_some_iff.1 hj).1
    obtain ⟨h1, h2⟩ := v2 j d hj
    have := q4 i j _ hpi (by rw [← hlen2 q (List.mem_of_getElem? hq)]; exact hjl)
    rw [Nat.zero_add] at this
    refine ⟨h1, _, ?_, h2⟩
    rw [this]
    have hjs : j < (a.eval (parts.toList[i]).2).cells.size := by rw [v1]; exact hjl
    rw [Array.getD_eq_getD_getElem?, Array.getElem?_eq_getElem hjs]; rfl
end
end Go.VM
namespace Go.Proofs.YtbacejmdgfalpaaDoor
open Go Go.VM
set_option maxRecDepth 100000
set_option maxHeartbeats 8000000
variable {G : GT}
theorem range1 : List.range 1 = [0] := rfl
theorem ent_l25_a : VM.Enters Tryd.prog 43 := VM.Enters.mk Tryd.func43 rfl
theorem l25_a_cs : CS Tryd.prog G 43 [] (.d (.agg (tyD ⟨5, [97], [], [], ⟨0, [], 0, []⟩, []⟩))) none := by
  refine CS.of_VK Tryd.func43 rfl Tryd.ntmps43 rfl ?_
  simp
theorem ent_l25_integer : VM.Enters Tryd.prog 30 := VM.Enters.mk Tryd.func30 rfl
theorem l25_integer_cs : CS Tryd.prog G 30 [] (.d (.agg (tyD ⟨1, [], [], [], ⟨0, [], 0, []⟩, []⟩))) none := by
  refine CS.of_VK Tryd.func30 rfl Tryd.ntmps30 rfl ?_
  simp
theorem ent_l25_list : VM.Enters Tryd.prog 29 := VM.Enters.mk Tryd.func29 rfl
theorem l25_list_cs (t : Ty) : CS Tryd.prog G 29 [.agg (tyD t)] (.d (.agg (tyD ⟨4, [76, 105, 115, 116], [t], [], ⟨0, [], 0, []⟩, []⟩))) none := by
  refine CS.of_VK Tryd.func29 rfl Tryd.ntmps29 rfl ?_
  simp [range1]
def dfX (nm : Nm) : Df := ⟨nm, [[120], [121]], .int .i64 0, .str [], .int .i64 0, .sl [], .sl [], .sl [], .sl [], .int .i64 0, .bool false, .sl [], [], .sl [], .sl [], zeroTy, .sl []⟩
theorem ent_l25_method : VM.Enters Tryd.prog 44 := VM.Enters.mk Tryd.func44 rfl
theorem l25_method_cs (nm : Nm) : CS Tryd.prog G 44 [.str nm] (.d (.sl ([dfX nm].map dfC))) none := by
  refine CS.of_VK Tryd.func44 rfl Tryd.ntmps44 rfl ?_
  simp [range1, dfX, strs]
abbrev tA : Ty := ⟨5, [97], [], [], ⟨0, [], 0, []⟩, []⟩
abbrev tI : Ty := ⟨1, [], [], [], ⟨0, [], 0, []⟩, []⟩
abbrev tBo : Ty := ⟨2, [], [], [], ⟨0, [], 0, []⟩, []⟩
abbrev tL (t : Ty) : Ty := ⟨4, [76, 105, 115, 116], [t], [], ⟨0, [], 0, []⟩, []⟩
abbrev tEq : Ty := ⟨6, [], [tA, tA, tBo], [], ⟨0, [], 0, []⟩, []⟩
def clX : Cl := ⟨[69, 113], [97], [⟨[101, 113], tEq⟩]⟩
def in1 : In := ⟨[69, 113], tI, [], [dfX [101, 113]]⟩
def in2 : In := ⟨[69, 113], tL tA, [([69, 113], [97])], [dfX [101, 113]]⟩
def moX (l : List In) : Mo := ⟨.sl [], [clX], l, .sl [], .sl [], []⟩
theorem ent_l25_lists : VM.Enters Tryd.prog 28 := VM.Enters.mk Tryd.func28 rfl
theorem l25_lists_cs : CS Tryd.prog G 28 [] (.d (.agg (moC (moX [in1, in2])))) none := by
  have hA := l25_a_cs (G := G)
  have hI := l25_integer_cs (G := G)
  have hM := l25_method_cs (G := G) [101, 113]
  have hL := l25_list_cs (G := G) tA
  simp at hA hI hM hL
  refine CS.of_VK Tryd.func28 rfl Tryd.ntmps28 rfl ?_
  simp
  refine callK.mk ent_l25_a hA ?_
  simp
  refine callK.mk ent_l25_a hA ?_
  simp
  refine ⟨lexOk.mk (by kernel_rfl), ?_⟩
  refine callK.mk ent_l25_integer hI ?_
  simp
  refine callK.mk ent_l25_method hM ?_
  simp
  refine callK.mk ent_l25_a hA ?_
  simp
  refine callK.mk ent_l25_list hL ?_
  simp [range1]
  refine callK.mk ent_l25_method hM ?_
  simp [range1, range2, moX, clX, in1, in2, dfX, strs]
end Go.Proofs.YtbacejmdgfalpaaDoor
