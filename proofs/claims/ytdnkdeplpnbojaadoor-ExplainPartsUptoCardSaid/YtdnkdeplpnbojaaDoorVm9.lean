/- The abstract machine on plain data: slice expressions, look-ups in maps. No condition. -/
import Derived.Test.YtdnkdeplpnbojaaDoorVm8
set_option linter.unusedVariables false
set_option linter.unusedSimpArgs false
set_option linter.unusedSectionVars false
namespace Go.VM
open Go Go.RowKit

section
variable {P : Program} {G : GT} {st : St} {out : Out}
variable {base : Nat} {R : Nat → Nat → Prop} {μ : Nat → Nat} {a : Act} {w : World}

theorem run_sliceAt_sl {t e : TypeId} (hu : P.underlying t = some (.slice e)) (ao : Option Addr) (len cap : Nat) (lo hi mx : Option Value) :
    (Instr.sliceAt t (.slice ao len cap) lo hi mx).run P w = ((Instr.sliceBounds true len cap lo hi mx).run P w).andThen fun b w' => ((sizeOf e).run P w').andThen fun s w'' => .ok (.slice (if b.2.2 = b.1 then ao else ao.map (·.add (b.1 * s))) (b.2.1 - b.1) (b.2.2 - b.1)) w'' := by
  simp only [Instr.sliceAt, Instr.slice, Sem.run_bind, run_underlying hu, Result.andThen_ok, Sem.run_pure]

theorem zero_bounds (hr : Rel P G base R μ st a w) (len cap : Nat) {lo hi : Option Operand} {m : Operand} (h1 : lo.isNone = true) (h2 : optBound G st hi 1 0 = some 0) (h3 : optBound G st (some m) 1 0 = some 0) :
    (Instr.sliceBounds true len cap (lo.map a.eval) (hi.map a.eval) ((some m).map a.eval)).run P w = .ok (0, 0, 0) w := by
  have hh := optBound_spec hr h2
  have hm := optBound_spec hr h3
  have hlo : lo = none := by cases lo <;> simp_all
  subst hlo
  rcases hh with ⟨_, h⟩ | ⟨k, hk, _⟩
  · cases h
  · rcases hm with ⟨h, _⟩ | ⟨k', hk', _⟩
    · cases h
    · rw [hk, hk']
      simp [Instr.sliceBounds, Instr.sliceBound, asIntOf]

theorem vSlice_ok {o : Oper} {t : TypeId} {x : Operand} {lo hi mx : Option Operand} (ho : o.op = .slice t x lo hi mx) (h : vSlice P G t x lo hi mx st = some out) : OpOk P G o st out := by
  unfold vSlice at h
  split at h
  · rename_i s hu hx
    simp only [Option.bind_eq_some_iff, Option.map_eq_some_iff] at h
    obtain ⟨hh, h1, l, h2, rfl⟩ := h
    refine opOk_pure fun base R μ a w hr => ?_
    have hb := run_bounds (P := P) (w := w) false s.length s.length l hh _ _ (Nat.le_refl _) (optBound_spec hr h1) (optBound_spec hr h2)
    refine ⟨.string ⟨((s.take hh).drop l).toArray⟩, ?_, .d _ _ (.str _), trivial⟩
    simp [execOp, ho, hr.evalStr hx, run_sliceAt_string (P := P) w t _ _ _ _ hu, Instr.slice, run_underlying hu, bytes_size, hb.1, str_extract]
  · rename_i e es hu hx
    split at h
    · rename_i hc
      simp only [Option.bind_eq_some_iff, Option.map_eq_some_iff] at h
      obtain ⟨hh, h1, l, h2, rfl⟩ := h
      refine opOk_pure fun base R μ a w hr => ?_
      have hv := hr.evalD hx
      obtain ⟨ao, cap, he, hcap, _⟩ := hv.sl_inv
      obtain ⟨hb, hlh, hhl⟩ := run_bounds (P := P) (w := w) true es.length cap l hh _ _ hcap (optBound_spec hr h1) (optBound_spec hr h2)
      rw [he] at hv
      refine ⟨_, ?_, .d _ _ (hv.sub l hh (P.cellsOf e) hlh hhl hcap (fun c hc' => by simpa using List.all_eq_true.1 hc.2 c hc')), trivial⟩
      simp only [execOp, ho, Sem.run_bind, he, run_sliceAt_sl hu, Option.map_none, hb, Result.andThen_ok, info_ok (info_of_cells hc.1) w, Sem.run_pure]
    · cases h
  · rename_i e hu hx
    split at h
    · rename_i hc
      simp only [Option.bind_eq_some_iff, Option.map_eq_some_iff] at h
      obtain ⟨hh, h1, l, h2, rfl⟩ := h
      refine opOk_pure fun base R μ a w hr => ?_
      obtain ⟨ao, he⟩ := (hr.evalD hx).nils_inv
      obtain ⟨hb, hlh, hhl⟩ := run_bounds (P := P) (w := w) true 0 0 l hh _ _ (Nat.le_refl _) (optBound_spec hr h1) (optBound_spec hr h2)
      have h0 : hh = 0 := by omega
      have h0' : l = 0 := by omega
      subst h0 h0'
      refine ⟨.slice ao 0 0, ?_, .d _ _ (.nils _), trivial⟩
      simp [execOp, ho, he, run_sliceAt_sl hu, hb, info_ok (info_of_cells hc) w]
    · cases h
  · rename_i e es m hu hx
    split at h
    · rename_i hc
      simp only [Option.some.injEq] at h; subst h
      refine opOk_pure fun base R μ a w hr => ?_
      obtain ⟨ao, cap, he, _⟩ := (hr.evalD hx).sl_inv
      have hb := zero_bounds hr es.length cap hc.2.1 hc.2.2.1 hc.2.2.2
      refine ⟨.slice ao 0 0, ?_, .d _ _ (.nils _), trivial⟩
      simp only [execOp, ho, Sem.run_bind, he, run_sliceAt_sl hu, hb, Result.andThen_ok, info_ok (info_of_cells hc.1) w, Sem.run_pure, if_true, Nat.sub_self]
    · cases h
  · rename_i e m hu hx
    split at h
    · rename_i hc
      simp only [Option.some.injEq] at h; subst h
      refine opOk_pure fun base R μ a w hr => ?_
      obtain ⟨ao, he⟩ := (hr.evalD hx).nils_inv
      have hb := zero_bounds hr 0 0 hc.2.1 hc.2.2.1 hc.2.2.2
      refine ⟨.slice ao 0 0, ?_, .d _ _ (.nils _), trivial⟩
      simp only [execOp, ho, Sem.run_bind, he, run_sliceAt_sl hu, hb, Result.andThen_ok, info_ok (info_of_cells hc.1) w, Sem.run_pure, if_true, Nat.sub_self]
    · cases h
  · cases h

/-! ### Maps -/

theorem sameNow_ok {d : TypeDesc} {p q : D} {u v : Value} {r : Bool} (hu : V R w u p) (hv : V R w v q) (hf : fitDesc d p = true) (h : eqCell p q = some r) : Instr.sameNow d u v = some r := by
  unfold eqCell at h
  split at h
  · obtain rfl := hu.int_inv
    obtain rfl := hv.int_inv
    split at h <;> simp at h
    rename_i hkk; subst hkk h
    cases d <;> simp [fitDesc] at hf
    simp [Instr.sameNow]
  · obtain rfl := hu.str_inv
    obtain rfl := hv.str_inv
    simp at h; subst h
    cases d <;> simp [fitDesc] at hf
    simp [Instr.sameNow, str_beq]
  · obtain rfl := hu.bool_inv
    obtain rfl := hv.bool_inv
    simp at h; subst h
    cases d <;> simp [fitDesc] at hf
    simp [Instr.sameNow]
  · cases h

/-- The entries of a map. -/
def Ents (R : Nat → Nat → Prop) (w : World) (l : List MapEntry) (es : List (D × D)) : Prop := l.length = es.length ∧ ∀ (i : Nat) (e : MapEntry) (k v : D), l[i]? = some e → es[i]? = some (k, v) → V R w e.key k ∧ V R w e.val v

theorem Ents.of_obj {ents : Array MapEntry} {es : List (D × D)} (h1 : ents.size = es.length) (h2 : ∀ (i : Nat) (k v : D), es[i]? = some (k, v) → V R w ((ents.getD i default).key) k ∧ V R w ((ents.getD i default).val) v) : Ents R w ents.toList es :=
  ⟨by simpa using h1, fun i e k v he hk => by
    have := h2 i k v hk
    have hg : ents.getD i default = e := by
      have : ents[i]? = some e := by simpa using he
      simp [Array.getD_eq_getD_getElem?, this]
    rwa [hg] at this⟩
theorem Ents.tail {e : MapEntry} {l : List MapEntry} {x : D × D} {es : List (D × D)} (h : Ents R w (e :: l) (x :: es)) : Ents R w l es :=
  ⟨by simpa using h.1, fun i e' k v he hk => h.2 (i + 1) e' k v (by simpa using he) (by simpa using hk)⟩

theorem findNow_ok {d : TypeDesc} {k : D} {u : Value} (hu : V R w u k) (hf : fitDesc d k = true) : ∀ (l : List MapEntry) (es : List (D × D)) (n : Nat) (r : Option D), Ents R w l es → findKeyD k es = some r →
    (r = none ∧ Instr.findNow d u l n = some none) ∨ ∃ (i : Nat) (e : MapEntry) (k' v : D), r = some v ∧ Instr.findNow d u l n = some (some (n + i, e.val)) ∧ l[i]? = some e ∧ es[i]? = some (k', v)
  | [], [], n, r, _, h => by simp [findKeyD] at h; subst h; exact .inl ⟨rfl, rfl⟩
  | [], _ :: _, _, _, he, _ => by simp [Ents] at he
  | _ :: _, [], _, _, he, _ => by simp [Ents] at he
  | e :: l, (k', v') :: es, n, r, he, h => by
    have h0 := he.2 0 e k' v' rfl rfl
    simp only [findKeyD] at h
    split at h
    · rename_i hq
      simp at h; subst h
      exact .inr ⟨0, e, k', v', rfl, by simp [Instr.findNow, sameNow_ok hu h0.1 hf hq], rfl, rfl⟩
    · rename_i hq
      rcases findNow_ok hu hf l es (n + 1) r he.tail h with ⟨h1, h2⟩ | ⟨i, e', k1, v1, h1, h2, h3, h4⟩
      · exact .inl ⟨h1, by simp [Instr.findNow, sameNow_ok hu h0.1 hf hq, h2]⟩
      · exact .inr ⟨i + 1, e', k1, v1, h1, by simp [Instr.findNow, sameNow_ok hu h0.1 hf hq, h2]; omega, by simpa using h3, by simpa using h4⟩
    · cases h

theorem mapOf_spec {t k e : TypeId} (h : mapOf P t = some (k, e)) : P.underlying t = some (.map k e) ∧ ∃ d, P.underlying k = some d ∧ scalarDesc d = true := by
  unfold mapOf at h
  split at h
  · rename_i k' e' hu
    split at h
    · rename_i d hd
      split at h <;> simp at h
      rename_i hs
      obtain ⟨rfl, rfl⟩ := h
      exact ⟨hu, d, hd, hs⟩
    · cases h
  · cases h

theorem run_checkKey_scalar {k : TypeId} {d : TypeDesc} (hd : P.underlying k = some d) (hs : scalarDesc d = true) (em : Bool) (n : Nat) (v : Value) : (Instr.checkKey em (n + 1) k v).run P w = .ok () w := by
  unfold Instr.checkKey
  simp only [Sem.run_bind, run_underlying hd, Result.andThen_ok]
  cases d <;> simp [scalarDesc] at hs <;> rfl

theorem keyFits_spec {k : TypeId} {d : TypeDesc} {x : D} (hd : P.underlying k = some d) (h : keyFits P k x = true) : fitDesc d x = true := by
  simpa [keyFits, hd] using h

theorem run_findKey_ok {k : TypeId} {d : TypeDesc} (hd : P.underlying k = some d) {u : Value} {l : List MapEntry} {r : Option (Nat × Value)} (h : Instr.findNow d u l 0 = some r) : (Instr.findKey k u l).run P w = .ok r w := by
  simp [Instr.findKey, run_underlying hd, h]

theorem vLookup_ok {o : Oper} {t : TypeId} {m k : Operand} {ok : Bool} (ho : o.op = .lookup t m k ok) (h : vLookup P G t m k ok st = some out) : OpOk P G o st out := by
  unfold vLookup at h
  split at h
  · rename_i kt e key kk hm hx hk
    split at h
    · rename_i es z hg hz hf
      simp only [Option.map_eq_some_iff] at h
      obtain ⟨r, hfind, rfl⟩ := h
      obtain ⟨hu, d, hd, hs⟩ := mapOf_spec hm
      refine opOk_pure fun base R μ a w hr => ?_
      obtain ⟨_, _, ents, clock, hh, hsz, hev⟩ := hr.objs key _ hg
      have hE := Ents.of_obj hsz hev
      have hzv : ∃ zv, (zeroValue e).run P w = .ok zv w ∧ V R w zv z := by
        unfold zeroValD at hz
        cases hi : P.info? e with
        | none => simp [hi] at hz
        | some i =>
          cases hz0 : i.zero with
          | none => simp [hi, hz0] at hz
          | some zv =>
            simp [hi, hz0] at hz
            have ht := ofConst_TV (R := R) (μ := μ) (w := w) zv
            unfold isD at hz
            split at hz <;> simp at hz
            rename_i q hq
            subst hz
            rw [hq] at ht
            exact ⟨zv, by simp [zeroValue, typeInfo, hi, hz0], ht.dinv⟩
      obtain ⟨zv, hz1, hz2⟩ := hzv
      have fin : ∀ (v : Value) (b : Bool), V R w v (r.getD z) → r.isSome = b → ∃ x, (if ok then Value.tuple #[v, .bool b] else v) = x ∧ TV R μ w x (if ok then .tup [r.getD z, .bool r.isSome] else .d (r.getD z)) := fun v b hv hb => by
        refine ⟨_, rfl, ?_⟩
        cases ok
        · exact .d _ _ hv
        · refine .tup _ _ rfl (fun i d hi => ?_)
          match i, hi with
          | 0, hi => simp at hi; subst hi; exact hv
          | 1, hi => simp at hi; subst hi; subst hb; exact .bool _
          | n + 2, hi => simp at hi
      rcases findNow_ok (hr.evalD hk) (keyFits_spec hd hf) ents.toList es 0 r hE hfind with ⟨rfl, h1⟩ | ⟨i, en, k', v, rfl, h1, h2, h3⟩
      · obtain ⟨x, hx1, hx2⟩ := fin zv false hz2 rfl
        refine ⟨x, ?_, hx2, trivial⟩
        simp [execOp, ho, Instr.lookup, run_underlying hu, hr.evalMp hx, run_getMap (P := P) hh, run_checkKey_scalar (P := P) (w := w) hd hs, run_findKey_ok (P := P) (w := w) hd h1, hz1, ← hx1]
      · obtain ⟨x, hx1, hx2⟩ := fin en.val true (hE.2 i en k' v h2 h3).2 rfl
        refine ⟨x, ?_, hx2, trivial⟩
        simp [execOp, ho, Instr.lookup, run_underlying hu, hr.evalMp hx, run_getMap (P := P) hh, run_checkKey_scalar (P := P) (w := w) hd hs, run_findKey_ok (P := P) (w := w) hd h1, ← hx1]
    · cases h
  · cases h
end
end Go.VM
