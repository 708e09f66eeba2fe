/- Joined texts. The abstract machine on plain data: weaker states, loops, a function's contract, the stack of code that simp runs. The abstract machine on plain data: what simp runs the machine by. No condition. -/
import Derived.Test.YtcmpodbjhoeblaaDoorZ2
set_option linter.unusedVariables false
set_option linter.unusedSimpArgs false
set_option linter.unusedSectionVars false
namespace Go.VM
open Go Go.RowKit

/-! ### Weaker states -/

def WkT : List DV → List DV → Prop
  | [], [] => True
  | d :: ds, d' :: ds' => (d' = .undef ∨ d' = d ∨ (d = .d .nils ∧ d' = .d (.sl []))) ∧ WkT ds ds'
  | _, _ => False
def WkO : AObj → AObj → Prop
  | .cells cs, .cells cs' => WkT cs cs'
  | o, o' => o' = o
def WkH (H : List (Nat × AObj)) : List (Nat × AObj) → Prop
  | [] => True
  | (k, o') :: r => (∃ o, getKey k H = some o ∧ WkO o o') ∧ WkH H r
def isNil (s : St) : Loc → Bool
  | .t i => match s.tmps[i]? with
    | some (.d .nils) => true
    | _ => false
  | .c k off => match getKey k s.H with
    | some (.cells cs) => (match cs[off]? with
      | some (.d .nils) => true
      | _ => false)
    | some (.bld _ u _) => !u && off == 1
    | _ => false
def takeCls (c : TypeId × List Loc) : List (TypeId × List Loc) → Option (List (TypeId × List Loc))
  | [] => none
  | c0 :: r => if c0.1 = c.1 ∧ (c.2.all fun l => c0.2.contains l) = true then some r else (takeCls c r).map (c0 :: ·)
def nilCls (s : St) (c : TypeId × List Loc) : Bool :=
  match c.2 with
  | [] => true
  | [l] => isNil s l
  | _ => false
def wkOwn (s : St) : List (TypeId × List Loc) → List (TypeId × List Loc) → Bool
  | _, [] => true
  | own, c :: r => if nilCls s c then wkOwn s own r else match takeCls c own with
    | some own1 => wkOwn s own1 r
    | none => false
def keysIn (H : List (Nat × AObj)) (own : List (TypeId × List Loc)) : Bool := own.all fun c => c.2.all fun l => match l with
  | .c k _ => (getKey k H).isSome
  | _ => true
/-- s' tells no more than s. -/
structure Weak (s s' : St) : Prop where
  tmps : WkT s.tmps s'.tmps
  H : WkH s.H s'.H
  own : wkOwn s s.own s'.own = true
  keys : keysIn s'.H s'.own = true

section
variable {P : Program} {G : GT} {st st' : St}
variable {base : Base} {R : Nat → Nat → Prop} {μ : Nat → Nat} {a : Act} {w : World}

theorem WkT_spec : ∀ {l l' : List DV}, WkT l l' → l'.length = l.length ∧ ∀ (i : Nat) (d' : DV), l'[i]? = some d' → ∃ d, l[i]? = some d ∧ (d' = .undef ∨ d' = d ∨ (d = .d .nils ∧ d' = .d (.sl [])))
  | [], [], _ => by simp
  | [], _ :: _, h => by simp [WkT] at h
  | _ :: _, [], h => by simp [WkT] at h
  | d :: l, d' :: l', h => by
    obtain ⟨h1, h2⟩ := h
    obtain ⟨q1, q2⟩ := WkT_spec h2
    refine ⟨by simp [q1], fun i x hx => ?_⟩
    cases i with
    | zero => simp at hx; subst hx; exact ⟨d, rfl, h1⟩
    | succ i => simp at hx; simpa using q2 i x hx
theorem WkH_spec {H : List (Nat × AObj)} : ∀ {H' : List (Nat × AObj)}, WkH H H' → ∀ (k : Nat) (o' : AObj), getKey k H' = some o' → ∃ o, getKey k H = some o ∧ WkO o o'
  | [], _, k, o', h => by simp [getKey] at h
  | (k1, o1) :: r, hw, k, o', h => by
    obtain ⟨⟨o, h1, h2⟩, h3⟩ := hw
    unfold getKey at h
    split at h
    · rename_i he; simp at h; subst he h; exact ⟨o, h1, h2⟩
    · exact WkH_spec h3 k o' h
theorem WkO_rel {b : Nat} {o o' : AObj} (h : WkO o o') (hr : ObjRel R μ w b o) : ObjRel R μ w b o' := by
  cases o with
  | cells cs =>
    cases o' with
    | cells cs' =>
      obtain ⟨q1, q2⟩ := WkT_spec h
      obtain ⟨vs, T, h1, h2, h3, h4⟩ := hr
      refine ⟨vs, T, h1, by rw [h2, q1], fun i d' hd' => ?_, fun T' hm => ?_⟩
      · obtain ⟨d, hd, hc⟩ := q2 i d' hd'
        obtain ⟨p1, p2⟩ := h3 i d hd
        rcases hc with rfl | rfl | ⟨rfl, rfl⟩
        · exact ⟨rfl, .undef _⟩
        · exact ⟨p1, p2⟩
        · obtain ⟨ao, he⟩ := p2.dinv.nils_inv
          rw [he]
          exact ⟨rfl, .d _ _ (.emp _ _)⟩
      · obtain ⟨i, hi⟩ := List.getElem?_of_mem hm
        obtain ⟨d, hd, hc⟩ := q2 i _ hi
        rcases hc with hc | rfl | ⟨_, hc⟩
        · cases hc
        · exact h4 T' (List.mem_of_getElem? hd)
        · cases hc
    | map es => cases h
    | iter s p => cases h
    | bld T u es => cases h
  | map es => cases o' <;> cases h; exact hr
  | iter s p => cases o' <;> cases h; exact hr
  | bld T u es => cases o' <;> cases h; exact hr

theorem takeCls_spec {c : TypeId × List Loc} : ∀ {own own1 : List (TypeId × List Loc)}, takeCls c own = some own1 → ∃ pre c0 post, own = pre ++ c0 :: post ∧ own1 = pre ++ post ∧ c0.1 = c.1 ∧ ∀ l ∈ c.2, l ∈ c0.2
  | [], own1, h => by simp [takeCls] at h
  | c0 :: r, own1, h => by
    simp only [takeCls] at h
    split at h
    · rename_i hc
      simp at h
      exact ⟨[], c0, r, rfl, h.symm, hc.1, fun l hl => by have := List.all_eq_true.1 hc.2 l hl; simpa using this⟩
    · simp only [Option.map_eq_some_iff] at h
      obtain ⟨r', hr, rfl⟩ := h
      obtain ⟨pre, c', post, h1, h2, h3, h4⟩ := takeCls_spec hr
      exact ⟨c0 :: pre, c', post, by simp [h1], by simp [h2], h3, h4⟩

/-- A list of classes and their slices. -/
structure Own2 (P : Program) (base : Base) (R : Nat → Nat → Prop) (μ : Nat → Nat) (st : St) (a : Act) (w : World) (own : List (TypeId × List Loc)) (vs : List Value) : Prop where
  len : vs.length = own.length
  one : ∀ (i : Nat) (c : TypeId × List Loc) (v : Value), own[i]? = some c → vs[i]? = some v → OwnOne P base R μ st a w c v
  apart : vs.Pairwise Apart

theorem Apart.symm {v v' : Value} (h : Apart v v') : Apart v' v := fun g hg hg' => h g hg' hg

theorem Own2.take {own own1 : List (TypeId × List Loc)} {vs : List Value} {c : TypeId × List Loc} (h : Own2 P base R μ st a w own vs) (ht : takeCls c own = some own1) :
    ∃ v vs1, OwnOne P base R μ st a w c v ∧ Own2 P base R μ st a w own1 vs1 ∧ (∀ x ∈ vs1, x ∈ vs) ∧ v ∈ vs ∧ ∀ x ∈ vs1, Apart v x := by
  obtain ⟨pre, c0, post, rfl, rfl, h3, h4⟩ := takeCls_spec ht
  have hpl : pre.length < vs.length := by rw [h.len]; simp
  have hsplit : vs = vs.take pre.length ++ vs[pre.length] :: vs.drop (pre.length + 1) := by rw [← List.drop_eq_getElem_cons hpl, List.take_append_drop]
  have hc := h.one pre.length c0 vs[pre.length] (by simp) (List.getElem?_eq_getElem hpl)
  have hap := h.apart
  rw [hsplit, List.pairwise_append, List.pairwise_cons] at hap
  refine ⟨vs[pre.length], vs.take pre.length ++ vs.drop (pre.length + 1), ⟨fun l hl => hc.locs l (h4 l hl), by rw [← h3]; exact hc.own, hc.keys⟩, ⟨?_, fun i c' v hc' hv => ?_, ?_⟩, fun x hx => ?_, List.getElem_mem hpl, fun x hx => ?_⟩
  · have := h.len
    simp at this ⊢; omega
  · by_cases hi : i < pre.length
    · refine h.one i c' v ?_ ?_
      · rw [List.getElem?_append_left hi]; simpa [List.getElem?_append_left hi] using hc'
      · rw [List.getElem?_append_left (by simp; omega), List.getElem?_take] at hv
        rw [if_pos hi] at hv; exact hv
    · refine h.one (i + 1) c' v ?_ ?_
      · rw [List.getElem?_append_right (by omega), show i + 1 - pre.length = (i - pre.length) + 1 by omega, List.getElem?_cons_succ]
        simpa [List.getElem?_append_right (Nat.le_of_not_lt hi)] using hc'
      · have hmin : min pre.length vs.length = pre.length := by omega
        rw [List.getElem?_append_right (by simp; omega), List.getElem?_drop] at hv
        simp only [List.length_take, hmin] at hv
        rwa [show pre.length + 1 + (i - pre.length) = i + 1 by omega] at hv
  · rw [List.pairwise_append]
    exact ⟨hap.1, hap.2.1.2, fun x hx y hy => hap.2.2 x hx y (.tail _ hy)⟩
  · simp only [List.mem_append] at hx
    rcases hx with hx | hx
    · exact List.mem_of_mem_take hx
    · exact List.mem_of_mem_drop hx
  · simp only [List.mem_append] at hx
    rcases hx with hx | hx
    · exact (hap.2.2 x hx vs[pre.length] (.head _)).symm
    · exact hap.2.1.1 x hx

theorem isNil_val (hr : Rel P G base R μ st a w) {l : Loc} (h : isNil st l = true) {u : Value} (hu : locVal a w μ l = some u) : ∃ ao, u = .slice ao 0 0 := by
  cases l with
  | t i =>
    simp only [isNil] at h
    split at h
    · rename_i hd; exact (hr.tmps i u _ hu hd).dinv.nils_inv
    · cases h
  | c k off =>
    simp only [isNil] at h
    split at h
    · rename_i cs hk
      split at h
      · rename_i hd
        obtain ⟨_, _, hob⟩ := hr.objs k _ hk
        obtain ⟨_, v, h1, h2⟩ := RunV.of_obj hob off (.d .nils) hd
        simp only [locVal] at hu
        rw [Nat.zero_add, hu] at h1
        cases h1
        exact h2.dinv.nils_inv
      · cases h
    · rename_i T u es hk
      simp only [Bool.and_eq_true, Bool.not_eq_true', beq_iff_eq] at h
      obtain ⟨rfl, rfl⟩ := h
      obtain ⟨_, _, v0, v1, T', q1, q2, _⟩ := hr.objs k _ hk
      simp only [locVal] at hu
      rw [cell_of_row w _ _ _ T' (0, 0) q1] at hu
      have := (q2 rfl).2
      subst this
      simp at hu
      exact ⟨none, hu.symm⟩
    · cases h

theorem wkOwn_ok (hr : Rel P G base R μ st a w) : ∀ (own' own : List (TypeId × List Loc)) (vs : List Value), Own2 P base R μ st a w own vs → wkOwn st own own' = true →
    ∃ vs', Own2 P base R μ st a w own' vs' ∧ ∀ v ∈ vs', spareBlk v = none ∨ v ∈ vs
  | [], own, vs, _, _ => ⟨[], ⟨rfl, by simp, .nil⟩, by simp⟩
  | c :: r, own, vs, h, hw => by
    unfold wkOwn at hw
    split at hw
    · rename_i hn
      obtain ⟨vs', h1, h2⟩ := wkOwn_ok hr r own vs h hw
      -- the class's slice: nothing
      have hex : ∃ v, OwnOne P base R μ st a w c v ∧ spareBlk v = none := by
        by_cases hx : ∃ l ∈ c.2, ∃ u, locVal a w μ l = some u
        · obtain ⟨l, hl, u, hu⟩ := hx
          unfold nilCls at hn
          split at hn
          · rename_i he; rw [he] at hl; cases hl
          · rename_i l' he
            rw [he] at hl
            simp at hl; subst hl
            obtain ⟨ao, rfl⟩ := isNil_val hr hn hu
            have hs : spareBlk (.slice ao 0 0) = none := by cases ao <;> rfl
            exact ⟨.slice ao 0 0, ⟨fun l2 hl2 u2 hu2 => by rw [he] at hl2; simp at hl2; subst hl2; rw [hu] at hu2; exact (Option.some.inj hu2).symm, .inl ⟨ao, rfl⟩, fun k o _ => by rw [hs]; simp⟩, hs⟩
          · cases hn
        · exact ⟨.slice none 0 0, ⟨fun l hl u hu => absurd ⟨l, hl, u, hu⟩ hx, .inl ⟨none, rfl⟩, fun k o _ => by simp [spareBlk]⟩, rfl⟩
      obtain ⟨v, hv1, hv2⟩ := hex
      refine ⟨v :: vs', ⟨by simp [h1.len], fun i c' u hc hu => ?_, List.pairwise_cons.2 ⟨fun x _ g hg => (by rw [hv2] at hg; cases hg), h1.apart⟩⟩, fun x hx => ?_⟩
      · cases i with
        | zero => simp at hc hu; subst hc hu; exact hv1
        | succ i => simp at hc hu; exact h1.one i c' u hc hu
      · simp at hx
        rcases hx with rfl | hx
        · exact .inl hv2
        · exact h2 x hx
    · split at hw
      · rename_i own1 ht
        obtain ⟨v, vs1, q1, q2, q3, q4, q5⟩ := h.take ht
        obtain ⟨vs', h1, h2⟩ := wkOwn_ok hr r own1 vs1 q2 hw
        refine ⟨v :: vs', ⟨by simp [h1.len], fun i c' u hc hu => ?_, List.pairwise_cons.2 ⟨fun x hx => ?_, h1.apart⟩⟩, fun x hx => ?_⟩
        · cases i with
          | zero => simp at hc hu; subst hc hu; exact q1
          | succ i => simp at hc hu; exact h1.one i c' u hc hu
        · rcases h2 x hx with hs | hx'
          · exact fun g _ hg' => by rw [hs] at hg'; cases hg'
          · exact q5 x hx'
        · simp at hx
          rcases hx with rfl | hx
          · exact .inr q4
          · rcases h2 x hx with hs | hx'
            · exact .inl hs
            · exact .inr (q3 x hx')
      · cases hw

theorem Rel.weak (hr : Rel P G base R μ st a w) (h : Weak st st') : Rel P G base R μ st' a w := by
  obtain ⟨h1, h2⟩ := WkT_spec h.tmps
  have h3 := WkH_spec h.H
  refine ⟨hr.defers, by rw [hr.size, h1], fun i v d' hv hd' => ?_, fun k o' hk => ?_, fun k k' o o' hk hk' he => ?_, fun c hc k off hl => ?_, ?_, hr.glob, hr.rset, hr.base, hr.pass⟩
  · obtain ⟨d, hd, hc⟩ := h2 i d' hd'
    have := hr.tmps i v d hv hd
    rcases hc with rfl | rfl | ⟨rfl, rfl⟩
    · exact .undef _
    · exact this
    · obtain ⟨ao, rfl⟩ := this.dinv.nils_inv
      exact .d _ _ (.emp _ _)
  · obtain ⟨o, ho, hw⟩ := h3 k o' hk
    obtain ⟨q1, q2, q3⟩ := hr.objs k o ho
    exact ⟨q1, q2, WkO_rel hw q3⟩
  · obtain ⟨o1, ho1, _⟩ := h3 k o hk
    obtain ⟨o2, ho2, _⟩ := h3 k' o' hk'
    exact hr.inj k k' o1 o2 ho1 ho2 he
  · have := List.all_eq_true.1 h.keys c hc
    have := List.all_eq_true.1 this _ hl
    exact Option.isSome_iff_exists.1 this
  · obtain ⟨vs, hvs⟩ := hr.own
    obtain ⟨vs', hv', _⟩ := wkOwn_ok hr st'.own st.own vs ⟨hvs.len, hvs.one, hvs.apart⟩ h.own
    refine ⟨vs', hv'.len, fun i c v hc hv => ?_, hv'.apart⟩
    have ho := hv'.one i c v hc hv
    exact ⟨ho.locs, ho.own, fun k o hk => by obtain ⟨o1, ho1, _⟩ := h3 k o hk; exact ho.keys k o1 ho1⟩

theorem SW.weak {c : Code} {Q : Exit → St → Prop} (h : Weak st st') (hw : SW P G c st' Q) : SW P G c st Q := fun base R μ a w hr => hw base R μ a w (hr.weak h)

/-- A LOOP: at the head of each round the state is one of a family; a number goes down. -/
theorem SW.loop {ι : Type} {c : Code} {Q : Exit → St → Prop} (I : ι → St) (m : ι → Nat) (x0 : ι) (h0 : Weak st (I x0))
    (round : ∀ x, VW P G c (I x) fun e s => match e with
      | .normal => ∃ y, Weak s (I y) ∧ m y < m x
      | e => Q e s) : SW P G (.loop c) st Q := by
  intro base R μ a w hr
  refine wp_loop_ghost (fun n a1 w1 => ∃ x R1 μ1, m x = n ∧ Rel P G base R1 μ1 (I x) a1 w1 ∧ Step base R w R1 w1) (m x0) ⟨x0, R, μ, rfl, hr.weak h0, .refl _ _ _⟩ ?_
  rintro n a1 w1 ⟨x, R1, μ1, rfl, hr1, hs1⟩
  refine wp_mono (VW_ok c (I x) _ (round x) base R1 μ1 a1 w1 hr1) fun e a2 w2 ⟨s, R2, μ2, q, hr2, hs2⟩ => ?_
  cases e with
  | normal =>
    obtain ⟨y, hy, hlt⟩ := q
    exact ⟨m y, hlt, y, R2, μ2, rfl, hr2.weak hy, hs1.trans hs2⟩
  | _ => exact ⟨s, R2, μ2, q, hr2, hs1.trans hs2⟩

/-! ### Coarser readings: a nil slice is an empty one -/

inductive WkD : D → D → Prop
  | refl (d : D) : WkD d d
  | nils : WkD .nils (.sl [])
  | agg (cs cs' : List D) : cs.length = cs'.length → (∀ (i : Nat) (d d' : D), cs[i]? = some d → cs'[i]? = some d' → WkD d d') → WkD (.agg cs) (.agg cs')
  | sl (es es' : List (List D)) : es.length = es'.length → (∀ (i : Nat) (e e' : List D), es[i]? = some e → es'[i]? = some e' → e.length = e'.length) →
      (∀ (i j : Nat) (e e' : List D) (d d' : D), es[i]? = some e → es'[i]? = some e' → e[j]? = some d → e'[j]? = some d' → WkD d d') → WkD (.sl es) (.sl es')
def WkL (l l' : List D) : Prop := l.length = l'.length ∧ ∀ (i : Nat) (d d' : D), l[i]? = some d → l'[i]? = some d' → WkD d d'
def WkLL (l l' : List (List D)) : Prop := l.length = l'.length ∧ ∀ (i : Nat) (d d' : List D), l[i]? = some d → l'[i]? = some d' → WkL d d'
theorem WkL_nil : WkL [] [] = True := by simp [WkL]
theorem WkL_cons (a b : D) (l l' : List D) : WkL (a :: l) (b :: l') = (WkD a b ∧ WkL l l') := by
  apply propext
  constructor
  · rintro ⟨h1, h2⟩
    exact ⟨h2 0 a b rfl rfl, by simpa using h1, fun i d d' q q' => h2 (i + 1) d d' q q'⟩
  · rintro ⟨h0, h1, h2⟩
    refine ⟨by simp [h1], fun i d d' q q' => ?_⟩
    cases i with
    | zero => simp at q q'; subst q q'; exact h0
    | succ i => exact h2 i d d' q q'
theorem WkLL_nil : WkLL [] [] = True := by simp [WkLL]
theorem WkLL_cons (a b : List D) (l l' : List (List D)) : WkLL (a :: l) (b :: l') = (WkL a b ∧ WkLL l l') := by
  apply propext
  constructor
  · rintro ⟨h1, h2⟩
    exact ⟨h2 0 a b rfl rfl, by simpa using h1, fun i d d' q q' => h2 (i + 1) d d' q q'⟩
  · rintro ⟨h0, h1, h2⟩
    refine ⟨by simp [h1], fun i d d' q q' => ?_⟩
    cases i with
    | zero => simp at q q'; subst q q'; exact h0
    | succ i => exact h2 i d d' q q'
theorem WkL_refl (l : List D) : WkL l l = True := by
  simp only [WkL, eq_iff_iff, iff_true]
  exact ⟨trivial, fun i d d' h h' => by rw [h] at h'; cases h'; exact .refl _⟩
theorem WkLL_refl (l : List (List D)) : WkLL l l = True := by
  simp only [WkLL, eq_iff_iff, iff_true]
  exact ⟨trivial, fun i d d' h h' => by rw [h] at h'; cases h'; rw [WkL_refl]; trivial⟩
theorem WkD_refl (d : D) : WkD d d = True := by simp [WkD.refl]
theorem WkD_nils : WkD .nils (.sl []) = True := by simp [WkD.nils]
theorem WkD_agg (cs cs' : List D) : WkD (.agg cs) (.agg cs') = WkL cs cs' := by
  apply propext
  constructor
  · intro h
    cases h with
    | refl => rw [WkL_refl]; trivial
    | agg _ _ h1 h2 => exact ⟨h1, h2⟩
  · rintro ⟨h1, h2⟩; exact .agg _ _ h1 h2
theorem WkD_sl (cs cs' : List (List D)) : WkD (.sl cs) (.sl cs') = WkLL cs cs' := by
  apply propext
  constructor
  · intro h
    cases h with
    | refl => rw [WkLL_refl]; trivial
    | sl _ _ h1 h2 h3 => exact ⟨h1, fun i e e' q q' => ⟨h2 i e e' q q', fun j d d' p p' => h3 i j e e' d d' q q' p p'⟩⟩
  · rintro ⟨h1, h2⟩; exact .sl _ _ h1 (fun i e e' q q' => (h2 i e e' q q').1) (fun i j e e' d d' q q' p p' => (h2 i e e' q q').2 j d d' p p')
theorem WkD_int (k k' : IntKind) (n n' : Int) : WkD (.int k n) (.int k' n') = (k = k' ∧ n = n') := by
  apply propext
  constructor
  · intro h; cases h; exact ⟨rfl, rfl⟩
  · rintro ⟨rfl, rfl⟩; exact .refl _
theorem WkD_bool (a b : Bool) : WkD (.bool a) (.bool b) = (a = b) := by
  apply propext
  constructor
  · intro h; cases h; rfl
  · rintro rfl; exact .refl _
theorem WkD_str (a b : List UInt8) : WkD (.str a) (.str b) = (a = b) := by
  apply propext
  constructor
  · intro h; cases h; rfl
  · rintro rfl; exact .refl _
theorem WkD.one {d d' : D} (h : WkD d d') : d'.one = d.one := by cases h <;> rfl
theorem V.wk {R : Nat → Nat → Prop} {w : World} {v : Value} {d : D} (h : V R w v d) : ∀ {d' : D}, WkD d d' → V R w v d' := by
  induction h with
  | int k n => intro d' hd; cases hd; exact .int k n
  | bool b => intro d' hd; cases hd; exact .bool b
  | str s => intro d' hd; cases hd; exact .str s
  | nils ao =>
    intro d' hd
    cases hd with
    | refl => exact .nils ao
    | nils => exact .emp ao 0
  | emp ao cap =>
    intro d' hd
    cases hd with
    | refl => exact .emp ao cap
    | sl _ es' h1 _ _ =>
      have : es' = [] := List.eq_nil_of_length_eq_zero (by simpa using h1.symm)
      subst this
      exact .emp ao cap
  | sl b o n cap size es f h1 h2 h3 h4 h5 h6 h7 ih =>
    intro d' hd
    cases hd with
    | refl => exact .sl b o n cap size es f h1 h2 h3 h4 h5 h6 h7
    | sl _ es' q1 q2 q3 =>
      have pre : ∀ (i : Nat) (e' : List D), es'[i]? = some e' → ∃ e, es[i]? = some e := fun i e' he' => by
        have hi : i < es'.length := (List.getElem?_eq_some_iff.1 he').1
        exact ⟨es[i]'(by omega), List.getElem?_eq_getElem (by omega)⟩
      have pre2 : ∀ (i j : Nat) (e' : List D) (d' : D), es'[i]? = some e' → e'[j]? = some d' → ∃ e d, es[i]? = some e ∧ e[j]? = some d ∧ WkD d d' := fun i j e' d' he' hd' => by
        obtain ⟨e, he⟩ := pre i e' he'
        have hl := q2 i e e' he he'
        have hj : j < e'.length := (List.getElem?_eq_some_iff.1 hd').1
        have hjd : e[j]? = some (e[j]'(by omega)) := List.getElem?_eq_getElem (by omega)
        exact ⟨e, _, he, hjd, q3 i j e e' _ d' he he' hjd hd'⟩
      refine .sl b o n cap size es' f (by omega) h2 h3 (fun e' he' => ?_) h5 (fun i j e' d' he' hd' => ?_) (fun i j e' d' he' hd' => ?_)
      · obtain ⟨i, hi⟩ := List.getElem?_of_mem he'
        obtain ⟨e, he⟩ := pre i e' hi
        rw [← q2 i e e' he hi]
        exact h4 e (List.mem_of_getElem? he)
      · obtain ⟨e, d, he, hd, hw⟩ := pre2 i j e' d' he' hd'
        rw [hw.one]
        exact h6 i j e d he hd
      · obtain ⟨e, d, he, hd, hw⟩ := pre2 i j e' d' he' hd'
        exact ih i j e d he hd hw
  | agg cs ds h1 h2 h3 ih =>
    intro d' hd
    cases hd with
    | refl => exact .agg cs ds h1 h2 h3
    | agg _ ds' q1 q2 =>
      have pre : ∀ (i : Nat) (d' : D), ds'[i]? = some d' → ∃ d, ds[i]? = some d ∧ WkD d d' := fun i d' he' => by
        have hi : i < ds'.length := (List.getElem?_eq_some_iff.1 he').1
        have h := List.getElem?_eq_getElem (l := ds) (i := i) (by omega)
        exact ⟨_, h, q2 i _ d' h he'⟩
      refine .agg cs ds' (by omega) (fun i d' hd' => ?_) (fun i d' hd' => ?_)
      · obtain ⟨d, hd, hw⟩ := pre i d' hd'
        rw [hw.one]; exact h2 i d hd
      · obtain ⟨d, hd, hw⟩ := pre i d' hd'
        exact ih i d hd hw
/-- A coarser result. -/
def WkDV : DV → DV → Prop
  | .d x, .d y => WkD x y
  | .tup l, .tup l' => WkL l l'
  | a, b => a = b
theorem TV.wk {R : Nat → Nat → Prop} {μ : Nat → Nat} {w : World} {v : Value} {r r' : DV} (h : TV R μ w v r) (hw : WkDV r r') : TV R μ w v r' := by
  cases r <;> cases r' <;> simp only [WkDV] at hw <;> try (cases hw; done)
  case d.d x y => cases h with | d _ _ hv => exact .d _ _ (hv.wk hw)
  case tup.tup l l' =>
    cases h with
    | tup vs _ h1 h2 =>
      refine .tup vs l' (by rw [h1, hw.1]) fun i d' hd' => ?_
      have hi : i < l'.length := (List.getElem?_eq_some_iff.1 hd').1
      have hg := List.getElem?_eq_getElem (l := l) (i := i) (by rw [hw.1]; exact hi)
      exact (h2 i _ hg).wk (hw.2 i _ d' hg hd')
  all_goals (cases hw; exact h)
/-- A contract for arguments that read more finely. -/
theorem CS.args {f : FuncId} {ds ds' : List D} {r : DV} {own : Option TypeId} (h : CS P G f ds' r own) (hd : WkL ds ds') : CS P G f ds r own := fun w R args hg hR hl hv =>
  h w R args hg hR (by rw [hl, hd.1]) fun i d' hd' => by
    have hi : i < ds'.length := (List.getElem?_eq_some_iff.1 hd').1
    have hgt := List.getElem?_eq_getElem (l := ds) (i := i) (by rw [hd.1]; exact hi)
    exact (hv i _ hgt).wk (hd.2 i _ d' hgt hd')
theorem CS.res {f : FuncId} {ds : List D} {r r' : DV} {own : Option TypeId} (h : CS P G f ds r' own) (hd : WkDV r' r) : CS P G f ds r own := fun w R args hg hR hl hv =>
  (h w R args hg hR hl hv).mono fun _ _ ⟨v, R', h1, h2, h3⟩ => ⟨v, R', h1, fun μ => (h2 μ).wk hd, h3⟩

/-! ### A function's contract -/

def initSt (ds : List D) (n : Nat) : St := ⟨ds.map .d ++ List.replicate (n - ds.length) (.tup []), [], []⟩

def resD (P : Program) (s : St) : ResultVar → Option D
  | .tmp i => isD (s.tmps.getD i (.tup []))
  | .cell p ty => match s.tmps.getD p (.tup []) with
    | .ptr k off => (match getKey k s.H with
      | some (.cells cs) => (takeV P ty (cs.drop off)).bind isD
      | _ => none)
    | _ => none
def resDs (P : Program) (s : St) : List ResultVar → Option (List D)
  | [] => some []
  | r :: l => match resD P s r, resDs P s l with
    | some x, some ds => some (x :: ds)
    | _, _ => none
/-- The result of a function. -/
def vres (P : Program) (s : St) (rs : List ResultVar) : Option DV :=
  match resDs P s rs with
  | some [x] => some (.d x)
  | some ds => some (.tup ds)
  | none => none
/-- Whose element type, if its one result is an owned slice. -/
def vown (s : St) (rs : List ResultVar) : Option TypeId :=
  match rs with
  | [.tmp i] => (match s.tmps.getD i (.tup []) with
    | .d (.sl _) => (takeOwn (.t i) s.own).map (·.1)
    | _ => none)
  | _ => none

def resVal (tmps : Array Value) : ResultVar → Sem Value
  | .tmp t => pure (tmps.getD t undef)
  | .cell p t => do loadVar t (← asAddr (tmps.getD p undef))
theorem results_eq (fn : Func) (tmps : Array Value) : results fn tmps = (do let vs ← fn.results.mapM (resVal tmps); pure (if h : vs.size = 1 then vs[0] else .tuple vs)) := by
  unfold results
  congr 1

theorem resD_ok (hr : Rel P G base R μ st a w) {r : ResultVar} {x : D} (h : resD P st r = some x) : ∃ v, (resVal a.tmps r).run P w = .ok v w ∧ V R w v x := by
  cases r with
  | tmp i =>
    simp only [resD] at h
    have he := hr.eval (.tmp i)
    simp only [St.eval, Act.eval] at he
    unfold isD at h
    split at h <;> simp at h
    rename_i y hy
    subst h
    rw [hy] at he
    exact ⟨_, rfl, he.dinv⟩
  | cell p ty =>
    simp only [resD] at h
    have he := hr.eval (.tmp p)
    simp only [St.eval, Act.eval] at he
    split at h
    · rename_i k off hp
      split at h
      · rename_i cs hk
        rw [hp] at he
        obtain ⟨_, _, hob⟩ := hr.objs k _ hk
        have hrun := (RunV.of_obj hob).drop off
        rw [Nat.zero_add] at hrun
        obtain ⟨y, hy, hx⟩ := Option.bind_eq_some_iff.1 h
        obtain ⟨v, h1, h2, _⟩ := run_loadVar_runV (P := P) hrun hy
        have hyd : y = .d x := by
          unfold isD at hx
          split at hx
          · cases hx; rfl
          · cases hx
        subst hyd
        refine ⟨v, ?_, h2.dinv⟩
        unfold resVal
        simp only
        rw [he.ptr_inv]
        simp only [asAddr, Sem.run_bind, Sem.run_pure, Result.andThen_ok, h1]
      · cases h
    · cases h

theorem resDs_ok (hr : Rel P G base R μ st a w) : ∀ {l : List ResultVar} {ds : List D}, resDs P st l = some ds →
    ∃ vs, (l.mapM (resVal a.tmps)).run P w = .ok vs w ∧ vs.length = ds.length ∧ ∀ (i : Nat) (d : D), ds[i]? = some d → V R w (vs.getD i undef) d
  | [], ds, h => by simp [resDs] at h; subst h; exact ⟨[], by simp, rfl, by simp⟩
  | r :: l, ds, h => by
    simp only [resDs] at h
    split at h <;> simp at h
    rename_i x ds' hx hds
    subst h
    obtain ⟨v, h1, h2⟩ := resD_ok hr hx
    obtain ⟨vs, q1, q2, q3⟩ := resDs_ok hr hds
    refine ⟨v :: vs, ?_, by simp [q2], fun i d hi => ?_⟩
    · simp only [List.mapM_cons, Sem.run_bind, h1, Result.andThen_ok, q1, Sem.run_pure]
    · cases i with
      | zero => simp at hi; subst hi; exact h2
      | succ i => simp at hi; simpa using q3 i d hi

theorem vres_ok (hr : Rel P G base R μ st a w) {fn : Func} {r : DV} (h : vres P st fn.results.toList = some r) : ∃ v, (results fn a.tmps).run P w = .ok v w ∧ (∀ μ', TV R μ' w v r) := by
  unfold vres at h
  cases hds : resDs P st fn.results.toList with
  | none => simp [hds] at h
  | some ds =>
    obtain ⟨vs, h1, h2, h3⟩ := resDs_ok hr hds
    have hrun : (results fn a.tmps).run P w = .ok (if h : vs.toArray.size = 1 then vs.toArray[0] else .tuple vs.toArray) w := by
      rw [results_eq, Array.mapM_eq_mapM_toList]
      simp only [Sem.run_bind, Sem.run_map, h1, Result.andThen_ok, Sem.run_pure]
    refine ⟨_, hrun, fun μ' => ?_⟩
    have tup : ∀ (ds : List D), vs.length = ds.length → (∀ (i : Nat) (d : D), ds[i]? = some d → V R w (vs.getD i undef) d) → TV R μ' w (.tuple vs.toArray) (.tup ds) := fun ds hl hv =>
      .tup _ _ (by simpa using hl) (fun i d hi => by have := hv i d hi; simpa [Array.getD_eq_getD_getElem?, List.getD] using this)
    rw [hds] at h
    match ds, h2, h3, h with
    | [], h2, h3, h =>
      simp at h; subst h
      rw [dif_neg (by simp at h2; simp [h2])]
      exact tup [] h2 h3
    | [x], h2, h3, h =>
      simp at h; subst h
      match vs, h2, h3 with
      | [v], _, h3 => exact .d _ _ (by simpa using h3 0 x rfl)
    | x :: y :: l, h2, h3, h =>
      simp at h; subst h
      rw [dif_neg (by simp at h2; simp [h2])]
      exact tup _ h2 h3

theorem vown_ok (hr : Rel P G base R μ st a w) {fn : Func} {e : TypeId} (h : vown st fn.results.toList = some e) {v : Value} (hv : (results fn a.tmps).run P w = .ok v w) : OwnSl P base R w e v := by
  unfold vown at h
  split at h
  · rename_i i hrs
    split at h
    · rename_i es hd
      simp only [Option.map_eq_some_iff] at h
      obtain ⟨⟨e', own'⟩, ht, rfl⟩ := h
      obtain ⟨_, v0, _, hv0, hown, _⟩ := hr.takeOwn ht
      have hs : i < a.tmps.size := by
        rw [hr.size]
        by_cases hlt : i < st.tmps.length
        · exact hlt
        · simp [List.getD, List.getElem?_eq_none (Nat.le_of_not_lt hlt)] at hd
      have hv1 : v = a.tmps.getD i undef := by
        have hrs' : fn.results = #[.tmp i] := by
          apply Array.ext'
          simpa using hrs
        rw [results_tmp hrs' a.tmps P w] at hv
        exact (by cases hv; rfl)
      rw [hv1, hv0 (a.tmps.getD i undef) (by simp [locVal, hs])]
      exact hown
    · cases h
  · cases h

/-- The result reads as asked. -/
def resOk (x : Option DV) (r : DV) : Prop := match x with
  | some r0 => WkDV r0 r
  | none => False
theorem resOk_spec {x : Option DV} {r : DV} (h : resOk x r) : ∃ r0, x = some r0 ∧ WkDV r0 r := by
  cases x with
  | none => cases h
  | some r0 => exact ⟨r0, rfl, h⟩
/-- The result's spare places are its own, as asked. -/
def ownOk (s : St) (rs : List ResultVar) : Option TypeId → Prop
  | none => True
  | some e => vown s rs = some e ∨ (match rs with
    | [.tmp i] => (match s.tmps.getD i (.tup []) with
      | .d .nils => True
      | _ => False)
    | _ => False)
theorem ownOk_ok (hr : Rel P G base R μ st a w) {fn : Func} {e : TypeId} (h : ownOk st fn.results.toList (some e)) {v : Value} (hv : (results fn a.tmps).run P w = .ok v w) : OwnSl P base R w e v := by
  rcases h with h | h
  · exact vown_ok hr h hv
  · split at h
    · rename_i i hrs
      split at h
      · rename_i hd
        have hrs' : fn.results = #[.tmp i] := by
          apply Array.ext'
          simpa using hrs
        rw [results_tmp hrs' a.tmps P w] at hv
        cases hv
        have he := hr.eval (.tmp i)
        simp only [St.eval, Act.eval, hd] at he
        obtain ⟨ao, h0⟩ := he.dinv.nils_inv
        exact .inl ⟨ao, h0⟩
      · cases h
    · cases h
/-- A function's first state. -/
theorem Rel.init (fn : Func) {ds : List D} {w : World} {R : Nat → Nat → Prop} {args : Array Value} (hg : Glob G (From w.heap.size) R w) (hR : ∀ b o, R b o → b < w.heap.size) (hl : args.size = ds.length) (hv : ∀ (i : Nat) (d : D), ds[i]? = some d → V R w (args.getD i undef) d) :
    Rel P G (From w.heap.size) R (fun _ => 0) (initSt ds fn.ntmps) { tmps := args ++ Array.replicate (fn.ntmps - args.size) undef, defers := [] } w := by
  refine ⟨rfl, by simp [initSt, hl], fun i v d hiv hid => ?_, fun k o hk => by simp [initSt, getKey] at hk, fun k k' o o' hk => by simp [initSt, getKey] at hk, fun c hc => by simp [initSt] at hc, ⟨[], rfl, fun i c v hc => by simp [initSt] at hc, .nil⟩, hg, hR, fun _ h => h, fun _ _ => rfl⟩
  simp only [initSt] at hid
  by_cases hi : i < ds.length
  · rw [List.getElem?_append_left (by simpa using hi), List.getElem?_map, List.getElem?_eq_getElem hi] at hid
    simp at hid; subst hid
    have := hv i ds[i] (List.getElem?_eq_getElem hi)
    rw [Array.getElem?_append_left (by omega)] at hiv
    have hg : args.getD i undef = v := by simp [Array.getD_eq_getD_getElem?, hiv]
    rw [hg] at this
    exact .d _ _ this
  · rw [List.getElem?_append_right (by simp; omega), List.getElem?_replicate] at hid
    split at hid <;> simp at hid
    subst hid
    rw [Array.getElem?_append_right (by omega), Array.getElem?_replicate] at hiv
    split at hiv <;> simp at hiv
    subst hiv
    exact .tup #[] [] rfl (by simp)
theorem CS.of_VW {f : FuncId} {fn : Func} {c : Code} {n : Nat} {ds : List D} {r : DV} {own : Option TypeId} (hf : P.funcs[f]? = some fn) (hb : fn.body = some c) (hn : fn.ntmps = n)
    (h : VW P G c (initSt ds n) fun e s => (e = .normal ∨ e = .ret) ∧ resOk (vres P s fn.results.toList) r ∧ ownOk s fn.results.toList own) : CS P G f ds r own := by
  intro w R args hg hR hl hv
  refine calls_of_wp hf hb ?_
  have hrel := Rel.init (P := P) (G := G) fn hg hR hl hv
  rw [← hn] at h
  refine wp_mono (VW_ok c _ _ h (From w.heap.size) R _ _ w hrel) fun e a' w' ⟨s, R', μ', ⟨he, hres, hown⟩, hr', hs⟩ => ?_
  obtain ⟨r0, hres, hwk⟩ := resOk_spec hres
  obtain ⟨v, hv1, hv2⟩ := vres_ok hr' hres
  have hpost : a'.defers = [] ∧ ∃ v, (results fn a'.tmps).run P w' = .ok v w' ∧ ∃ v' R', Ending.returned v = .returned v' ∧ (∀ μ, TV R' μ w' v' r) ∧ Step (From w.heap.size) R w R' w' ∧ (∀ b o, R' b o → b < w'.heap.size) ∧ (∀ e, own = some e → OwnSl P (From w.heap.size) R' w' e v') :=
    ⟨hr'.defers, v, hv1, v, R', rfl, fun μ => (hv2 μ).wk hwk, hs, hr'.rset, fun e he' => by
      subst he'
      exact ownOk_ok hr' hown hv1⟩
  rcases he with rfl | rfl
  · exact hpost
  · exact hpost

theorem Enters.mk {f : FuncId} {fn : Func} (hf : P.funcs[f]? = some fn) (h : (fn.body.isNone == false && (fn.name == "runtime.NumGoroutine") == false) = true) : Enters P f := by
  simp only [Bool.and_eq_true, beq_iff_eq] at h
  exact ⟨fn, hf, h.1, h.2⟩
end

/-! ### The stack of code that simp runs -/

inductive KI where
  | code (c : Code)
  | blk (id : Nat)
  | ops (q : Bool) (all : Array Oper) (rest : List Oper)
  | scp

def VK (P : Program) (G : GT) : List KI → Exit → St → (Exit → St → Prop) → Prop
  | [], e, st, Q => Q e st
  | .code c :: k, .normal, st, Q => VW P G c st fun e s => VK P G k e s Q
  | .code _ :: k, e, st, Q => VK P G k e st Q
  | .blk id :: k, .exit id', st, Q => if id' = id then VK P G k .normal st Q else VK P G k (.exit id') st Q
  | .blk _ :: k, e, st, Q => VK P G k e st Q
  | .ops q all rest :: k, .normal, st, Q => VOps P G q all rest st fun s => VK P G k .normal s Q
  | .ops _ _ _ :: k, e, st, Q => VK P G k e st Q
  | .scp :: _, .goto _, _, _ => False
  | .scp :: k, e, st, Q => VK P G k e st Q

/-- What follows a test. -/
def condK (P : Program) (G : GT) (v : DV) (x y : Code) (k : List KI) (st : St) (Q : Exit → St → Prop) : Prop :=
  match v with
  | .d (.bool t) => if t then VK P G (.code x :: k) .normal st Q else VK P G (.code y :: k) .normal st Q
  | .anyb => VK P G (.code x :: k) .normal st Q ∧ VK P G (.code y :: k) .normal st Q
  | _ => False
section
variable {P : Program} {G : GT} {k : List KI} {st : St} {Q : Exit → St → Prop}
theorem VK_nil (e : Exit) : VK P G [] e st Q = Q e st := rfl
theorem VK_skip : VK P G (.code .skip :: k) .normal st Q = VK P G k .normal st Q := rfl
theorem VK_seq (x y : Code) : VK P G (.code (.seq x y) :: k) .normal st Q = VK P G (.code x :: .code y :: k) .normal st Q := by
  simp only [VK, VW]
  congr 1
  funext e s
  cases e <;> rfl
theorem VK_cond (c : Operand) (x y : Code) : VK P G (.code (.cond c x y) :: k) .normal st Q = condK P G (st.eval G c) x y k st Q := rfl
theorem VK_block (id : Nat) (c : Code) : VK P G (.code (.block id c) :: k) .normal st Q = VK P G (.code c :: .blk id :: k) .normal st Q := by
  simp only [VK, VW]
  congr 1
  funext e s
  cases e <;> rfl
theorem VK_label (l : Nat) : VK P G (.code (.label l) :: k) .normal st Q = VK P G k .normal st Q := rfl
theorem VK_scope (c : Code) : VK P G (.code (.scope c) :: k) .normal st Q = VK P G (.code c :: .scp :: k) .normal st Q := by
  simp only [VK, VW]
  congr 1
  funext e s
  cases e <;> rfl
theorem VK_scp_normal : VK P G (.scp :: k) .normal st Q = VK P G k .normal st Q := rfl
theorem VK_scp_ret : VK P G (.scp :: k) .ret st Q = VK P G k .ret st Q := rfl
theorem VK_scp_exit (id : Nat) : VK P G (.scp :: k) (.exit id) st Q = VK P G k (.exit id) st Q := rfl
theorem VK_region (id : Nat) (ops : Array Oper) : VK P G (.code (.region id ops false) :: k) .normal st Q = VK P G (.ops false ops ops.toList :: k) .normal st Q := by
  simp only [VK, VW]
  simp
/-- The lexical order serves. -/
def lexOk (P : Program) (ops : Array Oper) : Prop := P.follows .mixedOrders = true ∧ lexD ops = true
theorem lexOk.mk {ops : Array Oper} (h : (P.follows .mixedOrders && lexD ops) = true := by kernel_rfl) : lexOk P ops := by simpa [lexOk] using h
theorem VK_drawn (id : Nat) (ops : Array Oper) : VK P G (.code (.region id ops true) :: k) .normal st Q = (lexOk P ops ∧ freshB ops st = true ∧ VK P G (.ops true ops ops.toList :: k) .normal st Q) := by
  simp only [VK, VW, lexOk]
  simp [and_assoc]
theorem VK_exit (id : Nat) : VK P G (.code (.exit id) :: k) .normal st Q = VK P G k (.exit id) st Q := rfl
theorem VK_ret : VK P G (.code .ret :: k) .normal st Q = VK P G k .ret st Q := rfl
theorem VK_loop (c : Code) : VK P G (.code (.loop c) :: k) .normal st Q = SW P G (.loop c) st (fun e s => VK P G k e s Q) := rfl
theorem VK_code_ret (c : Code) : VK P G (.code c :: k) .ret st Q = VK P G k .ret st Q := rfl
theorem VK_code_exit (c : Code) (id : Nat) : VK P G (.code c :: k) (.exit id) st Q = VK P G k (.exit id) st Q := rfl
theorem VK_blk_normal (id : Nat) : VK P G (.blk id :: k) .normal st Q = VK P G k .normal st Q := rfl
theorem VK_blk_ret (id : Nat) : VK P G (.blk id :: k) .ret st Q = VK P G k .ret st Q := rfl
theorem VK_blk_exit (id id' : Nat) : VK P G (.blk id :: k) (.exit id') st Q = if id' = id then VK P G k .normal st Q else VK P G k (.exit id') st Q := rfl
theorem VK_ops_nil (q : Bool) (all : Array Oper) : VK P G (.ops q all [] :: k) .normal st Q = VK P G k .normal st Q := rfl
/-- A call: what is to be shown of it, and what follows. -/
def callK (P : Program) (G : GT) (q ro qn : Bool) (f : FuncId) (ds : List D) (ls : List (Option Loc)) (dst : Option Tmp) (all : Array Oper) (rest : List Oper) (k : List KI) (st : St) (Q : Exit → St → Prop) : Prop :=
  (∃ r own, (Enters P f ∧ CS P G f ds r own) ∧ (q = true → keyless r = true) ∧ VK P G (.ops q all rest :: k) .normal (finish st dst r (if qn then .no else ownOA own)) Q) ∨
  (ro = false ∧ ∃ s', (Enters P f ∧ CallTo P G f (ds.map .d) ls st dst s') ∧ VK P G (.ops q all rest :: k) .normal s' Q)
theorem callK.mk {q ro qn : Bool} {ls : List (Option Loc)} {f : FuncId} {ds : List D} {r : DV} {own : Option TypeId} {dst : Option Tmp} {all : Array Oper} {rest : List Oper} (he : Enters P f) (hc : CS P G f ds r own) (h : VK P G (.ops q all rest :: k) .normal (finish st dst r (if qn then .no else ownOA own)) Q) (hkl : keyless r = true := by rfl) : callK P G q ro qn f ds ls dst all rest k st Q := .inl ⟨r, own, ⟨he, hc⟩, fun _ => hkl, h⟩
/-- What follows an operation. -/
def stepK (P : Program) (G : GT) (q : Bool) (x : Option Out) (dst : Option Tmp) (all : Array Oper) (rest : List Oper) (k : List KI) (Q : Exit → St → Prop) : Prop :=
  match x with
  | some out => VK P G (.ops q all rest :: k) .normal (finish out.st dst out.v out.act) Q
  | none => False
theorem stepK_some {q : Bool} {st' : St} {v : DV} {act : OA} {dst : Option Tmp} {all : Array Oper} {rest : List Oper} : stepK P G q (some ⟨v, act, st'⟩) dst all rest k Q = VK P G (.ops q all rest :: k) .normal (finish st' dst v act) Q := rfl
theorem condK_true (x y : Code) : condK P G (.d (.bool true)) x y k st Q = VK P G (.code x :: k) .normal st Q := rfl
theorem condK_any (x y : Code) : condK P G .anyb x y k st Q = (VK P G (.code x :: k) .normal st Q ∧ VK P G (.code y :: k) .normal st Q) := rfl
theorem condK_false (x y : Code) : condK P G (.d (.bool false)) x y k st Q = VK P G (.code y :: k) .normal st Q := rfl
/-- A call that hands objects on: what is to be shown of it, and what follows. -/
def callHK (P : Program) (G : GT) (q ro : Bool) (f : FuncId) (as : List DV) (ls : List (Option Loc)) (dst : Option Tmp) (all : Array Oper) (rest : List Oper) (k : List KI) (st : St) (Q : Exit → St → Prop) : Prop :=
  hcall P G ro f as ls dst st fun s => VK P G (.ops q all rest :: k) .normal s Q
/-- One operation more. -/
def runOp (P : Program) (G : GT) (q : Bool) (o : Oper) (all : Array Oper) (rest : List Oper) (k : List KI) (st : St) (Q : Exit → St → Prop) : Prop :=
  match callOf G o st with
  | some (f, ds) => callK P G q (strictQ q all o) (q && !noisy all o) f ds (locsOf o) o.dst all rest k st Q
  | none =>
    match callOfH G o st with
    | some (f, as) => callHK P G q (strictQ q all o) f as (locsOf o) o.dst all rest k st Q
    | none => stepK P G q ((vop P G o st).map fun out => ⟨out.v, actQ q all o out.v out.act, out.st⟩) o.dst all rest k Q
/-- An operation under a guard. -/
def guardK (P : Program) (G : GT) (q : Bool) (y : DV) (want : Bool) (o : Oper) (all : Array Oper) (rest : List Oper) (k : List KI) (st : St) (Q : Exit → St → Prop) : Prop :=
  match y with
  | .undef => False
  | .anyb => False
  | .d (.bool b) => if b = want then runOp P G q o all rest k st Q else VK P G (.ops q all rest :: k) .normal (finish st o.dst (.tup []) .no) Q
  | _ => VK P G (.ops q all rest :: k) .normal (finish st o.dst (.tup []) .no) Q
theorem guardK_bool (q : Bool) (b want : Bool) (o : Oper) (all : Array Oper) (rest : List Oper) : guardK P G q (.d (.bool b)) want o all rest k st Q = if b = want then runOp P G q o all rest k st Q else VK P G (.ops q all rest :: k) .normal (finish st o.dst (.tup []) .no) Q := rfl
theorem guardK_tup (q : Bool) (ds : List D) (want : Bool) (o : Oper) (all : Array Oper) (rest : List Oper) : guardK P G q (.tup ds) want o all rest k st Q = VK P G (.ops q all rest :: k) .normal (finish st o.dst (.tup []) .no) Q := rfl
theorem VK_ops_cons (q : Bool) (all : Array Oper) (o : Oper) (rest : List Oper) : VK P G (.ops q all (o :: rest) :: k) .normal st Q = match wantedD o all st.tmps with
    | some true => runOp P G q o all rest k st Q
    | some false => VK P G (.ops q all rest :: k) .normal (finish st o.dst (.tup []) .no) Q
    | none => False := by
  simp only [VK, VOps, vOne, runOp, callK, callHK, stepK]
  split <;> rename_i hw <;> simp only [hw]
  split <;> rename_i hc <;> simp only [hc]
  generalize callOfH G o st = x
  cases x with
  | some p => rfl
  | none => cases vop P G o st <;> rfl

theorem VK_ops_some (q : Bool) (all : Array Oper) (dst : Option Tmp) (op : Op) (ty : TypeId) (pos : String) (after : Array Edge) (rest : List Oper) :
    VK P G (.ops q all (⟨dst, op, ty, pos, after, none⟩ :: rest) :: k) .normal st Q = runOp P G q ⟨dst, op, ty, pos, after, none⟩ all rest k st Q := by
  rw [VK_ops_cons]
  rfl
theorem VK_ops_guard (q : Bool) (all : Array Oper) (dst : Option Tmp) (op : Op) (ty : TypeId) (pos : String) (after : Array Edge) (j : Nat) (want : Bool) (rest : List Oper) :
    VK P G (.ops q all (⟨dst, op, ty, pos, after, some (j, want)⟩ :: rest) :: k) .normal st Q = guardK P G q (yieldedD all st.tmps j) want ⟨dst, op, ty, pos, after, some (j, want)⟩ all rest k st Q := by
  rw [VK_ops_cons]
  simp only [wantedD, guardK]
  generalize yieldedD all st.tmps j = y
  cases y with
  | d x =>
    cases x with
    | bool b => cases b <;> cases want <;> rfl
    | _ => rfl
  | _ => rfl

theorem CS.of_VK {f : FuncId} {fn : Func} {c : Code} {n : Nat} {ds : List D} {r : DV} {own : Option TypeId} (hf : P.funcs[f]? = some fn) (hb : fn.body = some c) (hn : fn.ntmps = n) {rs : List ResultVar} (hrs : fn.results.toList = rs)
    (h : VK P G [.code c] .normal (initSt ds n) fun e s => (e = .normal ∨ e = .ret) ∧ resOk (vres P s rs) r ∧ ownOk s rs own) : CS P G f ds r own := by
  subst hrs
  exact CS.of_VW hf hb hn h

theorem callHK.mk' {q ro : Bool} {ls : List (Option Loc)} {f : FuncId} {as : List DV} {dst : Option Tmp} {all : Array Oper} {rest : List Oper} (h : ∃ s', (Enters P f ∧ CallTo P G f as ls st dst s') ∧ VK P G (.ops q all rest :: k) .normal s' Q) (hro : ro = false) : callHK P G q ro f as ls dst all rest k st Q := by
  subst hro
  exact h
theorem callK.own' {q ro qn : Bool} {ls : List (Option Loc)} {f : FuncId} {ds : List D} {dst : Option Tmp} {all : Array Oper} {rest : List Oper} (h : ∃ s', (Enters P f ∧ CallTo P G f (ds.map .d) ls st dst s') ∧ VK P G (.ops q all rest :: k) .normal s' Q) (hro : ro = false) : callK P G q ro qn f ds ls dst all rest k st Q := .inr ⟨hro, h⟩
theorem callHK.ro' {q ro : Bool} {ls : List (Option Loc)} {f : FuncId} {as : List DV} {dst : Option Tmp} {all : Array Oper} {rest : List Oper} {d : DV} {ks : List Nat} (he : Enters P f) (hr : RO P G f as ks st.H d) (hn : noOwnAt ks st.own = true) (hks : (ks.all fun k => (getKey k st.H).isSome) = true) (hkl : keyless d = true)
    (h : VK P G (.ops q all rest :: k) .normal (finish st dst d .no) Q) : callHK P G q ro f as ls dst all rest k st Q := by
  cases ro
  · exact ⟨_, ⟨he, hr st (fun _ _ => rfl) hn dst ls⟩, h⟩
  · exact ⟨d, ks, ⟨he, hr, hn, hks, hkl⟩, h⟩
theorem VW_of_VK {c : Code} (h : VK P G [.code c] .normal st Q) : VW P G c st Q := h
/-- A loop, its round as a stack. -/
theorem SW.loopK {ι : Type} {c : Code} (I : ι → St) (m : ι → Nat) (x0 : ι) (h0 : Weak st (I x0))
    (round : ∀ x, VK P G [.code c] .normal (I x) fun e s => match e with
      | .normal => ∃ y, Weak s (I y) ∧ m y < m x
      | e => Q e s) : SW P G (.loop c) st Q := SW.loop I m x0 h0 round
end
attribute [irreducible] VK callK callHK stepK condK guardK
end Go.VM

set_option linter.unusedVariables false
set_option linter.unusedSimpArgs false
set_option linter.unusedSectionVars false
namespace Go.VM
open Go Go.RowKit
attribute [simp] solid takeA VK_label VK_scope VK_scp_normal VK_scp_ret VK_scp_exit VK_nil VK_skip VK_seq VK_cond VK_block VK_region VK_drawn actQ qAct noisy appArgs appDsts quietOp VK_exit VK_ret VK_loop VK_code_ret VK_code_exit VK_blk_normal VK_blk_ret VK_blk_exit VK_ops_nil VK_ops_some VK_ops_guard runOp stepK_some condK_true condK_false condK_any guardK_tup
  yieldedD callOf callOfH vMakeFunc vcells DV.cell takeV noNil zObj cellOf cellN isNilP appSrc mentions mentionsAny killObj freshB newKeys isNew keyFree objFree Loc.ofKey keyless locsOf argLoc vBuildC partsV fillV vop vMax vMin vMove vPick vAlloc vBox vBuild vBuildSlice vLoad vStore vNilCheck vBin vBinN isNilC vNilTest vUn vConv vMakeMap vLookup vMapUpdate vExtract vField vIndex vIndexAddr vFieldAddr vSlice vRange vNext vLen vAppend vDelete vBuiltin
  St.eval ofConst ofScalar ofScalars finish ownAct newObjAt getKey setKey repKey insKey killRef dropLoc dropKey addAlias Loc.ofKey slAct tmpAct takeD descAgg dbinT dbin dunary eqCell eqCells fitDesc fitDescs keyFits overwrite fillD isD allD partsD idx bound optBound
  findKeyD setKeyD delKeyD takeOwn asSl dconv isU8 bytesOfEs D.one D.cells ownOA initSt resD resDs vres vown

/-- The slots that a code writes. -/
def dsts : Code → List Nat
  | .region _ ops _ => ops.toList.filterMap (·.dst)
  | .seq a b => dsts a ++ dsts b
  | .cond _ a b => dsts a ++ dsts b
  | .block _ c => dsts c
  | .scope c => dsts c
  | .loop c => dsts c
  | _ => []
def eraseAll : List Nat → List DV → List DV
  | [], l => l
  | i :: r, l => eraseAll r (l.set i .undef)
def setAll : List (Nat × DV) → List DV → List DV
  | [], l => l
  | (i, v) :: r, l => setAll r (l.set i v)
/-- The frame at a loop's head: what the body writes is not known, but for these slots. -/
def frameOf (c : Code) (st : St) (ws : List (Nat × DV)) (H : List (Nat × AObj)) (own : List (TypeId × List Loc)) : St := ⟨setAll ws (eraseAll (dsts c) st.tmps), H, own⟩
theorem weak_iff (s s' : St) : Weak s s' ↔ WkT s.tmps s'.tmps ∧ WkH s.H s'.H ∧ wkOwn s s.own s'.own = true ∧ keysIn s'.H s'.own = true := ⟨fun h => ⟨h.tmps, h.H, h.own, h.keys⟩, fun h => ⟨h.1, h.2.1, h.2.2.1, h.2.2.2⟩⟩
/-- The loop's next round: the state is one of the family, and the number is smaller. -/
def Again {ι : Type} (F : ι → St) (m : ι → Nat) (x : ι) (s : St) : Prop := ∃ y, Weak s (F y) ∧ m y < m x
theorem Again.mk {ι : Type} {F : ι → St} {m : ι → Nat} {x : ι} {s : St} (y : ι) (h : Weak s (F y)) (hm : m y < m x) : Again F m x s := ⟨y, h, hm⟩
theorem SW.loopF {P : Program} {G : GT} {st : St} {Q : Exit → St → Prop} {c : Code} {ι : Type} (ws : ι → List (Nat × DV)) (H : ι → List (Nat × AObj)) (own : ι → List (TypeId × List Loc)) (m : ι → Nat) (x0 : ι) (h0 : Weak st (frameOf c st (ws x0) (H x0) (own x0)))
    (round : ∀ x, VK P G [.code c] .normal (frameOf c st (ws x) (H x) (own x)) fun e s => match e with
      | .normal => Again (fun y => frameOf c st (ws y) (H y) (own y)) m x s
      | e => Q e s) : SW P G (.loop c) st Q := SW.loopK (fun x => frameOf c st (ws x) (H x) (own x)) m x0 h0 round
attribute [irreducible] Again
attribute [simp] dsts eraseAll setAll frameOf weak_iff WkT WkO WkH wkOwn nilCls isNil takeCls keysIn

/-- An operation under a guard that is a known truth. -/
theorem guardK_tt {P : Program} {G : GT} {k : List KI} {st : St} {Q : Exit → St → Prop} {q : Bool} (o : Oper) (all : Array Oper) (rest : List Oper) : guardK P G q (.d (.bool true)) true o all rest k st Q = runOp P G q o all rest k st Q := by rw [guardK_bool, if_pos rfl]
theorem guardK_ff {P : Program} {G : GT} {k : List KI} {st : St} {Q : Exit → St → Prop} {q : Bool} (o : Oper) (all : Array Oper) (rest : List Oper) : guardK P G q (.d (.bool false)) false o all rest k st Q = runOp P G q o all rest k st Q := by rw [guardK_bool, if_pos rfl]
theorem guardK_tf {P : Program} {G : GT} {k : List KI} {st : St} {Q : Exit → St → Prop} {q : Bool} (o : Oper) (all : Array Oper) (rest : List Oper) : guardK P G q (.d (.bool true)) false o all rest k st Q = VK P G (.ops q all rest :: k) .normal (finish st o.dst (.tup []) .no) Q := by rw [guardK_bool, if_neg (by decide)]
theorem guardK_ft {P : Program} {G : GT} {k : List KI} {st : St} {Q : Exit → St → Prop} {q : Bool} (o : Oper) (all : Array Oper) (rest : List Oper) : guardK P G q (.d (.bool false)) true o all rest k st Q = VK P G (.ops q all rest :: k) .normal (finish st o.dst (.tup []) .no) Q := by rw [guardK_bool, if_neg (by decide)]
attribute [simp] guardK_tt guardK_ff guardK_tf guardK_ft
attribute [simp] WkL_nil WkL_cons WkLL_nil WkLL_cons WkL_refl WkLL_refl WkD_refl WkD_nils WkD_agg WkD_sl WkD_int WkD_bool WkD_str WkDV resOk ownOk
theorem int_beq (a b : Int) : (a == b) = decide (a = b) := rfl
theorem int_bne (a b : Int) : (a != b) = !decide (a = b) := rfl
theorem bs_beq (a b : List UInt8) : (a == b) = decide (a = b) := by by_cases h : a = b <;> simp [h]
attribute [simp] int_beq int_bne bs_beq
theorem lit_le_cast (n m : Nat) : ((no_index (OfNat.ofNat n) : Int) ≤ (m : Int)) = ((OfNat.ofNat n : Nat) ≤ m) := propext Int.ofNat_le
theorem cast_le_lit (n m : Nat) : ((m : Int) ≤ (no_index (OfNat.ofNat n) : Int)) = (m ≤ (OfNat.ofNat n : Nat)) := propext Int.ofNat_le
theorem lit_lt_cast (n m : Nat) : ((no_index (OfNat.ofNat n) : Int) < (m : Int)) = ((OfNat.ofNat n : Nat) < m) := propext Int.ofNat_lt
theorem cast_lt_lit (n m : Nat) : ((m : Int) < (no_index (OfNat.ofNat n) : Int)) = (m < (OfNat.ofNat n : Nat)) := propext Int.ofNat_lt
theorem cast_eq_lit (n m : Nat) : ((m : Int) = (no_index (OfNat.ofNat n) : Int)) = (m = (OfNat.ofNat n : Nat)) := propext Int.ofNat_inj
theorem succ_le_cast (n m : Nat) : (((n : Int) + 1) ≤ (m : Int)) = (n + 1 ≤ m) := by apply propext; omega
theorem succ_lt_cast (n m : Nat) : (((n : Int) + 1) < (m : Int)) = (n + 1 < m) := by apply propext; omega
theorem succ_nonneg (n : Nat) : (0 ≤ (n : Int) + 1) = True := by apply propext; simp; omega
theorem succ_eq_lit (n m : Nat) : (((n : Int) + 1) = (no_index (OfNat.ofNat m) : Int)) = (n + 1 = (OfNat.ofNat m : Nat)) := by
  apply propext
  have : (OfNat.ofNat m : Int) = ((OfNat.ofNat m : Nat) : Int) := rfl
  rw [this]
  omega
attribute [simp] succ_eq_lit
theorem succ_eq_cast (n m : Nat) : (((n : Int) + 1) = (m : Int)) = (n + 1 = m) := by apply propext; omega
attribute [simp] succ_le_cast succ_lt_cast succ_nonneg succ_eq_cast
attribute [simp] lit_le_cast cast_le_lit lit_lt_cast cast_lt_lit cast_eq_lit
end Go.VM
