/- The examples of explain, run. No condition. -/
import Derived.Test.YtdnkdeplpnbojaaDoorEa
set_option linter.unusedVariables false
set_option linter.unusedSimpArgs false
set_option linter.unusedSectionVars false
namespace Go.Proofs.YtdnkdeplpnbojaaDoor
open Go Go.VM
set_option maxRecDepth 100000
/-- The package-level variables whose cells are used. -/
def G1 : GT := fun g => if g = 1 then some powCells else if g = 0 then some wordCells else none
theorem G1_pow : G1 1 = some powCells := rfl
theorem G1_words : G1 0 = some wordCells := rfl
theorem Join_cs {G : GT} {xs : List (List UInt8)} {sep : List UInt8} (hl : xs.length ≤ 140737488355328) (hj : (Lib.join xs sep).length ≤ 140737488355328) : CS Tryd.prog G 57 [.sl (strs xs), .str sep] (.d (.str (Lib.join xs sep))) none :=
  join_cs Tryd.strings_Join_none Tryd.strings_Join hl hj
theorem ent_Join : VM.Enters Tryd.prog 57 := VM.Enters.mk Tryd.func57 rfl
def unstrs : List (List D) → Option (List (List UInt8))
  | [] => some []
  | [.str s] :: r => (unstrs r).map (s :: ·)
  | _ :: _ => none
theorem unstrs_eq : ∀ (l : List (List D)) (xs : List (List UInt8)), unstrs l = some xs → l = strs xs
  | [], xs, h => by simp [unstrs] at h; subst h; rfl
  | [.str s] :: r, xs, h => by
    simp only [unstrs, Option.map_eq_some_iff] at h
    obtain ⟨ys, h1, rfl⟩ := h
    rw [unstrs_eq r ys h1]
    rfl
  | [] :: _, _, h => by cases h
  | [.int _ _] :: _, _, h => by cases h
  | [.bool _] :: _, _, h => by cases h
  | [.nils] :: _, _, h => by cases h
  | [.sl _] :: _, _, h => by cases h
  | [.agg _] :: _, _, h => by cases h
  | (_ :: _ :: _) :: _, _, h => by simp [unstrs] at h
def lib1 : CallF := fun f ds => if f = 52 then (match ds with
    | [.int .i64 n] => if -9223372036854775808 ≤ n ∧ n ≤ 9223372036854775807 then some (.d (.str (itoaF n)), none) else none
    | _ => none) else if f = 57 then (match ds with
    | [.sl es, .str sep] => match unstrs es with
      | some xs => if xs.length ≤ 140737488355328 ∧ (Lib.join xs sep).length ≤ 140737488355328 then some (.d (.str (Lib.join xs sep)), none) else none
      | none => none
    | _ => none) else none
theorem lib1_ok : CallOk Tryd.prog G1 lib1 := by
  intro f ds r own h
  unfold lib1 at h
  split at h
  · rename_i hf
    subst hf
    split at h
    · split at h
      · rename_i hn
        cases h
        rw [itoaF_eq hn.1 hn.2]
        exact ⟨ent_Itoa, Itoa_cs G1_pow _ hn⟩
      · cases h
    · cases h
  · split at h
    · rename_i hf
      subst hf
      split at h
      · split at h
        · rename_i hx
          split at h
          · rename_i hb
            cases h
            rw [unstrs_eq _ _ hx]
            exact ⟨ent_Join, Join_cs hb.1 hb.2⟩
          · cases h
        · cases h
      · cases h
    · cases h
theorem ent_l53_alive : VM.Enters Tryd.prog 35 := VM.Enters.mk Tryd.func35 rfl
theorem l53_alive_cs : CS Tryd.prog G1 35 [] (.d (.bool true)) none := (evalF_ok lib1_ok 40 35 [] (.d (.bool true)) none (by kernel_rfl)).2
end Go.Proofs.YtdnkdeplpnbojaaDoor
