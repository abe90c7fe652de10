/- A part of the proof: a machine on trees that is sound for the model, its tables, and contracts of functions. Conditions: none. -/
import Derived.Test.YtpookgemmjdgfaaGreatAeQ
namespace Go.Ae
open Go.RowKit
theorem LRel.er {G : Gh} {w : World} {xs : List V} {us : List Value} (h : LRel G w xs us) : LRel G w (xs.map V.er) us := by
  refine ⟨by simp [h.1], fun i x u hx hu => ?_⟩
  rw [List.getElem?_map] at hx
  cases hy : xs[i]? with
  | none => rw [hy] at hx; cases hx
  | some y => rw [hy] at hx; simp at hx; subst hx; exact (h.2 i y u hy hu).er
/-- A function's end: its results without the right to append, what it made forgotten. -/
def APostE (P : Program) (rs : List ResultVar) (Q : V → Tb → Prop) : Exit → List V → Tb → Prop
  | .normal, ts, T | .ret, ts, T => ∃ vs T', AllRes P ts T rs vs ∧ T'.Sub T ∧ Q (oneV (vs.map V.er)) T'
  | _, _, _ => False
section
variable {P : Program}
theorem acalls_ofE {f : FuncId} {fn : Func} {c : Code} {args : List V} {T : Tb} {Q : V → Tb → Prop} {rs : List ResultVar} {n : Nat} (hf : P.funcs[f]? = some fn) (hb : fn.body = some c) (hrs : fn.results = rs.toArray) (hn : fn.ntmps - args.length = n)
    (h : AWP P c (APostE P rs Q) (args ++ List.replicate n (.tup [])) T) : ACalls P f args T Q := by
  intro B w0 G w us hr hl
  refine calls_of_wp hf hb ?_
  have hlen : us.length = args.length := hl.1
  have hl' : LRel G w (args ++ List.replicate n (.tup [])) (us.toArray ++ Array.replicate (fn.ntmps - us.toArray.size) Go.undef).toList := by
    have : (us.toArray ++ Array.replicate (fn.ntmps - us.toArray.size) Go.undef).toList = us ++ List.replicate n Go.undef := by simp [hlen, hn]
    rw [this]
    refine hl.append ⟨by simp, fun i x u hx hu => ?_⟩
    rw [List.getElem?_replicate] at hx hu
    split at hx
    · rename_i hi
      rw [if_pos hi] at hu
      simp at hx hu
      subst hx; subst hu
      exact .undef
    · cases hx
  refine Code.wp_mono ?_ (h B w0 G w { tmps := us.toArray ++ Array.replicate (fn.ntmps - us.toArray.size) Go.undef, defers := [] } hr hl' rfl)
  rintro e a' w' ⟨G', ts', T', h1, h2, h3, h4, h5⟩
  have fin : (∃ vs T'', AllRes P ts' T' rs vs ∧ T''.Sub T' ∧ Q (oneV (vs.map V.er)) T'') → a'.defers = [] ∧ ∃ v, (results fn a'.tmps).run P w' = .ok v w' ∧ ∃ u v' G' T', Ending.returned v = Ending.returned u ∧ Le G w G' w' ∧ VRel G' w' v' u ∧ Rel B w0 G' w' T' ∧ Q v' T' := by
    rintro ⟨vs0, T'', hall, hsub, hq⟩
    obtain ⟨us', k1, k20⟩ := run_ress (P := P) h2 h3 hall
    have k2 := k20.er
    generalize vs0.map V.er = vs at k2 hq
    refine ⟨h4, if h : us'.toArray.size = 1 then us'.toArray[0] else .tuple us'.toArray, ?_, _, oneV vs, G', T'', rfl, h1, ?_, h2.weaken hsub.1 hsub.2, hq⟩
    · rw [results_eq fn a' hrs, List.mapM_toArray]
      simp only [Sem.run_bind, Sem.run_map, k1, Result.andThen_ok]
      rfl
    · cases us' with
      | nil =>
        have : vs = [] := List.eq_nil_of_length_eq_zero (by rw [← k2.1]; rfl)
        subst this
        exact .tup _ _ k2.1 k2.2
      | cons u us' =>
        cases vs with
        | nil => have := k2.1; simp at this
        | cons v vs =>
          have hl2 : us'.length = vs.length := by have := k2.1; simpa using this
          cases us' with
          | nil =>
            have : vs = [] := List.eq_nil_of_length_eq_zero (by rw [← hl2]; rfl)
            subst this
            exact k2.2 0 v u rfl rfl
          | cons u2 us' =>
            cases vs with
            | nil => simp at hl2
            | cons v2 vs => exact .tup _ _ k2.1 k2.2
  cases e with
  | normal => exact fin h5
  | ret => exact fin h5
  | _ => exact h5.elim
end
end Go.Ae
