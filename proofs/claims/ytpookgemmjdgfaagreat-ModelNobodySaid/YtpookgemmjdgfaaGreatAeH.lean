/- A part of the proof: a machine on trees that is sound for the model, its tables, and contracts of functions. Conditions: none. -/
import Derived.Test.YtpookgemmjdgfaaGreatAeG
namespace Go.Ae
open Go.RowKit

section
variable {P : Program}

/-- A result's value. -/
inductive ResRel (P : Program) (ts : List V) (T : Tb) : ResultVar → V → Prop where
  | tmp (t : Nat) (v : V) : v = evV ts (.tmp t) → ResRel P ts T (.tmp t) v
  | cell (a : Nat) (t : TypeId) (b off : Nat) (cs : List V) (v : V) : evV ts (.tmp a) = .ptr b off → T b = some (.cells cs) → scB P t = true → cs[off]? = some v → ResRel P ts T (.cell a t) v
  | cellAg (a : Nat) (t : TypeId) (b off n : Nat) (cs : List V) : evV ts (.tmp a) = .ptr b off → T b = some (.cells cs) → agB P t = true → szB P t n = true → off + n ≤ cs.length → ResRel P ts T (.cell a t) (.agg ((cs.drop off).take n))
inductive AllRes (P : Program) (ts : List V) (T : Tb) : List ResultVar → List V → Prop where
  | nil : AllRes P ts T [] []
  | cons {r v rs vs} : ResRel P ts T r v → AllRes P ts T rs vs → AllRes P ts T (r :: rs) (v :: vs)
def oneV : List V → V
  | [v] => v
  | vs => .tup vs
def APost (P : Program) (rs : List ResultVar) (Q : V → Tb → Prop) : Exit → List V → Tb → Prop
  | .normal, ts, T | .ret, ts, T => ∃ vs, AllRes P ts T rs vs ∧ Q (oneV vs) T
  | _, _, _ => False

def resOne (a : Act) : ResultVar → Sem Value
  | .tmp t => pure (a.tmps.getD t Go.undef)
  | .cell x t => do loadVar t (← asAddr (a.tmps.getD x Go.undef))
theorem results_eq (fn : Func) (a : Act) {rs : List ResultVar} (h : fn.results = rs.toArray) : results fn a.tmps = (do let vs ← rs.toArray.mapM (resOne a); pure (if h : vs.size = 1 then vs[0] else .tuple vs)) := by
  unfold results
  rw [h]
  have : (fun x => match x with | ResultVar.tmp t => pure (a.tmps.getD t Go.undef) | ResultVar.cell b t => do loadVar t (← asAddr (a.tmps.getD b Go.undef))) = resOne a := by funext r; cases r <;> rfl
  rw [← this]
  rfl
theorem run_res {B : Nat → Prop} {w0 : World} {G : Gh} {w : World} {a : Act} {ts : List V} {T : Tb} (hr : Rel B w0 G w T) (hl : LRel G w ts a.tmps.toList) {r : ResultVar} {v : V} (h : ResRel P ts T r v) :
    ∃ u, (resOne a r).run P w = .ok u w ∧ VRel G w v u := by
  cases h with
  | tmp t v hv => subst hv; exact ⟨a.tmps.getD t Go.undef, rfl, hl.ev (.tmp t)⟩
  | cell x t b off cs v hx hT ht hv =>
    have h := hl.ev (.tmp x)
    rw [hx] at h
    obtain ⟨g, cur, e, he, _, _, _, h4, h5⟩ := ptr_obj hr hT h
    obtain ⟨u, hu, hvr⟩ := h5.get hv
    have hc : w.cell? ⟨g, off, none⟩ = some u := by rw [cell_of_row _ _ _ _ _ _ h4, ← Array.getElem?_toList]; exact hu
    have he' : a.tmps.getD x Go.undef = .pointer (some ⟨g, off, none⟩) := he
    exact ⟨u, by simp [resOne, he', asAddr, run_loadVar_sc ht hc], hvr⟩
  | cellAg x t b off n cs hx hT ht hz hn =>
    have h := hl.ev (.tmp x)
    rw [hx] at h
    obtain ⟨g, cur, e, he, _, _, _, h4, h5⟩ := ptr_obj hr hT h
    have hs := h5.seg off n
    have hul := h5.1
    have := run_loadVar_ag (P := P) ht hz (ad := ⟨g, off, none⟩) (us := (cur.toList.drop off).take n) (w := w) (by rw [List.length_take, List.length_drop]; omega) (fun j v hv => by
      rw [List.getElem?_take] at hv
      split at hv
      · rw [List.getElem?_drop] at hv
        rw [add_plain', cell_of_row _ _ _ _ _ _ h4, ← Array.getElem?_toList]
        exact hv
      · cases hv)
    have he' : a.tmps.getD x Go.undef = .pointer (some ⟨g, off, none⟩) := he
    exact ⟨.agg ((cur.toList.drop off).take n).toArray, by simp [resOne, he', asAddr, this], .agg _ _ hs.1 hs.2⟩

theorem run_ress {B : Nat → Prop} {w0 : World} {G : Gh} {w : World} {a : Act} {ts : List V} {T : Tb} (hr : Rel B w0 G w T) (hl : LRel G w ts a.tmps.toList) {rs : List ResultVar} {vs : List V} (h : AllRes P ts T rs vs) :
    ∃ us, (rs.mapM (resOne a)).run P w = .ok us w ∧ LRel G w vs us := by
  induction h with
  | nil => exact ⟨[], rfl, LRel.nil⟩
  | cons hr' _ ih =>
    obtain ⟨u, h1, h2⟩ := run_res (P := P) hr hl hr'
    obtain ⟨us, h3, h4⟩ := ih
    refine ⟨u :: us, ?_, LRel.cons h2 h4⟩
    rw [List.mapM_cons, Sem.run_bind, h1, Result.andThen_ok, Sem.run_bind, h3, Result.andThen_ok]
    rfl

theorem acalls_of {f : FuncId} {fn : Func} {c : Code} {args : List V} {T : Tb} {Q : V → Tb → Prop} {rs : List ResultVar} {n : Nat} (hf : P.funcs[f]? = some fn) (hb : fn.body = some c) (hrs : fn.results = rs.toArray) (hn : fn.ntmps - args.length = n)
    (h : AWP P c (APost P rs Q) (args ++ List.replicate n (.tup [])) T) : ACalls P f args T Q := by
  intro B w0 G w us hr hl
  refine calls_of_wp hf hb ?_
  have hlen : us.length = args.length := hl.1
  have hl' : LRel G w (args ++ List.replicate n (.tup [])) (us.toArray ++ Array.replicate (fn.ntmps - us.toArray.size) Go.undef).toList := by
    have : (us.toArray ++ Array.replicate (fn.ntmps - us.toArray.size) Go.undef).toList = us ++ List.replicate n Go.undef := by simp [hlen, hn]
    rw [this]
    refine hl.append ⟨by simp, fun i x u hx hu => ?_⟩
    rw [List.getElem?_replicate] at hx hu
    split at hx
    · rename_i hi
      rw [if_pos hi] at hu
      simp at hx hu
      subst hx; subst hu
      exact .undef
    · cases hx
  refine Code.wp_mono ?_ (h B w0 G w { tmps := us.toArray ++ Array.replicate (fn.ntmps - us.toArray.size) Go.undef, defers := [] } hr hl' rfl)
  rintro e a' w' ⟨G', ts', T', h1, h2, h3, h4, h5⟩
  have fin : (∃ vs, AllRes P ts' T' rs vs ∧ Q (oneV vs) T') → a'.defers = [] ∧ ∃ v, (results fn a'.tmps).run P w' = .ok v w' ∧ ∃ u v' G' T', Ending.returned v = Ending.returned u ∧ Le G w G' w' ∧ VRel G' w' v' u ∧ Rel B w0 G' w' T' ∧ Q v' T' := by
    rintro ⟨vs, hall, hq⟩
    obtain ⟨us', k1, k2⟩ := run_ress (P := P) h2 h3 hall
    refine ⟨h4, if h : us'.toArray.size = 1 then us'.toArray[0] else .tuple us'.toArray, ?_, _, oneV vs, G', T', rfl, h1, ?_, h2, hq⟩
    · rw [results_eq fn a' hrs, List.mapM_toArray]
      simp only [Sem.run_bind, Sem.run_map, k1, Result.andThen_ok]
      rfl
    · cases us' with
      | nil =>
        have : vs = [] := List.eq_nil_of_length_eq_zero (by rw [← k2.1]; rfl)
        subst this
        exact .tup _ _ k2.1 k2.2
      | cons u us' =>
        cases vs with
        | nil => have := k2.1; simp at this
        | cons v vs =>
          have hl2 : us'.length = vs.length := by have := k2.1; simpa using this
          cases us' with
          | nil =>
            have : vs = [] := List.eq_nil_of_length_eq_zero (by rw [← hl2]; rfl)
            subst this
            exact k2.2 0 v u rfl rfl
          | cons u2 us' =>
            cases vs with
            | nil => simp at hl2
            | cons v2 vs => exact .tup _ _ k2.1 k2.2
  cases e with
  | normal => exact fin h5
  | ret => exact fin h5
  | _ => exact h5.elim
end
end Go.Ae
