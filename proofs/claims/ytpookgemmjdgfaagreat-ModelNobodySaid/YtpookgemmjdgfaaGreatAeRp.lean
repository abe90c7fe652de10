/- A part of the proof: a machine on trees that is sound for the model, its tables, and contracts of functions. Conditions: none. -/
import Derived.Test.YtpookgemmjdgfaaGreatAeRo
namespace Go.Ae
open Go.RowKit
section
variable {P : Program} {k : Nat} {t : TypeId} {vs : List V}
theorem tyOk_int {kd : IntKind} (ht : P.underlying t = some (.int kd)) (h : TyOk P (k + 1) t vs) : ∃ x, vs = [.lit (.int kd x)] ∧ (Lit.int kd x).wf = true := by
  simpa only [TyOk, ht] using h
theorem tyOk_slice {e : TypeId} (ht : P.underlying t = some (.slice e)) (h : TyOk P (k + 1) t vs) : ∃ cells n, vs = [.sl cells n .no] ∧ n ≤ maxLen ∧ cells.length = n * P.cellsOf e ∧ ∀ i, i < n → TyOk P k e ((cells.drop (i * P.cellsOf e)).take (P.cellsOf e)) := by
  simpa only [TyOk, ht] using h
theorem tyOk_struct {fs : Array Field} (ht : P.underlying t = some (.struct fs)) (h : TyOk P (k + 1) t vs) : vs.length = P.cellsOf t ∧ ∀ f ∈ fs.toList, TyOk P k f.type ((vs.drop f.offset).take (P.cellsOf f.type)) := by
  simpa only [TyOk, ht] using h
/-- The slices in the cells of a slice of structs. -/
theorem slAt_of {e u ft : TypeId} {fs : Array Field} {f : Field} {cells : List V} {n sz j : Nat} (hsz : P.cellsOf e = sz) (he : P.underlying e = some (.struct fs)) (hf : f ∈ fs.toList) (hj : f.offset = j) (hft : f.type = ft) (hc : P.cellsOf ft = 1) (hs : P.underlying ft = some (.slice u))
    (h : ∀ i, i < n → TyOk P (k + 1 + 1) e ((cells.drop (i * P.cellsOf e)).take (P.cellsOf e))) : SlAt cells n sz j := by
  intro i hi
  obtain ⟨_, h1⟩ := tyOk_struct he (h i hi)
  have h2 := h1 f hf
  rw [hft, hc, hj, hsz] at h2
  obtain ⟨c, m, h3, _⟩ := tyOk_slice hs h2
  have h4 : ((((cells.drop (i * sz)).take sz).drop j).take 1)[0]? = some (.sl c m .no) := by rw [h3]; rfl
  rw [List.getElem?_take_of_lt (by omega), List.getElem?_drop, Nat.add_zero] at h4
  by_cases hjs : j < sz
  · rw [List.getElem?_take_of_lt hjs, List.getElem?_drop] at h4
    exact ⟨c, m, .no, h4⟩
  · rw [List.getElem?_eq_none (by rw [List.length_take]; omega)] at h4
    cases h4
end
theorem row_calls {P : Program} {f : FuncId} {args : List V} {us : List Value} {W : World} (h : Comes P f args (.lit (.bool true))) (hl : LRel (G0 W) W args us) :
    Calls P f us.toArray W fun e w' => e = .returned (.bool true) ∧ Below W.heap.size W w' := by
  refine (h T0 (fun v _ => v = .lit (.bool true)) rfl (· < W.heap.size) W (G0 W) W us (rel_G0 W) hl).mono ?_
  rintro e w' ⟨u, v, G', T', rfl, _, hv, hr, rfl⟩
  cases hv
  exact ⟨rfl, hr.below.below⟩
/-- An argument of one cell. -/
theorem arg_one {H : Type} {enc : TypeId × Value → H} {P : Program} {W : World} {k : Nat} {t : TypeId} {v : Value} {d : DataW H} {ps : List MemPlace} (hk : tyB P k t = true) (hv : v.cells = #[v]) (h : DataW.Trod enc P W 0 (fun _ => true) true t v d ps) :
    ∃ x, VRel (G0 W) W x v ∧ V.Pure x ∧ TyOk P k t [x] := by
  obtain ⟨fuel, h⟩ := h
  obtain ⟨vs, h1, h2⟩ := trod_v k t hk fuel _ _ _ h
  rw [hv] at h1
  match vs, h1, h2 with
  | [x], h1, h2 => exact ⟨x, (h1.2 0 x v rfl rfl).1, (h1.2 0 x v rfl rfl).2, h2⟩
  | [], h1, _ => cases h1.1
  | _ :: _ :: _, h1, _ => simp [RelL] at h1
/-- A struct as argument. -/
theorem arg_agg {H : Type} {enc : TypeId × Value → H} {P : Program} {W : World} {k : Nat} {t : TypeId} {cs : Array Value} {d : DataW H} {ps : List MemPlace} (hk : tyB P k t = true) (h : DataW.Trod enc P W 0 (fun _ => true) true t (.agg cs) d ps) :
    ∃ vs, VRel (G0 W) W (.agg vs) (.agg cs) ∧ (∀ x ∈ vs, V.Pure x) ∧ TyOk P k t vs := by
  obtain ⟨fuel, h⟩ := h
  obtain ⟨vs, h1, h2⟩ := trod_v k t hk fuel _ _ _ h
  refine ⟨vs, ?_, fun x hx => ?_, h2⟩
  · have := VRel.agg (G := G0 W) (w := W) vs cs.toList h1.1.symm (fun i x u hx hu => (h1.2 i x u hx hu).1)
    simpa using this
  · obtain ⟨i, hi, hxi⟩ := List.getElem_of_mem hx
    have hi2 : i < cs.toList.length := h1.1 ▸ hi
    exact (h1.2 i x _ (by rw [List.getElem?_eq_getElem hi, hxi]) (List.getElem?_eq_getElem hi2)).2
end Go.Ae
