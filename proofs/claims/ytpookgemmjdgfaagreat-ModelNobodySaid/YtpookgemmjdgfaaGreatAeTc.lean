/- A part of the proof: a machine on trees that is sound for the model, its tables, and contracts of functions. Conditions: none. -/
import Derived.Test.YtpookgemmjdgfaaGreatAeTb
namespace Go.Ae
open Go.RowKit
noncomputable section

/-! ### Instructions that write -/
def fStore (pr : List Nat) (s : Hp) (n : Nat) (x y : V) : Option (V × Hp) :=
  match x with
  | .ptr b off => (match s.at b with
    | some (.cells cs) => if (y.okc = true ∧ (y.cells.all V.one) = true ∧ y.cells.length = n ∧ off + n ≤ cs.length) ∧ pr.contains b = false then some (.tup [], s.put b (some (.cells (spl cs off y.cells)))) else none
    | _ => none)
  | _ => none
def fAppend (pr : List Nat) (s : Hp) (sz bytes : Nat) (x y : V) : Option (V × Hp) :=
  match x, y with
  | .sl cs n tok, .sl ds m _ =>
    if cs.length = n * sz ∧ ds.length = m * sz ∧ ds.all V.one = true ∧ (n + m) * bytes ≤ 140737488355328 ∧ n + m ≤ 4611686018427387904 then
      match tok with
      | .exact | .nil => some (.sl (cs ++ ds) (n + m) (.own s.n sz), s.new .row)
      | .own id sz' => if sz' = sz ∧ pr.contains id = false then (match s.at id with | some .row => some (.sl (cs ++ ds) (n + m) (.own s.n sz), (s.put id none).new .row) | _ => none) else none
      | .no => none
    else none
  | _, _ => none
def fCall (cf : FuncId → List V → Hp → Option (V × Hp)) (s : Hp) (g : V) (xs : List V) : Option (V × Hp) :=
  match g with
  | .fn (.func f) first captured => cf f (first ++ xs ++ captured) s
  | _ => none
def fOp (pr : List Nat) (cf : FuncId → List V → Hp → Option (V × Hp)) (e : Env) (s : Hp) (i : IOp) : Option (V × Hp) :=
  match i with
  | .st n x y => fStore pr s n (x.ev e) (y.ev e)
  | .al cells => some (.ptr s.n 0, s.new (.cells cells))
  | .bx x => if (x.ev e).okc then some (.ptr s.n 0, s.new (.cells (x.ev e).cells)) else none
  | .app sz bytes x y => fAppend pr s sz bytes (x.ev e) (y.ev e)
  | .call g xs => fCall cf s (g.ev e) (xs.map (Src.ev e))
  | .xo o xs => xrun pr cf s o (xs.map (Src.ev e))
  | i => (fRd e s.at i).map fun v => (v, s)
section
variable {I : TI} {pr : List Nat} {cf : FuncId → List V → Hp → Option (V × Hp)} {s s' : Hp} {v : V}
theorem fWr_eq {e : Env} (he : e.Ok) (hcf : ∀ f args r, cf f args s = some r → I.fn.contains f = true) {o : Oper} {i : IOp} (hxc : xcomp I o.op = none) (hc : comp I o.op = some i) (h : fOp pr cf e s i = some (v, s')) : eOp I pr cf e.toL s o = some (v, s') := by
  have rdc : ∀ i, comp I o.op = some i → ((fRd e s.at i).map fun v => (v, s)) = some (v, s') → eOp I pr cf e.toL s o = some (v, s') := by
    intro i hc h
    cases hr : fRd e s.at i with
    | none => rw [hr] at h; cases h
    | some v2 =>
      rw [hr] at h
      simp only [Option.map_some] at h
      unfold eOp
      rw [hxc]
      simp only
      rw [fRd_eq he hc hr]
      exact h
  have wr : (eRd I s.at e.toL o = none) → (eWr I pr cf e.toL s o = some (v, s')) → eOp I pr cf e.toL s o = some (v, s') := by
    intro h1 h2
    unfold eOp
    rw [hxc]
    simp only
    rw [h1]
    exact h2
  have hc0 := hc
  unfold comp at hc
  split at hc
  · injection hc with hc; subst hc; exact rdc _ hc0 h
  · injection hc with hc; subst hc; exact rdc _ hc0 h
  · injection hc with hc; subst hc; exact rdc _ hc0 h
  · injection hc with hc; subst hc; exact rdc _ hc0 h
  · injection hc with hc; subst hc; exact rdc _ hc0 h
  · injection hc with hc; subst hc; exact rdc _ hc0 h
  · split at hc
    · injection hc with hc; subst hc; exact rdc _ hc0 h
    · cases hc
  · split at hc
    · injection hc with hc; subst hc; exact rdc _ hc0 h
    · split at hc
      · injection hc with hc; subst hc; exact rdc _ hc0 h
      · cases hc
  · rename_i t0 x0 y0 ho
    split at hc
    · rename_i n hn
      injection hc with hc
      subst hc
      refine wr (by unfold eRd; rw [ho]) ?_
      unfold eWr
      rw [ho]
      have h' : fStore pr s n (evV e.toL x0) (evV e.toL y0) = some (v, s') := by rw [Src.ev_of he, Src.ev_of he]; exact h
      unfold fStore at h'
      unfold eStore
      split at h'
      · rename_i hx; simp only [hx, hn]; exact h'
      · cases h'
    · cases hc
  · rename_i ho
    split at hc
    · rename_i z hz
      injection hc with hc
      subst hc
      refine wr (by unfold eRd; rw [ho]) ?_
      unfold eWr
      rw [ho]
      simp only [eAlloc, hz]
      exact h
    · cases hc
  · rename_i ho
    injection hc with hc
    subst hc
    refine wr (by unfold eRd; rw [ho]) ?_
    unfold eWr
    rw [ho]
    simp only [eBox, Src.ev_of he]
    exact h
  · split at hc
    · injection hc with hc; subst hc; exact rdc _ hc0 h
    · cases hc
  · split at hc
    · injection hc with hc; subst hc; exact rdc _ hc0 h
    · injection hc with hc; subst hc; exact rdc _ hc0 h
    · cases hc
  · split at hc
    · injection hc with hc; subst hc; exact rdc _ hc0 h
    · cases hc
  · injection hc with hc; subst hc; exact rdc _ hc0 h
  · split at hc
    · injection hc with hc; subst hc; exact rdc _ hc0 h
    · cases hc
  · split at hc
    · injection hc with hc; subst hc; exact rdc _ hc0 h
    · cases hc
  · split at hc
    · cases hc
    · split at hc
      · split at hc
        · injection hc with hc; subst hc; exact rdc _ hc0 h
        · cases hc
      · split at hc
        · injection hc with hc; subst hc; exact rdc _ hc0 h
        · cases hc
      · split at hc
        · injection hc with hc; subst hc; exact rdc _ hc0 h
        · cases hc
  · split at hc
    · injection hc with hc; subst hc; exact rdc _ hc0 h
    · cases hc
  · rename_i ho
    split at hc
    · rename_i x y t t' h1 h2
      split at hc
      · rename_i ht
        split at hc
        · rename_i el hel
          injection hc with hc
          subst hc
          refine wr (by unfold eRd; rw [ho]) ?_
          unfold eWr
          rw [ho]
          simp only [h1, h2, if_pos ht]
          have h' : fAppend pr s el.2.1 el.2.2 (evV e.toL x) (evV e.toL y) = some (v, s') := by rw [Src.ev_of he, Src.ev_of he]; exact h
          unfold fAppend at h'
          unfold eAppend
          split at h'
          · rename_i hx hy; simp only [hx, hy, hel]; exact h'
          · cases h'
        · cases hc
      · cases hc
    · cases hc
  · rename_i g args tys ho
    injection hc with hc
    subst hc
    refine wr (by unfold eRd; rw [ho]) ?_
    unfold eWr
    rw [ho]
    have h' : fCall cf s (evV e.toL g) (args.toList.map (evV e.toL)) = some (v, s') := by
      have e1 : (Src.ev e ∘ Src.of) = evV e.toL := funext fun x => (Src.ev_of he x).symm
      have h2 : fCall cf s ((Src.of g).ev e) ((args.toList.map Src.of).map (Src.ev e)) = some (v, s') := h
      rw [List.map_map, e1, ← Src.ev_of he] at h2
      exact h2
    unfold fCall at h'
    unfold eCall
    split at h'
    · rename_i hg
      simp only [hg]
      rw [if_pos (hcf _ _ _ h')]
      exact h'
    · cases h'
  · cases hc
end
end
end Go.Ae
