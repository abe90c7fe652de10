/- A part of the proof: a machine on trees that is sound for the model, its tables, and contracts of functions. Conditions: none. -/
import Derived.Test.YtpookgemmjdgfaaGreatAeTe
namespace Go.Ae
open Go.RowKit
noncomputable section

/-! ### Draws -/
theorem env_ofL (ts : List V) : ∃ e : Env, e.Ok ∧ e.n = ts.length ∧ e.toL = ts := by
  have key : ∀ (k : Nat) (us : List V), us.length = k → ∃ t : Tr V, ∀ i, t.get i = us[i]? := by
    intro k
    induction k with
    | zero => intro us h; exact ⟨.nil, fun i => by rw [List.getElem?_eq_none (by omega)]; rfl⟩
    | succ k ih =>
      intro us h
      have hne : us ≠ [] := fun e => by rw [e] at h; cases h
      obtain ⟨t, ht⟩ := ih us.dropLast (by simp [h])
      refine ⟨t.set (us.getLast hne) k, fun i => ?_⟩
      rw [Tr.get_set]
      by_cases hi : i = k
      · subst hi
        rw [if_pos rfl, List.getLast_eq_getElem, List.getElem?_eq_getElem (by omega)]
        congr 2
        omega
      · rw [if_neg hi, ht, List.getElem?_dropLast]
        split
        · rfl
        · rw [List.getElem?_eq_none (by omega)]
  obtain ⟨t, ht⟩ := key _ ts rfl
  refine ⟨⟨ts.length, t⟩, fun i hi => by rw [ht, List.getElem?_eq_none hi], rfl, ?_⟩
  apply List.ext_getElem?
  intro j
  by_cases hj : j < ts.length
  · rw [Env.get_toL (e := ⟨ts.length, t⟩) hj]
    unfold Env.at
    simp only [ht, List.getElem?_eq_getElem hj]
  · rw [List.getElem?_eq_none (by rw [Env.len]; simpa using hj), List.getElem?_eq_none (by omega)]
theorem onlyGo_get (l : List Nat) : ∀ (ts : List V) (n i : Nat), (onlyGo l n ts)[i]? = (ts[i]?).map fun v => if l.contains (n + i) then v else .any
  | [], _, _ => rfl
  | v :: ts, n, 0 => by simp [onlyGo]
  | v :: ts, n, i + 1 => by
    simp only [onlyGo, List.getElem?_cons_succ]
    rw [onlyGo_get l ts (n + 1) i, show n + 1 + i = n + (i + 1) by omega]
theorem onlyGo_len (l : List Nat) : ∀ (ts : List V) (n : Nat), (onlyGo l n ts).length = ts.length
  | [], _ => rfl
  | v :: ts, n => by simp [onlyGo, onlyGo_len l ts (n + 1)]
def srcIn (l : List Nat) : Src → Bool
  | .tmp i => l.contains i
  | .k _ => true
def lookOk (ops : Array Oper) (o : Oper) (l : ILine) : Bool :=
  l.i.srcs.all (srcIn (o.looksAt ops)) && (match l.g with | none => true | some (d, _) => (o.looksAt ops).contains d)
section
variable {I : TI} {pr : List Nat} {cf : FuncId → List V → Hp → Option (V × Hp)} {s s' : Hp} {v : V}
theorem only_env {ops : Array Oper} {o : Oper} {e : Env} (he : e.Ok) : ∃ e' : Env, e'.Ok ∧ e'.n = e.n ∧ e'.toL = onlyV ops o e.toL ∧ ∀ d, (o.looksAt ops).contains d = true → e'.at d = e.at d := by
  obtain ⟨e', h1, h2, h3⟩ := env_ofL (onlyV ops o e.toL)
  have hlen : (onlyV ops o e.toL).length = e.n := by
    rw [← Env.len (e := e)]
    exact onlyGo_len _ _ _
  refine ⟨e', h1, h2.trans hlen, h3, fun d hd => ?_⟩
  rw [← Env.ev_tmp h1, ← Env.ev_tmp he, h3]
  show (onlyV ops o e.toL).getD d (.tup []) = e.toL.getD d (.tup [])
  unfold onlyV
  rw [List.getD_eq_getElem?_getD, List.getD_eq_getElem?_getD, onlyGo_get]
  simp only [Nat.zero_add, hd, if_true, Option.map_id']
end
end
end Go.Ae
