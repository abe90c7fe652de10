/- A part of the proof: a machine on trees that is sound for the model, its tables, and contracts of functions. Conditions: none. -/
import Derived.Test.YtpookgemmjdgfaaGreatAeTi
namespace Go.Ae
open Go.RowKit
noncomputable section
/-! ### The table of a program's functions -/
abbrev DRow := List (Nat × List (Nat × Bool) × List Nat)
structure FnOk (P : Program) (I : TI) (d : DRow) (f : FuncId) (fi : FnI) : Prop where
  ok : compF P I (look d) f = some fi
  fn : I.fn.contains f = true
def mkT (l : List (Nat × FnI × DRow)) : Tr FnI := l.foldr (fun x t => t.set x.2.1 x.1) .nil
def AllFn (P : Program) (I : TI) : List (Nat × FnI × DRow) → Prop
  | [] => True
  | x :: r => FnOk P I x.2.2 x.1 x.2.1 ∧ AllFn P I r
def DOf (l : List (Nat × FnI × DRow)) (f : FuncId) : Nat → Option (List (Nat × Bool) × List Nat) :=
  match l with
  | [] => fun _ => none
  | x :: r => if x.1 = f then look x.2.2 else DOf r f
/-- Each function once. -/
def onceB : List (Nat × FnI × DRow) → Bool
  | [] => true
  | x :: r => r.all (fun y => y.1 != x.1) && onceB r
theorem mkT_mem : ∀ {l : List (Nat × FnI × DRow)} {f : Nat} {fi : FnI}, (mkT l).get f = some fi → ∃ d, (f, fi, d) ∈ l
  | [], f, fi, h => by cases h
  | x :: r, f, fi, h => by
    have h' : (Tr.set x.2.1 (mkT r) x.1).get f = some fi := h
    rw [Tr.get_set] at h'
    split at h'
    · rename_i e
      injection h' with h'
      refine ⟨x.2.2, ?_⟩
      rw [e, ← h']
      exact List.mem_cons_self
    · obtain ⟨d, hd⟩ := mkT_mem h'
      exact ⟨d, List.mem_cons_of_mem _ hd⟩
theorem DOf_mem : ∀ {l : List (Nat × FnI × DRow)}, onceB l = true → ∀ {f : Nat} {fi : FnI} {d : DRow}, (f, fi, d) ∈ l → DOf l f = look d
  | [], _, _, _, _, h => by cases h
  | x :: r, ho, f, fi, d, h => by
    simp only [onceB, Bool.and_eq_true, List.all_eq_true] at ho
    rcases List.mem_cons.1 h with rfl | h
    · simp [DOf]
    · have := ho.1 _ h
      simp at this
      unfold DOf
      rw [if_neg (fun e => this e.symm)]
      exact DOf_mem ho.2 h
theorem allFn_mem {P : Program} {I : TI} : ∀ {l : List (Nat × FnI × DRow)}, AllFn P I l → ∀ x ∈ l, FnOk P I x.2.2 x.1 x.2.1
  | [], _, x, h => by cases h
  | y :: r, ha, x, h => by
    rcases List.mem_cons.1 h with rfl | h
    · exact ha.1
    · exact allFn_mem ha.2 x h
theorem fok_of {P : Program} {I : TI} {l : List (Nat × FnI × DRow)} (h : AllFn P I l) (ho : onceB l = true) : FOk P I (DOf l) (mkT l) := by
  intro f fi hf
  obtain ⟨d, hd⟩ := mkT_mem hf
  have := allFn_mem h _ hd
  exact ⟨by rw [DOf_mem ho hd]; exact this.ok, this.fn⟩
/-- A call that is reckoned whole, by its table. -/
theorem comes_tab {P : Program} {I : TI} {D : FuncId → Nat → Option (List (Nat × Bool) × List Nat)} {F : Tr FnI} (hI : I.All P) (hm : P.follows .mixedOrders = true) (hF : FOk P I D F) (N k : Nat) {f : FuncId} {args : List V} {v : V} (ha : ∀ x ∈ args, V.Pure x) (hv : v.Pure)
    (h : (fCallF F (fun _ _ => none) (frun F (fun _ _ => none) N k) [] f args H0).map (·.1) = some v) : Comes P f args v := by
  cases hc : fCallF F (fun _ _ => none) (frun F (fun _ _ => none) N k) [] f args H0 with
  | none => rw [hc] at h; cases h
  | some r =>
    obtain ⟨v', s'⟩ := r
    rw [hc] at h
    injection h with h
    subst h
    exact comes_frun hI hm (fun _ _ _ h => by cases h) (fun _ _ _ h => by cases h) hF ha hv hc
end
end Go.Ae
