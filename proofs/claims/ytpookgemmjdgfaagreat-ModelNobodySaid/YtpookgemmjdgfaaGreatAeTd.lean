/- A part of the proof: a machine on trees that is sound for the model, its tables, and contracts of functions. Conditions: none. -/
import Derived.Test.YtpookgemmjdgfaaGreatAeTc
namespace Go.Ae
open Go.RowKit
noncomputable section

/-! ### Lines -/
structure ILine where
  g : Option (Nat × Bool)
  d : Option Nat
  i : IOp
def Env.putO (e : Env) (d : Option Nat) (v : V) : Env := match d with | none => e | some d => e.put d v
def dstOk (n : Nat) : Option Nat → Bool
  | none => true
  | some d => decide (d < n)
/-- What the machine does not know it does not run. -/
def compB (I : TI) (o : Op) : IOp := match xcomp I o with | some (x, os) => .xo x (os.map .of) | none => match comp I o with | none => .bad | some i => i
def CompOk (I : TI) (o : Op) (i : IOp) : Prop := (xcomp I o = none ∧ comp I o = some i) ∨ i = .bad ∨ ∃ x os, xcomp I o = some (x, os) ∧ i = .xo x (os.map .of)
theorem compB_ok (I : TI) (o : Op) : CompOk I o (compB I o) := by
  unfold compB CompOk
  cases hx : xcomp I o with
  | some q => obtain ⟨x, os⟩ := q; exact .inr (.inr ⟨x, os, rfl, rfl⟩)
  | none =>
    cases comp I o with
    | none => exact .inr (.inl rfl)
    | some i => exact .inl ⟨rfl, rfl⟩
def compL (I : TI) (n : Nat) (ops : Array Oper) (o : Oper) : Option ILine :=
  match compB I o.op with
  | i =>
    if dstOk n o.dst then
      match o.guard with
      | none => some ⟨none, o.dst, i⟩
      | some (j, w) =>
        match (ops[j]?).bind (·.dst) with
        | some d => if d < n then some ⟨some (d, w), o.dst, i⟩ else none
        | none => none
    else none
def fgstep (g : Option (Nat × Bool)) (r : Option (V × Hp)) (e : Env) (s : Hp) : Option (V × Hp) :=
  match g with
  | none => r
  | some (d, want) =>
    match e.at d with
    | .lit (.bool b) => if b = want then r else some (.tup [], s)
    | .tup [] => some (.tup [], s)
    | _ => none
theorem Env.get_toL {e : Env} {d : Nat} (h : d < e.n) : e.toL[d]? = some (e.at d) := by
  unfold Env.toL
  rw [List.getElem?_map, List.getElem?_range h]
  rfl
section
variable {I : TI} {pr : List Nat} {cf : FuncId → List V → Hp → Option (V × Hp)} {s s' : Hp} {v : V}
theorem fgstep_eq {n : Nat} {ops : Array Oper} {o : Oper} {l : ILine} (hc : compL I n ops o = some l) {e : Env} (hn : e.n = n) {r : Option (V × Hp)} (h : fgstep l.g r e s = some (v, s')) : gstep ops r o e.toL s = some (v, s') := by
  unfold compL at hc
  simp only at hc
  · split at hc
    · rename_i hd
      unfold gstep
      split at hc
      · rename_i hg
        injection hc with hc
        subst hc
        rw [hg]
        exact h
      · rename_i j w hg
        rw [hg]
        split at hc
        · rename_i d hj
          split at hc
          · rename_i hlt
            injection hc with hc
            subst hc
            simp only [fgstep] at h
            simp only [hj, Option.bind_some, Env.get_toL (e := e) (d := d) (Nat.lt_of_lt_of_eq hlt hn.symm)]
            split at h
            · rename_i b hb; simp only [hb]; exact h
            · rename_i hb; simp only [hb]; exact h
            · cases h
          · cases hc
        · cases hc
    · cases hc
theorem compL_parts {n : Nat} {ops : Array Oper} {o : Oper} {l : ILine} (hc : compL I n ops o = some l) : CompOk I o.op l.i ∧ l.d = o.dst ∧ dstOk n o.dst = true := by
  have hi := compB_ok I o.op
  unfold compL at hc
  simp only at hc
  · split at hc
    · rename_i hd
      split at hc
      · injection hc with hc; subst hc; exact ⟨hi, rfl, hd⟩
      · split at hc
        · split at hc
          · injection hc with hc; subst hc; exact ⟨hi, rfl, hd⟩
          · cases hc
        · cases hc
    · cases hc
theorem fWr_eqB {e : Env} (he : e.Ok) (hcf : ∀ f args r, cf f args s = some r → I.fn.contains f = true) {o : Oper} {i : IOp} (hc : CompOk I o.op i) (h : fOp pr cf e s i = some (v, s')) : eOp I pr cf e.toL s o = some (v, s') := by
  rcases hc with ⟨hx, hc⟩ | rfl | ⟨x, os, hx, rfl⟩
  · exact fWr_eq he hcf hx hc h
  · simp [fOp, fRd] at h
  · unfold eOp
    rw [hx]
    have e1 : (Src.ev e ∘ Src.of) = evV e.toL := funext fun x => (Src.ev_of he x).symm
    have h2 : xrun pr cf s x ((os.map Src.of).map (Src.ev e)) = some (v, s') := h
    rw [List.map_map, e1] at h2
    exact h2
theorem fRd_eqB {e : Env} (he : e.Ok) {rd : Nat → Option AObj} {o : Oper} {i : IOp} {v : V} (hc : CompOk I o.op i) (h : fRd e rd i = some v) : eRd I rd e.toL o = some v := by
  rcases hc with ⟨_, hc⟩ | rfl | ⟨x, os, hx, rfl⟩
  · exact fRd_eq he hc h
  · simp [fRd] at h
  · simp [fRd] at h
theorem Env.putO_ok {e : Env} (he : e.Ok) {d : Option Nat} (hd : dstOk e.n d = true) (v : V) : (e.putO d v).Ok ∧ (e.putO d v).n = e.n ∧ (e.putO d v).toL = putV e.toL d v := by
  cases d with
  | none => exact ⟨he, rfl, rfl⟩
  | some d =>
    have hlt : d < e.n := by simpa [dstOk] using hd
    exact ⟨Env.put_ok he hlt v, rfl, Env.put_toL hlt v⟩
end
def fOps (pr : List Nat) (cf : FuncId → List V → Hp → Option (V × Hp)) (l : List ILine) : Env → Hp → Option (Env × Hp) :=
  List.rec (fun e s => some (e, s)) (fun l _ ih e s => match fgstep l.g (fOp pr cf e s l.i) e s with | some (v, s') => ih (e.putO l.d v) s' | none => none) l
def compLs (I : TI) (n : Nat) (ops : Array Oper) : List Oper → Option (List ILine)
  | [] => some []
  | o :: r => match compL I n ops o, compLs I n ops r with | some l, some ls => some (l :: ls) | _, _ => none
section
variable {I : TI} {pr : List Nat} {cf : FuncId → List V → Hp → Option (V × Hp)}
theorem fOps_eq (hcf : ∀ s f args r, cf f args s = some r → I.fn.contains f = true) {n : Nat} {ops : Array Oper} : ∀ (l : List Oper) (ls : List ILine), compLs I n ops l = some ls → ∀ (e : Env) (s : Hp) (e' : Env) (s' : Hp), e.Ok → e.n = n →
    fOps pr cf ls e s = some (e', s') → runOps I pr cf ops l e.toL s = some (e'.toL, s') ∧ e'.Ok ∧ e'.n = n := by
  intro l
  induction l with
  | nil =>
    intro ls hc e s e' s' he hn h
    simp only [compLs, Option.some.injEq] at hc
    subst hc
    have h' : some (e, s) = some (e', s') := h
    injection h' with h'
    injection h' with ha hb
    subst ha; subst hb
    exact ⟨rfl, he, hn⟩
  | cons o r ih =>
    intro ls hc e s e' s' he hn h
    simp only [compLs] at hc
    split at hc
    · rename_i l1 ls1 h1 h2
      injection hc with hc
      subst hc
      have h' : (match fgstep l1.g (fOp pr cf e s l1.i) e s with | some (v, s') => fOps pr cf ls1 (e.putO l1.d v) s' | none => none) = some (e', s') := h
      obtain ⟨p1, p2, p3⟩ := compL_parts h1
      split at h'
      · rename_i v s1 hg
        have hd : dstOk e.n l1.d = true := by rw [p2, hn]; exact p3
        obtain ⟨q1, q2, q3⟩ := Env.putO_ok he hd v
        obtain ⟨k1, k2, k3⟩ := ih ls1 h2 (e.putO l1.d v) s1 e' s' q1 (q2.trans hn) h'
        refine ⟨?_, k2, k3⟩
        simp only [runOps]
        rw [q3, p2] at k1
        have hstep : gstep ops (eOp I pr cf e.toL s o) o e.toL s = some (v, s1) := by
          have hg2 := fgstep_eq (I := I) h1 hn hg
          unfold gstep at hg2 ⊢
          split
          · rename_i hgu; rw [hgu] at hg2; exact fWr_eqB he (hcf s) p1 hg2
          · rename_i j w hgu
            rw [hgu] at hg2
            simp only at hg2
            split
            · rename_i b hb
              simp only [hb] at hg2
              split
              · rename_i hw; rw [if_pos hw] at hg2; exact fWr_eqB he (hcf s) p1 hg2
              · rename_i hw; rw [if_neg hw] at hg2; exact hg2
            · rename_i hb; simp only [hb] at hg2; exact hg2
            · rename_i hb1 hb2
              split at hg2
              · rename_i b hb; exact (hb1 b hb).elim
              · rename_i hb; exact (hb2 hb).elim
              · cases hg2
        rw [hstep]
        exact k1
      · cases h'
    · cases hc
end
end
end Go.Ae
