/- A part of the proof: a machine on trees that is sound for the model, its tables, and contracts of functions. Conditions: none. -/
import Derived.Test.YtpookgemmjdgfaaGreatAeTf
namespace Go.Ae
open Go.RowKit
noncomputable section
theorem gstep_imp {ops : Array Oper} {r r' : Option (V × Hp)} {o : Oper} {ts : List V} {s : Hp} {x : V × Hp} (h : gstep ops r o ts s = some x) (hr : ∀ y, r = some y → r' = some y) : gstep ops r' o ts s = some x := by
  unfold gstep at h ⊢
  split
  · rename_i hg; rw [hg] at h; exact hr _ h
  · rename_i j w hg
    rw [hg] at h
    simp only at h
    split
    · rename_i b hb
      simp only [hb] at h
      split
      · rename_i hw; rw [if_pos hw] at h; exact hr _ h
      · rename_i hw; rw [if_neg hw] at h; exact h
    · rename_i hb; simp only [hb] at h; exact h
    · rename_i hb1 hb2
      split at h
      · rename_i b hb; exact (hb1 b hb).elim
      · rename_i hb; exact (hb2 hb).elim
      · cases h
def fRdQ (cf : List Nat → FuncId → List V → Hp → Option (V × Hp)) (e : Env) (rd : Nat → Option AObj) (i : IOp) : Option V :=
  match fRd e rd i with
  | some v => some v
  | none => (match i with | .call g xs => callQ cf (g.ev e) (xs.map (Src.ev e)) | _ => none)
def fD (pr base : List Nat) (cf : List Nat → FuncId → List V → Hp → Option (V × Hp)) (l : List (Bool × Bool × ILine)) : Bool → Env → Hp → Option (Env × Hp) :=
  List.rec (fun _ e s => some (e, s)) (fun x _ ih fin e s =>
    match x with
    | (true, _, l) => if fin then none else (match fgstep l.g ((fRdQ cf e (viewOf base s) l.i).map fun v => (v, s)) e s with | some (v, _) => ih false (e.putO l.d v) s | none => none)
    | (false, true, l) => (match fgstep l.g (fOp pr (cf pr) e s l.i) e s with | some (v, s') => ih true (e.putO l.d v) s' | none => none)
    | (false, false, l) => if fin then none else (match fgstep l.g (fOp (base ++ pr) (cf (base ++ pr)) e s l.i) e s with | some (v, s') => ih false (e.putO l.d v) s' | none => none)) l
def compDs (I : TI) (n : Nat) (ops : Array Oper) (L : List Nat) : List (Nat × Bool) → Option (List (Bool × Bool × ILine))
  | [] => some []
  | (i, q) :: r =>
    match ops[i]?, compDs I n ops L r with
    | some o, some ls => (match compL I n ops o with | some l => if lookOk ops o l then some ((q, L.contains i, l) :: ls) else none | none => none)
    | _, _ => none
section
variable {I : TI} {pr base : List Nat} {cf : List Nat → FuncId → List V → Hp → Option (V × Hp)}
theorem only_step {ops : Array Oper} {o : Oper} {l : ILine} {n : Nat} (hc : compL I n ops o = some l) (hk : lookOk ops o l = true) {e : Env} (he : e.Ok) (hn : e.n = n) :
    ∃ e1 : Env, e1.Ok ∧ e1.n = n ∧ e1.toL = onlyV ops o e.toL ∧ (∀ x ∈ l.i.srcs, x.ev e = x.ev e1) ∧ ∀ r s, fgstep l.g r e s = fgstep l.g r e1 s := by
  obtain ⟨e1, h1, h2, h3, h4⟩ := only_env (ops := ops) (o := o) he
  simp only [lookOk, Bool.and_eq_true, List.all_eq_true] at hk
  refine ⟨e1, h1, h2.trans hn, h3, fun x hx => ?_, fun r s => ?_⟩
  · have := hk.1 x hx
    cases x with
    | tmp i => exact (h4 i this).symm
    | k v => rfl
  · unfold fgstep
    cases hg : l.g with
    | none => rfl
    | some p =>
      obtain ⟨d, w⟩ := p
      have := hk.2
      rw [hg] at this
      simp only [h4 d this]
theorem fRdQ_congr {e e' : Env} {rd : Nat → Option AObj} {i : IOp} (h : ∀ x ∈ i.srcs, x.ev e = x.ev e') : fRdQ cf e rd i = fRdQ cf e' rd i := by
  unfold fRdQ
  rw [fRd_congr h]
  split
  · rfl
  · split
    · rename_i g xs _
      rw [h g (by simp [IOp.srcs]), List.map_congr_left (fun x hx => h x (by simp [IOp.srcs, hx]))]
    · rfl
theorem comp_call {o : Op} {g : Src} {xs : List Src} (h : comp I o = some (.call g xs)) : ∃ g' args tys, o = .call { callee := .value g', args := args, argTypes := tys } ∧ g = Src.of g' ∧ xs = args.toList.map Src.of := by
  unfold comp at h
  split at h <;> first
    | (injection h with h; cases h; exact ⟨_, _, _, rfl, rfl, rfl⟩)
    | (injection h with h; cases h; done)
    | (cases h; done)
    | (repeat' split at h) <;> first | (injection h with h; cases h; done) | (cases h; done)
theorem fRdQ_eq {e : Env} (he : e.Ok) (hcf : ∀ pr s f args r, cf pr f args s = some r → I.fn.contains f = true) {rd : Nat → Option AObj} {o : Oper} {i : IOp} {v : V} (hc : CompOk I o.op i) (h : fRdQ cf e rd i = some v) : eRdQ I cf rd e.toL o = some v := by
  unfold fRdQ at h
  split at h
  · rename_i v2 hv
    injection h with h
    subst h
    unfold eRdQ
    rw [fRd_eqB he hc hv]
  · split at h
    · rename_i g xs hn
      rcases hc with ⟨_, hc⟩ | hc | ⟨x, os, _, hc⟩
      · obtain ⟨g', args, tys, ho, rfl, rfl⟩ := comp_call hc
        have e1 : (Src.ev e ∘ Src.of) = evV e.toL := funext fun x => (Src.ev_of he x).symm
        rw [List.map_map, e1, ← Src.ev_of he] at h
        unfold eRdQ
        have hr : eRd I rd e.toL o = none := by unfold eRd; rw [ho]
        rw [hr]
        simp only
        unfold eCallQ
        rw [ho]
        have h2 := h
        unfold callQ at h2
        split at h2
        · rename_i f first captured hg
          simp only [hg]
          split at h2
          · split at h2
            · rename_i v2 s2 hcc
              rw [if_pos (hcf _ _ _ _ _ hcc)]
              rw [hg] at h
              exact h
            · cases h2
          · cases h2
        · cases h2
      · cases hc
      · cases hc
    · cases h
theorem fD_eq (hcf : ∀ pr s f args r, cf pr f args s = some r → I.fn.contains f = true) {n : Nat} {ops : Array Oper} {L : List Nat} : ∀ (ord : List (Nat × Bool)) (fl : List (Bool × Bool × ILine)), compDs I n ops L ord = some fl → ∀ (fin : Bool) (e : Env) (s : Hp) (e' : Env) (s' : Hp), e.Ok → e.n = n →
    fD pr base cf fl fin e s = some (e', s') → runD I pr base cf ops L ord fin e.toL s = some (e'.toL, s') ∧ e'.Ok ∧ e'.n = n := by
  intro ord
  induction ord with
  | nil =>
    intro fl hc fin e s e' s' he hn h
    simp only [compDs, Option.some.injEq] at hc
    subst hc
    have h' : some (e, s) = some (e', s') := h
    injection h' with h'
    injection h' with ha hb
    subst ha; subst hb
    exact ⟨rfl, he, hn⟩
  | cons x r ih =>
    obtain ⟨i, q⟩ := x
    intro fl hc fin e s e' s' he hn h
    simp only [compDs] at hc
    split at hc
    · rename_i o ls ho hls
      split at hc
      · rename_i l hl
        split at hc
        · rename_i hk
          injection hc with hc
          subst hc
          obtain ⟨p1, p2, p3⟩ := compL_parts hl
          obtain ⟨e1, o1, o2, o3, o4, o5⟩ := only_step hl hk he hn
          have hput : ∀ v, (e.putO l.d v).Ok ∧ (e.putO l.d v).n = n ∧ (e.putO l.d v).toL = putV e.toL o.dst v := fun v => by
            have hd : dstOk e.n l.d = true := by rw [p2, hn]; exact p3
            obtain ⟨q1, q2, q3⟩ := Env.putO_ok he hd v
            exact ⟨q1, q2.trans hn, by rw [q3, p2]⟩
          have wstep : ∀ pr2 v s1, fgstep l.g (fOp pr2 (cf pr2) e s l.i) e s = some (v, s1) → gstep ops (eOp I pr2 (cf pr2) (onlyV ops o e.toL) s o) o (onlyV ops o e.toL) s = some (v, s1) := by
            intro pr2 v s1 hg
            rw [o5, fOp_congr o4] at hg
            have := fgstep_eq hl o2 hg
            rw [o3] at this
            refine gstep_imp this (fun y hy => ?_)
            obtain ⟨v2, s2⟩ := y
            rw [← o3]
            exact fWr_eqB o1 (hcf pr2 s) p1 hy
          have qstep : ∀ v s1, fgstep l.g ((fRdQ cf e (viewOf base s) l.i).map fun v => (v, s)) e s = some (v, s1) → gstep ops ((eRdQ I cf (viewOf base s) (onlyV ops o e.toL) o).map fun v => (v, s)) o (onlyV ops o e.toL) s = some (v, s1) := by
            intro v s1 hg
            rw [o5, fRdQ_congr o4] at hg
            have := fgstep_eq hl o2 hg
            rw [o3] at this
            refine gstep_imp this (fun y hy => ?_)
            cases hr : fRdQ cf e1 (viewOf base s) l.i with
            | none => rw [hr] at hy; cases hy
            | some v2 => rw [hr] at hy; rw [← o3, fRdQ_eq o1 (fun pr s f args r => hcf pr s f args r) p1 hr]; exact hy
          cases q with
          | true =>
            have h' : (if fin then none else (match fgstep l.g ((fRdQ cf e (viewOf base s) l.i).map fun v => (v, s)) e s with | some (v, _) => fD pr base cf ls false (e.putO l.d v) s | none => none)) = some (e', s') := h
            split at h'
            · cases h'
            · rename_i hf
              split at h'
              · rename_i v s1 hg
                obtain ⟨k1, k2, k3⟩ := ih ls hls false _ s e' s' (hput v).1 (hput v).2.1 h'
                refine ⟨?_, k2, k3⟩
                simp only [runD]
                rw [if_neg hf, ho]
                simp only [qstep v s1 hg]
                rw [← (hput v).2.2]
                exact k1
              · cases h'
          | false =>
            by_cases hL : L.contains i = true
            · rw [hL] at h
              have h' : (match fgstep l.g (fOp pr (cf pr) e s l.i) e s with | some (v, s') => fD pr base cf ls true (e.putO l.d v) s' | none => none) = some (e', s') := h
              split at h'
              · rename_i v s1 hg
                obtain ⟨k1, k2, k3⟩ := ih ls hls true _ s1 e' s' (hput v).1 (hput v).2.1 h'
                refine ⟨?_, k2, k3⟩
                simp only [runD]
                rw [ho]
                simp only [if_pos hL, wstep pr v s1 hg]
                rw [← (hput v).2.2]
                exact k1
              · cases h'
            · have hL' : L.contains i = false := by simpa using hL
              rw [hL'] at h
              have h' : (if fin then none else (match fgstep l.g (fOp (base ++ pr) (cf (base ++ pr)) e s l.i) e s with | some (v, s') => fD pr base cf ls false (e.putO l.d v) s' | none => none)) = some (e', s') := h
              split at h'
              · cases h'
              · rename_i hf
                split at h'
                · rename_i v s1 hg
                  obtain ⟨k1, k2, k3⟩ := ih ls hls false _ s1 e' s' (hput v).1 (hput v).2.1 h'
                  refine ⟨?_, k2, k3⟩
                  simp only [runD]
                  rw [ho]
                  simp only [if_neg hL, if_neg hf, wstep (base ++ pr) v s1 hg]
                  rw [← (hput v).2.2]
                  exact k1
                · cases h'
        · cases hc
      · cases hc
    · cases hc
end
end
end Go.Ae
