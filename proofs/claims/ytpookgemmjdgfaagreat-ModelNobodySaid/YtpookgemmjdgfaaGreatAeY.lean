/- A part of the proof: a machine on trees that is sound for the model, its tables, and contracts of functions. Conditions: none. -/
import Derived.Test.YtpookgemmjdgfaaGreatAeX
namespace Go.Ae
open Go.RowKit

/-! ### Forgetting slots; loops -/
def mask : List Bool → List V → List V
  | true :: m, _ :: ts => .any :: mask m ts
  | false :: m, v :: ts => v :: mask m ts
  | [], ts => ts
  | _, [] => []
theorem LRel.mask {G : Gh} {w : World} : ∀ (m : List Bool) {ts : List V} {us : List Value}, LRel G w ts us → LRel G w (mask m ts) us
  | [], ts, us, h => by cases ts <;> exact h
  | b :: m, [], us, h => by cases b <;> exact h
  | b :: m, v :: ts, us, h => by
    cases us with
    | nil => have := h.1; simp at this
    | cons u us =>
      have h0 : VRel G w v u := h.2 0 v u rfl rfl
      have ht : LRel G w ts us := ⟨by have := h.1; simpa using this, fun i x y hx hy => h.2 (i + 1) x y hx hy⟩
      have := LRel.mask m ht
      cases b
      · exact LRel.cons h0 this
      · exact LRel.cons (.any u) this
section
variable {P : Program} {c : Code} {Q : Exit → List V → Tb → Prop} {ts : List V} {T : Tb}
theorem awp_mask (m : List Bool) (h : AWP P c Q (mask m ts) T) : AWP P c Q ts T :=
  fun B w0 G w a hr hl hd => h B w0 G w a hr (hl.mask m) hd
theorem awp_post {Q' : Exit → List V → Tb → Prop} (m : Exit → List Bool) (h : AWP P c Q' ts T) (hq : ∀ e ts T, Q' e ts T → Q e (mask (m e) ts) T) : AWP P c Q ts T :=
  fun B w0 G w a hr hl hd => Code.wp_mono (fun e _ _ ⟨G', ts', T', h1, h2, h3, h4, h5⟩ => ⟨G', mask (m e) ts', T', h1, h2, h3.mask _, h4, hq _ _ _ h5⟩) (h B w0 G w a hr hl hd)
/-- Labels that are not wanted any more are forgotten. -/
theorem awp_forget {T' : Tb} (hs : ∀ b o, T' b = some o → T b = some o) (hm : T.lim ≤ T'.lim) (h : AWP P c Q ts T') : AWP P c Q ts T :=
  fun B w0 G w a hr hl hd => h B w0 G w a (hr.weaken hs hm) hl hd
end
/-- Slots are forgotten by a number's bits. -/
def maskN : Nat → List V → List V
  | _, [] => []
  | m, v :: ts => (if m % 2 = 1 then .any else v) :: maskN (m / 2) ts
theorem LRel.maskN {G : Gh} {w : World} : ∀ (m : Nat) {ts : List V} {us : List Value}, LRel G w ts us → LRel G w (Ae.maskN m ts) us
  | _, [], us, h => h
  | m, v :: ts, us, h => by
    cases us with
    | nil => have := h.1; simp at this
    | cons u us =>
      have h0 : VRel G w v u := h.2 0 v u rfl rfl
      have ht : LRel G w ts us := ⟨by have := h.1; simpa using this, fun i x y hx hy => h.2 (i + 1) x y hx hy⟩
      simp only [Ae.maskN]
      split
      · exact LRel.cons (.any u) (LRel.maskN (m / 2) ht)
      · exact LRel.cons h0 (LRel.maskN (m / 2) ht)
section
variable {P : Program} {c : Code} {Q : Exit → List V → Tb → Prop} {ts : List V} {T : Tb}
/-- To go on from a state that is known less of. -/
theorem awp_at (m : Nat) (ts' : List V) (T' : Tb) (hts : maskN m ts = ts') (hT : T'.Sub T) (h : AWP P c Q ts' T') : AWP P c Q ts T :=
  fun B w0 G w a hr hl hd => h B w0 G w a (hr.weaken hT.1 hT.2) (hts ▸ hl.maskN m) hd
theorem sub_refl (T : Tb) : T.Sub T := ⟨fun _ _ h => h, Nat.le_refl _⟩
end
/-- So many rounds of a step. -/
def loopN {S E : Type} (step : S → Option (S ⊕ E)) : Nat → S → Option E
  | 0, _ => none
  | k + 1, s => (step s).bind fun o => match o with | .inl s' => loopN step k s' | .inr e => some e
/-- What a state comes to, some of it forgotten. -/
def Wk (Inv : List V → Tb → Prop) (ts : List V) (T : Tb) : Prop := ∃ m T', T'.Sub T ∧ Inv (maskN m ts) T'
def LPost {S E : Type} (Inv : S → List V → Tb → Prop) (Ex : E → Exit → List V → Tb → Prop) (o : S ⊕ E) : Exit → List V → Tb → Prop := fun e ts T =>
  match o with
  | .inl s => e = .normal ∧ Wk (Inv s) ts T
  | .inr x => e ≠ .normal ∧ Wk (Ex x e) ts T
theorem awp_weak {P : Program} {c : Code} {Q Q' : Exit → List V → Tb → Prop} {ts : List V} {T : Tb} (h : AWP P c Q' ts T) (hq : ∀ e ts T, Q' e ts T → Wk (Q e) ts T) : AWP P c Q ts T :=
  fun B w0 G w a hr hl hd => Code.wp_mono (fun e _ _ ⟨G', ts', T', h1, h2, h3, h4, h5⟩ => by
    obtain ⟨m, T'', k1, k2⟩ := hq e ts' T' h5
    exact ⟨G', maskN m ts', T'', h1, h2.weaken k1.1 k1.2, h3.maskN m, h4, k2⟩) (h B w0 G w a hr hl hd)
/-- A loop, by its step. -/
theorem loop_rule {P : Program} {c : Code} {S E : Type} (step : S → Option (S ⊕ E)) (Inv : S → List V → Tb → Prop) (Ex : E → Exit → List V → Tb → Prop)
    (hbody : ∀ s ts T, Inv s ts T → ∀ o, step s = some o → AWP P c (LPost Inv Ex o) ts T) : ∀ k s x, loopN step k s = some x → ∀ ts T, Inv s ts T → AWP P (.loop c) (Ex x) ts T := by
  intro k s x hx ts T hi
  refine awp_loop k ?_
  induction k generalizing s ts T with
  | zero => cases hx
  | succ k ih =>
    simp only [loopN] at hx
    cases hs : step s with
    | none => rw [hs] at hx; cases hx
    | some o =>
      rw [hs] at hx
      simp only [Option.bind_some] at hx
      refine awp_weak (hbody s ts T hi o hs) (fun e ts' T' h => ?_)
      cases o with
      | inl s' =>
        obtain ⟨rfl, m, T'', k1, k2⟩ := h
        exact ⟨m, T'', k1, ih s' hx _ _ k2⟩
      | inr y =>
        simp only [Option.some.injEq] at hx
        subst hx
        obtain ⟨hne, m, T'', k1, k2⟩ := h
        refine ⟨m, T'', k1, ?_⟩
        cases e with
        | normal => exact (hne rfl).elim
        | _ => exact k2
def cAt : Code → List Nat → Code
  | .seq x _, 0 :: p => cAt x p
  | .seq _ y, 1 :: p => cAt y p
  | .block _ c, 0 :: p => cAt c p
  | .loop c, 0 :: p => cAt c p
  | .cond _ x _, 0 :: p => cAt x p
  | .cond _ _ y, 1 :: p => cAt y p
  | c, _ => c
def bodyAt (f : Func) (p : List Nat) : Code := cAt (f.body.getD .skip) p
end Go.Ae
