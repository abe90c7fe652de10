/- A part of the proof: a machine on trees that is sound for the model, its tables, and contracts of functions. Conditions: none. -/
import Derived.Test.YtpookgemmjdgfaaGreatAeY
import Derived.Orders
namespace Go.Ae
open Go.RowKit

/-! ### A statement whose order is open -/
def onlyGo (l : List Nat) : Nat → List V → List V
  | _, [] => []
  | n, v :: ts => (if l.contains n then v else .any) :: onlyGo l (n + 1) ts
def onlyV (ops : Array Oper) (o : Oper) (ts : List V) : List V := onlyGo (o.looksAt ops) 0 ts
theorem LRel.onlyGo {G : Gh} {w : World} (l : List Nat) : ∀ (n : Nat) {ts : List V} {us : List Value}, LRel G w ts us → LRel G w (onlyGo l n ts) us
  | _, [], _, h => h
  | n, v :: ts, us, h => by
    cases us with
    | nil => have := h.1; simp at this
    | cons u us =>
      have h0 : VRel G w v u := h.2 0 v u rfl rfl
      have ht : LRel G w ts us := ⟨by have := h.1; simpa using this, fun i x y hx hy => h.2 (i + 1) x y hx hy⟩
      simp only [Ae.onlyGo]
      split
      · exact LRel.cons h0 (LRel.onlyGo l (n + 1) ht)
      · exact LRel.cons (.any u) (LRel.onlyGo l (n + 1) ht)
theorem onlyGo_set (l : List Nat) (v : V) : ∀ (n d : Nat) (ts : List V), l.contains (n + d) = false → onlyGo l n (ts.set d v) = onlyGo l n ts
  | _, _, [], _ => rfl
  | n, 0, x :: ts, h => by
    simp only [List.set_cons_zero, onlyGo]
    rw [show l.contains n = false by simpa using h]
    rfl
  | n, d + 1, x :: ts, h => by
    simp only [List.set_cons_succ, onlyGo]
    rw [onlyGo_set l v (n + 1) d ts (by rw [show n + 1 + d = n + (d + 1) by omega]; exact h)]
theorem onlyV_put {ops : Array Oper} {o : Oper} {ts : List V} {d : Option Nat} {v : V} (h : ∀ x, d = some x → x ∉ o.looksAt ops) : onlyV ops o (putV ts d v) = onlyV ops o ts := by
  cases d with
  | none => rfl
  | some d => exact onlyGo_set _ v 0 d ts (by have := h d rfl; simpa using this)

def AStep (P : Program) (ops : Array Oper) (o : Oper) (ts : List V) (T : Tb) (K : V → Tb → Prop) : Prop :=
  match o.guard with
  | none => AOp P o (onlyV ops o ts) T K
  | some (j, want) => (∃ b, yieldV ops (onlyV ops o ts) j = some b ∧ (b = want → AOp P o (onlyV ops o ts) T K) ∧ (b ≠ want → K (.tup []) T)) ∨ (undV ops (onlyV ops o ts) j = true ∧ K (.tup []) T)
theorem AStep.mono {P : Program} {ops : Array Oper} {o : Oper} {ts : List V} {T : Tb} {K K' : V → Tb → Prop} (h : AStep P ops o ts T K) (hk : ∀ v T', K v T' → K' v T') : AStep P ops o ts T K' := by
  unfold AStep at *
  split
  · rename_i hg; rw [hg] at h; exact aop_mono h hk
  · rename_i j want hg
    rw [hg] at h
    rcases h with ⟨b, h1, h2, h3⟩ | ⟨h1, h2⟩
    · exact .inl ⟨b, h1, fun e => aop_mono (h2 e) hk, fun e => hk _ _ (h3 e)⟩
    · exact .inr ⟨h1, hk _ _ h2⟩
theorem AStep.put {P : Program} {ops : Array Oper} {o : Oper} {ts : List V} {d : Option Nat} {v : V} {T : Tb} {K : V → Tb → Prop} (h : ∀ x, d = some x → x ∉ o.looksAt ops) : AStep P ops o (putV ts d v) T K ↔ AStep P ops o ts T K := by
  unfold AStep
  rw [onlyV_put h]

section
variable (P : Program) (ops : Array Oper) (C : Tb → Prop) (L : List Nat) (Q : List V → Tb → Prop)
def AAny : Nat → Array Bool → List V → Tb → Prop
  | 0, listed, ts, T => Region.ready .any ops listed = [] ∧ Q ts T
  | fuel + 1, listed, ts, T => (Region.ready .any ops listed = [] → Q ts T) ∧ ∀ i ∈ Region.ready .any ops listed, ∀ o, ops[i]? = some o →
      AStep P ops o ts T fun v T' => (i ∉ L → C T') ∧ AAny fuel (listed.setIfInBounds i true) (putV ts o.dst v) T'
end

section
variable {P : Program} {ops : Array Oper} {C : Tb → Prop} {L : List Nat} {Q : List V → Tb → Prop}

theorem aany_wp {Qc : Exit → Act → World → Prop} {B : Nat → Prop} {w0 : World} {G0 : Gh} {w00 : World}
    (hQ : ∀ G' ts' T' a' w', Le G0 w00 G' w' → Rel B w0 G' w' T' → LRel G' w' ts' a'.tmps.toList → a'.defers = [] → Q ts' T' → Qc .normal a' w') :
    ∀ (fuel : Nat) (listed : Array Bool) (ts : List V) (T : Tb), AAny P ops C L Q fuel listed ts T → ∀ (G : Gh) (w : World) (a : Act), Le G0 w00 G w → Rel B w0 G w T → LRel G w ts a.tmps.toList → a.defers = [] →
      wpAny P .any ops Qc fuel listed a w := by
  intro fuel
  induction fuel with
  | zero => intro listed ts T h G w a hle hr hl hd; exact ⟨h.1, hQ G ts T a w hle hr hl hd h.2⟩
  | succ fuel ih =>
    intro listed ts T h G w a hle hr hl hd
    refine ⟨fun e => hQ G ts T a w hle hr hl hd (h.1 e), fun i hi => ?_⟩
    obtain ⟨_, o, ho, _⟩ := mem_ready.1 hi
    have hs := h.2 i hi o ho
    have hlo : LRel G w (onlyV ops o ts) a.tmps.toList := hl.onlyGo _ 0
    have go : ∀ u v G' w' T', Le G w G' w' → VRel G' w' v u → Rel B w0 G' w' T' → (i ∉ L → C T') ∧ AAny P ops C L Q fuel (listed.setIfInBounds i true) (putV ts o.dst v) T' → wpAny P .any ops Qc fuel (listed.setIfInBounds i true) (a.put o.dst u) w' := by
      intro u v G' w' T' h1 h2 h3 h4
      refine ih _ _ _ h4.2 G' w' (a.put o.dst u) (hle.trans h1) h3 ((hl.mono h1).put o.dst h2) ?_
      cases hdst : o.dst <;> simpa [Act.put, hdst] using hd
    unfold wpOp
    rw [ho]
    simp only
    unfold AStep at hs
    cases hg : o.guard with
    | none =>
      rw [hg] at hs
      rw [if_pos (by simp [Region.wanted, hg])]
      exact .inl (hs B w0 G w a hr hlo _ _ go)
    | some jw =>
      obtain ⟨j, want⟩ := jw
      rw [hg] at hs
      rcases hs with ⟨b, hy, h1, h2⟩ | ⟨hu, h2⟩
      rotate_left
      · rw [if_neg (by simp [Region.wanted, hg, und_rel hlo hu])]
        exact go Go.undef (.tup []) G w T (Le.refl _ _) .undef hr h2
      have hy' := yield_rel hlo hy
      by_cases hb : b = want
      · rw [if_pos (by simp [Region.wanted, hg, hy', hb])]
        exact .inl (h1 hb B w0 G w a hr hlo _ _ go)
      · rw [if_neg (by simp [Region.wanted, hg, hy', hb])]
        exact go Go.undef (.tup []) G w T (Le.refl _ _) .undef hr (h2 hb)

theorem awp_draw {id : Nat} {ops : List Oper} {Q : Exit → List V → Tb → Prop} {ts : List V} {T : Tb} (C : Tb → Prop) (L : List Nat) (hm : P.follows .mixedOrders = true)
    (h : AAny P ops.toArray C L (Q .normal) ops.length (Array.replicate ops.length false) ts T) : AWP P (.region id ops.toArray true) Q ts T := by
  intro B w0 G w a hr hl hd
  have hr' : Rel B w0 G { w with drawn := w.drawn + 1 } T := hr.heap rfl rfl rfl rfl
  have hle := Le.heap G (w := w) (w' := { w with drawn := w.drawn + 1 }) rfl
  exact wp_region_any hm (aany_wp (fun G' ts' T' a' w' h1 h2 h3 h4 h5 => ⟨G', ts', T', h1, h2, h3, h4, h5⟩) _ _ ts T h G _ a hle hr' (hl.mono hle) hd)

theorem putV_comm (ts : List V) {x y : Option Nat} (v u : V) (h : ∀ d, x = some d → y ≠ some d) : putV (putV ts x v) y u = putV (putV ts y u) x v := by
  cases x with
  | none => rfl
  | some d =>
    cases y with
    | none => rfl
    | some e =>
      have hne : d ≠ e := fun eq => h d rfl (by rw [eq])
      simp only [putV]
      rw [List.set_comm _ _ hne]

/-- What only reads may be taken first. -/
theorem aany_first {i : Nat} {oi : Oper} {v : V} (hi : ops[i]? = some oi) (hL : ∀ l ∈ L, ∃ ol, ops[l]? = some ol ∧ ∃ e ∈ ol.after, Region.binds .any e = true ∧ e.on = i) (hiL : i ∉ L) :
    ∀ (fuel : Nat) (listed : Array Bool) (ts : List V) (T : Tb),
      (∀ j oj, ops[j]? = some oj → j ≠ i → listed.getD j true = false → (∀ e ∈ oj.after, Region.binds .any e = true → e.on ≠ i) → oi.apart ops oj = true) →
      i ∈ Region.ready .any ops listed → C T → (∀ T', C T' → AStep P ops oi ts T' fun v' T'' => v' = v ∧ T'' = T') →
      AAny P ops C L Q fuel (listed.setIfInBounds i true) (putV ts oi.dst v) T → AAny P ops C L Q (fuel + 1) listed ts T := by
  intro fuel
  have self : ∀ (fuel : Nat) (listed : Array Bool) (ts : List V) (T : Tb), C T → (∀ T', C T' → AStep P ops oi ts T' fun v' T'' => v' = v ∧ T'' = T') → AAny P ops C L Q fuel (listed.setIfInBounds i true) (putV ts oi.dst v) T →
      ∀ o, ops[i]? = some o → AStep P ops o ts T fun v T' => (i ∉ L → C T') ∧ AAny P ops C L Q fuel (listed.setIfInBounds i true) (putV ts o.dst v) T' := by
    intro fuel listed ts T hC hy H o ho
    rw [hi] at ho
    injection ho with ho
    subst ho
    exact (hy T hC).mono fun v' T'' ⟨e1, e2⟩ => by subst e1; subst e2; exact ⟨fun _ => hC, H⟩
  induction fuel with
  | zero =>
    intro listed ts T _ hr hC hy H
    refine ⟨fun h => (by rw [h] at hr; cases hr), fun j hj => ?_⟩
    by_cases hji : j = i
    · subst hji; exact self 0 listed ts T hC hy H
    · have := ready_mono hj hji
      rw [H.1] at this
      cases this
  | succ fuel ih =>
    intro listed ts T hfree hr hC hy H
    refine ⟨fun h => (by rw [h] at hr; cases hr), fun j hj => ?_⟩
    by_cases hji : j = i
    · subst hji; exact self (fuel + 1) listed ts T hC hy H
    · intro oj hoj
      have h1 := H.2 j (ready_mono hj hji) oj hoj
      obtain ⟨hjun, oj', hoj', hall⟩ := mem_ready.1 hj
      rw [hoj] at hoj'
      injection hoj' with hoj'
      subst hoj'
      have hnot : ∀ e ∈ oj.after, Region.binds .any e = true → e.on ≠ i := fun e he hb heq => by
        have h1 := hall e he hb
        have h0 := (mem_ready.1 hr).1
        rw [heq] at h1
        rcases Nat.lt_or_ge i listed.size with h' | h'
        · simp [h'] at h0 h1; rw [h0] at h1; cases h1
        · simp [Array.getElem?_eq_none h'] at h1
      have hap := hfree j oj hoj hji hjun hnot
      obtain ⟨a1, a2, a3⟩ := Oper.apart_spec hap
      rw [AStep.put a1] at h1
      have hjL : j ∉ L := fun hjl => by
        obtain ⟨ol, hol, e, he, hb, heq⟩ := hL j hjl
        rw [hoj] at hol
        injection hol with hol
        subst hol
        exact hnot e he hb heq
      have hfree' : ∀ k ok, ops[k]? = some ok → k ≠ i → (listed.setIfInBounds j true).getD k true = false →
          (∀ e ∈ ok.after, Region.binds .any e = true → e.on ≠ i) → oi.apart ops ok = true := fun k ok hk hki hun hno => by
        refine hfree k ok hk hki ?_ hno
        by_cases hjk : j = k
        · subst hjk; exact hjun
        · rw [getD_set_ne true hjk] at hun; exact hun
      refine h1.mono fun u T' ⟨hc, h3⟩ => ⟨hc, ih (listed.setIfInBounds j true) _ T' hfree' (ready_mono hr (Ne.symm hji)) (hc hjL) (fun T'' hC'' => (AStep.put a3).2 (hy T'' hC'')) ?_⟩
      rw [putV_comm _ _ _ (fun d hd e => a2 d e hd), Array.setIfInBounds_comm _ _ hji]
      exact h3

def lastOk (ops : Array Oper) (L : List Nat) (i : Nat) : Bool := !L.contains i && L.all fun l => match ops[l]? with | some ol => ol.after.any fun e => Region.binds .any e && e.on == i | none => false
theorem lastOk_spec {i : Nat} (h : lastOk ops L i = true) : (∀ l ∈ L, ∃ ol, ops[l]? = some ol ∧ ∃ e ∈ ol.after, Region.binds .any e = true ∧ e.on = i) ∧ i ∉ L := by
  simp only [lastOk, Bool.and_eq_true, Bool.not_eq_true', List.all_eq_true] at h
  refine ⟨fun l hl => ?_, by simpa using h.1⟩
  have := h.2 l hl
  split at this
  · rename_i ol hol
    obtain ⟨e, he, hb⟩ := Array.any_eq_true'.1 this
    simp only [Bool.and_eq_true, beq_iff_eq] at hb
    exact ⟨ol, hol, e, he, hb⟩
  · cases this
/-- May the operation be taken first? -/
def takeOk (ops : Array Oper) (L : List Nat) (listed : Array Bool) (i : Nat) : Bool := Region.free .any ops listed i && (Region.ready .any ops listed).contains i && lastOk ops L i
theorem aany_take (i : Nat) (v : V) {oi : Oper} {fuel : Nat} {listed listed' : Array Bool} {ts ts' : List V} {T : Tb} (hi : ops[i]? = some oi) (hk : takeOk ops L listed i = true) (hl : listed.setIfInBounds i true = listed') (hts : putV ts oi.dst v = ts') (hC : C T)
    (hy : ∀ T', C T' → AStep P ops oi ts T' fun v' T'' => v' = v ∧ T'' = T') (h : AAny P ops C L Q fuel listed' ts' T) : AAny P ops C L Q (fuel + 1) listed ts T := by
  simp only [takeOk, Bool.and_eq_true] at hk
  obtain ⟨⟨h1, h2⟩, h3⟩ := hk
  obtain ⟨h4, h5⟩ := lastOk_spec h3
  subst hl
  subst hts
  exact aany_first hi h4 h5 fuel listed ts T (Region.free_spec hi h1) (by simpa using h2) hC hy h
/-- Only one operation can be next. -/
theorem aany_only (i : Nat) {oi : Oper} {fuel : Nat} {listed : Array Bool} {ts : List V} {T : Tb} (hi : ops[i]? = some oi) (hr : Region.ready .any ops listed = [i])
    (h : AStep P ops oi ts T fun v T' => (i ∉ L → C T') ∧ AAny P ops C L Q fuel (listed.setIfInBounds i true) (putV ts oi.dst v) T') : AAny P ops C L Q (fuel + 1) listed ts T := by
  refine ⟨fun e => (by rw [hr] at e; cases e), fun j hj o ho => ?_⟩
  rw [hr] at hj
  simp at hj
  subst hj
  rw [hi] at ho
  injection ho with ho
  subst ho
  exact h
theorem aany_done {listed : Array Bool} {ts : List V} {T : Tb} (hr : Region.ready .any ops listed = []) (h : Q ts T) : ∀ fuel, AAny P ops C L Q fuel listed ts T
  | 0 => ⟨hr, h⟩
  | _ + 1 => ⟨fun _ => h, by rw [hr]; simp⟩
end
end Go.Ae
