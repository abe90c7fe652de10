/- A part of the proof: a machine on trees that is sound for the model, its tables, and contracts of functions. Conditions: none. -/
import Derived.Test.YtpookgemmjdgfaaGreatAeA
namespace Go.Ae
open Go.RowKit

def constV1 (v : Value) : V :=
  match v with
  | .slice none 0 0 => .sl [] 0 .nil
  | v => if Value.flat v then .lit v else .any
def constV (v : Value) : V :=
  match v with
  | .agg cs => .agg (cs.toList.map constV1)
  | v => constV1 v
def evV (ts : List V) : Operand → V
  | .tmp t => ts.getD t (.tup [])
  | .const v => constV v
  | .global _ => .any
  | .func f => .fn (.func f) [] []
def putV (ts : List V) (d : Option Nat) (v : V) : List V :=
  match d with
  | some d => ts.set d v
  | none => ts

section
variable {G : Gh} {w : World}
theorem VRel.undef : VRel G w (.tup []) Go.undef := .tup [] [] rfl (fun i x u h _ => by simp at h)
theorem VRel.nilsl : VRel G w (.sl [] 0 .nil) (.slice none 0 0) :=
  .sl [] 0 .nil none 0 (fun _ => Go.undef) (Nat.le_refl _) (Nat.zero_le _) (fun _ => ⟨rfl, rfl, rfl⟩) (fun _ h => by cases h) (fun i x h => by simp at h) rfl
theorem VRel.const1 (v : Value) : VRel G w (constV1 v) v := by
  unfold constV1
  split
  · exact .nilsl
  · split
    · rename_i h; exact .lit _ h
    · exact .any _
theorem VRel.const (v : Value) : VRel G w (constV v) v := by
  unfold constV
  split
  · rename_i cs
    obtain ⟨cs⟩ := cs
    refine .agg _ cs (by simp) (fun i x u hx hu => ?_)
    simp only [List.getElem?_map] at hx
    rw [show cs[i]? = some u from hu] at hx
    simp at hx
    subst hx
    exact .const1 u
  · exact .const1 _
theorem LRel.ev {ts : List V} {a : Act} (hl : LRel G w ts a.tmps.toList) (x : Operand) : VRel G w (evV ts x) (a.eval x) := by
  cases x with
  | tmp t =>
    simp only [evV, Act.eval]
    by_cases h : t < ts.length
    · obtain ⟨u, h1, h2⟩ := hl.get (List.getElem?_eq_getElem h)
      have : a.tmps.getD t undef = u := by
        rw [Array.getD_eq_getD_getElem?, ← Array.getElem?_toList, h1]; rfl
      rw [this, List.getD_eq_getElem?_getD, List.getElem?_eq_getElem h]
      exact h2
    · have h' : ¬ t < a.tmps.toList.length := by rw [hl.1]; exact h
      have e1 : ts[t]? = none := List.getElem?_eq_none (Nat.le_of_not_lt h)
      have e2 : a.tmps.toList[t]? = none := List.getElem?_eq_none (Nat.le_of_not_lt h')
      rw [List.getD_eq_getElem?_getD, e1, Array.getD_eq_getD_getElem?, ← Array.getElem?_toList, e2]
      exact .undef
  | const v => exact .const v
  | global g => exact .any _
  | func f => exact .fn _ [] [] [] [] rfl rfl (fun i x u h _ => by simp at h) (fun i x u h _ => by simp at h)
theorem LRel.put {ts : List V} {a : Act} (hl : LRel G w ts a.tmps.toList) (d : Option Nat) {v : V} {u : Value} (h : VRel G w v u) : LRel G w (putV ts d v) (a.put d u).tmps.toList := by
  cases d with
  | none => exact hl
  | some d =>
    have := hl.set d h
    simpa [putV, Act.put] using this
end

/-- One operation. -/
def AOp (P : Program) (o : Oper) (ts : List V) (T : Tb) (K : V → Tb → Prop) : Prop :=
  ∀ (B : Nat → Prop) (w0 : World) (G : Gh) (w : World) (a : Act), Rel B w0 G w T → LRel G w ts a.tmps.toList →
    ∀ (next : Act → World → Prop) (Q' : Exit → Act → World → Prop),
      (∀ u v G' w' T', Le G w G' w' → VRel G' w' v u → Rel B w0 G' w' T' → K v T' → next (a.put o.dst u) w') → o.wp P a w next Q'

section
variable {P : Program} {o : Oper} {ts : List V} {T : Tb} {K : V → Tb → Prop}
theorem aop_value (h : ∀ (B : Nat → Prop) (w0 : World) (G : Gh) (w : World) (a : Act), Rel B w0 G w T → LRel G w ts a.tmps.toList →
    ∃ u w' G' v T', (execOp a.eval o).run P w = .ok (.value u) w' ∧ Le G w G' w' ∧ VRel G' w' v u ∧ Rel B w0 G' w' T' ∧ K v T') : AOp P o ts T K := by
  intro B w0 G w a hr hl next Q' hk
  obtain ⟨u, w', G', v, T', h1, h2, h3, h4, h5⟩ := h B w0 G w a hr hl
  unfold Oper.wp
  rw [h1]
  exact hk u v G' w' T' h2 h3 h4 h5
theorem aop_skip (h : ∀ (B : Nat → Prop) (w0 : World) (G : Gh) (w : World) (a : Act), Rel B w0 G w T → LRel G w ts a.tmps.toList →
    ∃ w' G' T', (execOp a.eval o).run P w = .ok .skip w' ∧ Le G w G' w' ∧ Rel B w0 G' w' T' ∧ K (.tup []) T') : AOp P o ts T K := by
  intro B w0 G w a hr hl next Q' hk
  obtain ⟨w', G', T', h1, h2, h4, h5⟩ := h B w0 G w a hr hl
  unfold Oper.wp
  rw [h1]
  exact hk undef (.tup []) G' w' T' h2 .undef h4 h5
theorem aop_mono {K' : V → Tb → Prop} (h : AOp P o ts T K) (hk : ∀ v T', K v T' → K' v T') : AOp P o ts T K' :=
  fun B w0 G w a hr hl next Q' hn => h B w0 G w a hr hl next Q' fun u v G' w' T' h1 h2 h3 h4 => hn u v G' w' T' h1 h2 h3 (hk _ _ h4)
end

def yieldV (ops : Array Oper) (ts : List V) (j : Nat) : Option Bool :=
  match ((ops[j]?).bind (·.dst)).bind (ts[·]?) with
  | some (.lit (.bool b)) => some b
  | _ => none

/-- The guard was not reckoned itself. -/
def undV (ops : Array Oper) (ts : List V) (j : Nat) : Bool :=
  match ((ops[j]?).bind (·.dst)).bind (ts[·]?) with
  | some (.tup []) => true
  | _ => false
/-- A row of operations, in the order of the text. -/
def AOps (P : Program) (ops : Array Oper) (Q : List V → Tb → Prop) : List Oper → List V → Tb → Prop
  | [], ts, T => Q ts T
  | o :: rest, ts, T =>
    match o.guard with
    | none => AOp P o ts T fun v T' => AOps P ops Q rest (putV ts o.dst v) T'
    | some (j, want) => (∃ b, yieldV ops ts j = some b ∧
        (b = want → AOp P o ts T fun v T' => AOps P ops Q rest (putV ts o.dst v) T') ∧ (b ≠ want → AOps P ops Q rest (putV ts o.dst (.tup [])) T)) ∨
        (undV ops ts j = true ∧ AOps P ops Q rest (putV ts o.dst (.tup [])) T)

theorem yield_rel {G : Gh} {w : World} {ops : Array Oper} {ts : List V} {tmps : Array Value} (hl : LRel G w ts tmps.toList) {j : Nat} {b : Bool} (h : yieldV ops ts j = some b) : yielded ops tmps j = some b := by
  unfold yieldV at h
  unfold yielded
  cases hd : (ops[j]?).bind (·.dst) with
  | none => rw [hd] at h; simp at h
  | some d =>
    rw [hd] at h
    simp only [Option.bind_some] at h ⊢
    cases hx : ts[d]? with
    | none => rw [hx] at h; simp at h
    | some x =>
      obtain ⟨u, h1, h2⟩ := hl.get hx
      rw [hx] at h
      rw [← Array.getElem?_toList, h1]
      split at h
      · rename_i b' he
        simp only [Option.some.injEq] at he
        subst he
        cases h2 with
        | lit u hu => simpa using h
      · cases h

theorem und_rel {G : Gh} {w : World} {ops : Array Oper} {ts : List V} {tmps : Array Value} (hl : LRel G w ts tmps.toList) {j : Nat} (h : undV ops ts j = true) : yielded ops tmps j = none := by
  unfold undV at h
  unfold yielded
  cases hd : (ops[j]?).bind (·.dst) with
  | none => rw [hd] at h; simp at h
  | some d =>
    rw [hd] at h
    simp only [Option.bind_some] at h ⊢
    cases hx : ts[d]? with
    | none => rw [hx] at h; simp at h
    | some x =>
      obtain ⟨u, h1, h2⟩ := hl.get hx
      rw [hx] at h
      rw [← Array.getElem?_toList, h1]
      split at h
      · rename_i he
        simp only [Option.some.injEq] at he
        subst he
        cases h2 with
        | tup _ us hz _ => rfl
      · cases h
theorem aops_wp {P : Program} {ops : Array Oper} {Q : List V → Tb → Prop} {Qc : Exit → Act → World → Prop} {B : Nat → Prop} {w0 : World} {G0 : Gh} {w00 : World}
    (hQ : ∀ G' ts' T' a' w', Le G0 w00 G' w' → Rel B w0 G' w' T' → LRel G' w' ts' a'.tmps.toList → a'.defers = [] → Q ts' T' → Qc .normal a' w') (l : List Oper) :
    ∀ (ts : List V) (T : Tb), AOps P ops Q l ts T → ∀ (G : Gh) (w : World) (a : Act), Le G0 w00 G w → Rel B w0 G w T → LRel G w ts a.tmps.toList → a.defers = [] → wpList P ops Qc l a w := by
  induction l with
  | nil => intro ts T h G w a hle hr hl hd; exact hQ G ts T a w hle hr hl hd h
  | cons o rest ih =>
    intro ts T h G w a hle hr hl hd
    have step : ∀ (K : Act → World → Prop), (∀ a' w', wpList P ops Qc rest a' w' → K a' w') →
        (AOp P o ts T fun v T' => AOps P ops Q rest (putV ts o.dst v) T') → o.wp P a w K Qc := by
      intro K hK hop
      refine hop B w0 G w a hr hl K _ ?_
      intro u v G' w' T' h1 h2 h3 h4
      refine hK _ _ (ih (putV ts o.dst v) T' h4 G' w' (a.put o.dst u) (hle.trans h1) h3 ((hl.mono h1).put o.dst h2) ?_)
      cases hdst : o.dst <;> simpa [Act.put, hdst] using hd
    simp only [AOps] at h
    refine wpList_step fun K hK => ?_
    cases hg : o.guard with
    | none =>
      rw [hg] at h
      rw [if_pos (by simp [Region.wanted, hg])]
      exact step K hK h
    | some jw =>
      obtain ⟨j, want⟩ := jw
      rw [hg] at h
      rcases h with ⟨b, hy, h1, h2⟩ | ⟨hu, h2⟩
      rotate_left
      · rw [if_neg (by simp [Region.wanted, hg, und_rel hl hu])]
        refine hK _ _ (ih (putV ts o.dst (.tup [])) T h2 G w (a.put o.dst Go.undef) hle hr (hl.put o.dst .undef) ?_)
        cases hdst : o.dst <;> simpa [Act.put, hdst] using hd
      have hy' := yield_rel hl hy
      by_cases hb : b = want
      · rw [if_pos (by simp [Region.wanted, hg, hy', hb])]
        exact step K hK (h1 hb)
      · rw [if_neg (by simp [Region.wanted, hg, hy', hb])]
        refine hK _ _ (ih _ T (h2 hb) G w (a.put o.dst Go.undef) hle hr (hl.put o.dst .undef) ?_)
        cases hdst : o.dst <;> simpa [Act.put, hdst] using hd

theorem awp_region {P : Program} {id : Nat} {ops : List Oper} {Q : Exit → List V → Tb → Prop} {ts : List V} {T : Tb} (h : AOps P ops.toArray (Q .normal) ops ts T) : AWP P (.region id ops.toArray false) Q ts T := by
  intro B w0 G w a hr hl hd
  exact wp_region_list (aops_wp (fun G' ts' T' a' w' h1 h2 h3 h4 h5 => ⟨G', ts', T', h1, h2, h3, h4, h5⟩) ops ts T h G w a (Le.refl _ _) hr hl hd)
theorem awp_cond {P : Program} {c : Operand} {x y : Code} {Q : Exit → List V → Tb → Prop} {ts : List V} {T : Tb} {b : Bool} (hc : evV ts c = .lit (.bool b))
    (h1 : b = true → AWP P x Q ts T) (h2 : b = false → AWP P y Q ts T) : AWP P (.cond c x y) Q ts T := by
  intro B w0 G w a hr hl hd
  have hv := hl.ev c
  rw [hc] at hv
  generalize hu : a.eval c = u at hv
  cases hv
  exact wp_cond_split hu (fun h => h1 h B w0 G w a hr hl hd) (fun h => h2 h B w0 G w a hr hl hd)
end Go.Ae
