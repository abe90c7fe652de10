/- A part of the proof: a machine on trees that is sound for the model, its tables, and contracts of functions. Conditions: none. -/
import Derived.Test.YtpookgemmjdgfaaGreatAeZa
import Derived.Test.YtpookgemmjdgfaaGreatAeXq
namespace Go.Ae
open Go.RowKit

/-! ### Operations that write -/
section
variable (P : Program) (I : TI) (pr : List Nat) (cf : FuncId → List V → Hp → Option (V × Hp)) (ts : List V) (s : Hp)
def eStore (t : TypeId) (x y : Operand) : Option (V × Hp) :=
  match evV ts x, szV I t with
  | .ptr b off, some n => (match s.at b with
    | some (.cells cs) => if ((evV ts y).okc = true ∧ ((evV ts y).cells.all V.one) = true ∧ (evV ts y).cells.length = n ∧ off + n ≤ cs.length) ∧ pr.contains b = false then some (.tup [], s.put b (some (.cells (spl cs off (evV ts y).cells)))) else none
    | _ => none)
  | _, _ => none
def eAlloc (e : TypeId) : Option (V × Hp) :=
  match look I.ze e with
  | some z => some (.ptr s.n 0, s.new (.cells (constV z).cells))
  | none => none
def eBox (x : Operand) : Option (V × Hp) := if (evV ts x).okc then some (.ptr s.n 0, s.new (.cells (evV ts x).cells)) else none
def eAppend (t : TypeId) (x y : Operand) : Option (V × Hp) :=
  match evV ts x, evV ts y, look I.sl t with
  | .sl cs n tok, .sl ds m _, some e =>
    if cs.length = n * e.2.1 ∧ ds.length = m * e.2.1 ∧ ds.all V.one = true ∧ (n + m) * e.2.2 ≤ 140737488355328 ∧ n + m ≤ 4611686018427387904 then
      match tok with
      | .exact | .nil => some (.sl (cs ++ ds) (n + m) (.own s.n e.2.1), s.new .row)
      | .own id sz => if sz = e.2.1 ∧ pr.contains id = false then (match s.at id with | some .row => some (.sl (cs ++ ds) (n + m) (.own s.n e.2.1), (s.put id none).new .row) | _ => none) else none
      | .no => none
    else none
  | _, _, _ => none
def eCall (g : Operand) (xs : List Operand) : Option (V × Hp) :=
  match evV ts g with
  | .fn (.func f) first captured => if I.fn.contains f then cf f (first ++ xs.map (evV ts) ++ captured) s else none
  | _ => none
def eWr (o : Oper) : Option (V × Hp) :=
  match o.op with
  | .store t x y => eStore I pr ts s t x y
  | .alloc e => eAlloc I s e
  | .box _ x => eBox ts s x
  | .call { callee := .builtin .append, args, argTypes } => (match args.toList, argTypes.toList with | [x, y], [t, t'] => if t = t' then eAppend I pr ts s t x y else none | _, _ => none)
  | .call { callee := .value g, args, .. } => eCall I cf ts s g args.toList
  | _ => none
def eOp (o : Oper) : Option (V × Hp) :=
  match xcomp I o.op with
  | some (x, os) => xrun pr cf s x (os.map (evV ts))
  | none =>
    match eRd I s.at ts o with
    | some v => some (v, s)
    | none => eWr I pr cf ts s o
end
section
variable {P : Program} {I : TI} {pr : List Nat} {cf : FuncId → List V → Hp → Option (V × Hp)} {ts : List V} {s s' : Hp} {v : V} {o : Oper}
theorem eStore_sound (hs : s.Ok) {t : TypeId} {x y : Operand} (h : eStore I pr ts s t x y = some (v, s')) : Good pr s s' (fun K => vStore P I o ts s.tb K t x y) v := by
  unfold eStore at h
  split at h
  · rename_i h1 h2
    split at h
    · rename_i cs hc
      split at h
      · rename_i hd
        injection h with h
        injection h with ha hb
        subst ha; subst hb
        have hlt := Hp.at_lt hc
        refine ⟨Hp.put_ok hs _ _, Hp.Le.put hs hlt hd.2 _, fun K hk => ?_⟩
        unfold vStore
        rw [h1, h2]
        rw [Hp.put_tb hs hlt] at hk
        exact ⟨cs, hc, hd.1, hk⟩
      · cases h
    · cases h
  · cases h
theorem eAlloc_sound (hs : s.Ok) {e : TypeId} (h : eAlloc I s e = some (v, s')) : Good pr s s' (fun K => vAlloc P I o ts s.tb K e) v := by
  unfold eAlloc at h
  split at h
  · rename_i z hz
    injection h with h
    injection h with ha hb
    subst ha; subst hb
    refine ⟨Hp.new_ok hs _, Hp.Le.new _ _ _, fun K hk => ?_⟩
    unfold vAlloc
    rw [hz]
    rw [Hp.new_tb] at hk
    intro b hb _
    subst hb
    exact hk
  · cases h
theorem eBox_sound (hs : s.Ok) {x : Operand} (h : eBox ts s x = some (v, s')) : Good pr s s' (fun K => (evV ts x).okc = true ∧ ∀ b, b = s.tb.lim → s.tb b = none → K (.ptr b 0) (s.tb.set b (.cells (evV ts x).cells))) v := by
  unfold eBox at h
  split at h
  · rename_i hc
    injection h with h
    injection h with ha hb
    subst ha; subst hb
    refine ⟨Hp.new_ok hs _, Hp.Le.new _ _ _, fun K hk => ⟨hc, fun b hb _ => ?_⟩⟩
    rw [Hp.new_tb] at hk
    subst hb
    exact hk
  · cases h
theorem eAppend_sound (hs : s.Ok) {t : TypeId} {x y : Operand} (h : eAppend I pr ts s t x y = some (v, s')) : Good pr s s' (fun K => vAppend P I o ts s.tb K t x y) v := by
  unfold eAppend at h
  split at h
  · rename_i cs n tok ds m tok2 e h1 h2 h3
    split at h
    · rename_i hc
      have h1c : ∀ v ∈ ds, v.one = true := List.all_eq_true.1 hc.2.2.1
      split at h
      · injection h with h
        injection h with ha hb
        subst ha; subst hb
        refine ⟨Hp.new_ok hs _, Hp.Le.new _ _ _, fun K hk => ?_⟩
        unfold vAppend
        rw [h1, h2, h3]
        rw [Hp.new_tb] at hk
        refine ⟨⟨hc.1, hc.2.1, h1c, trivial, hc.2.2.2⟩, fun b hb _ => ?_⟩
        subst hb
        exact hk
      · injection h with h
        injection h with ha hb
        subst ha; subst hb
        refine ⟨Hp.new_ok hs _, Hp.Le.new _ _ _, fun K hk => ?_⟩
        unfold vAppend
        rw [h1, h2, h3]
        rw [Hp.new_tb] at hk
        refine ⟨⟨hc.1, hc.2.1, h1c, trivial, hc.2.2.2⟩, fun b hb _ => ?_⟩
        subst hb
        exact hk
      · rename_i id sz
        split at h
        · rename_i hd
          obtain ⟨rfl, hp⟩ := hd
          split at h
          · rename_i hr
            injection h with h
            injection h with ha hb
            subst ha; subst hb
            have hlt := Hp.at_lt hr
            refine ⟨Hp.new_ok (Hp.put_ok hs _ _) _, (Hp.Le.put hs hlt hp none).trans (Hp.Le.new _ _ _), fun K hk => ?_⟩
            unfold vAppend
            rw [h1, h2, h3]
            rw [Hp.new_tb, Hp.del_tb hs hlt] at hk
            refine ⟨⟨hc.1, hc.2.1, h1c, ⟨rfl, hr⟩, hc.2.2.2⟩, fun b hb _ => ?_⟩
            subst hb
            exact hk
          · cases h
        · cases h
      · cases h
    · cases h
  · cases h
theorem eCall_sound (hcf : ∀ f args v s', cf f args s = some (v, s') → Good pr s s' (fun K => ACalls P f args s.tb K) v) {g : Operand} {xs : List Operand} (h : eCall I cf ts s g xs = some (v, s')) : Good pr s s' (fun K => vCall P I o ts s.tb K g xs) v := by
  unfold eCall at h
  split at h
  · rename_i f first captured hg
    split at h
    · rename_i hf
      obtain ⟨k1, k2, k3⟩ := hcf _ _ _ _ h
      refine ⟨k1, k2, fun K hk => ?_⟩
      unfold vCall
      rw [hg]
      exact ⟨hf, k3 K hk⟩
    · cases h
  · cases h
theorem eWr_sound (hs : s.Ok) (hcf : ∀ f args v s', cf f args s = some (v, s') → Good pr s s' (fun K => ACalls P f args s.tb K) v) (h : eWr I pr cf ts s o = some (v, s')) : Good pr s s' (fun K => vcOp P I o ts s.tb K) v := by
  unfold eWr at h
  split at h
  · rename_i ho; unfold vcOp; rw [ho]; exact eStore_sound hs h
  · rename_i ho; unfold vcOp; rw [ho]; exact eAlloc_sound hs h
  · rename_i ho; unfold vcOp; rw [ho]; exact eBox_sound hs h
  · rename_i ho
    unfold vcOp
    rw [ho]
    split at h
    · rename_i h1 h2
      simp only [h1, h2]
      split at h
      · rename_i ht; simp only [ht, if_true] at h ⊢; exact eAppend_sound hs h
      · cases h
    · cases h
  · rename_i ho; unfold vcOp; rw [ho]; exact eCall_sound hcf h
  · cases h
theorem eOp_sound (hI : I.All P) (hs : s.Ok) (hcf : ∀ f args v s', cf f args s = some (v, s') → Good pr s s' (fun K => ACalls P f args s.tb K) v) (h : eOp I pr cf ts s o = some (v, s')) : Good pr s s' (fun K => AOp P o ts s.tb K) v := by
  unfold eOp at h
  split at h
  · rename_i x os hx
    exact xrun_sound hI hs hcf hx h
  · split at h
    · rename_i v' hv
      injection h with h
      injection h with ha hb
      subst ha; subst hb
      exact ⟨hs, Hp.Le.refl _ _, fun K hk => vcOp_sound hI (eRd_sound hI (fun _ _ h => h) hv hk)⟩
    · obtain ⟨k1, k2, k3⟩ := eWr_sound (P := P) hs hcf h
      exact ⟨k1, k2, fun K hk => vcOp_sound hI (k3 K hk)⟩
end

/-! ### Statements -/
def gstep (ops : Array Oper) (r : Option (V × Hp)) (o : Oper) (ts : List V) (s : Hp) : Option (V × Hp) :=
  match o.guard with
  | none => r
  | some (j, want) =>
    match ((ops[j]?).bind (·.dst)).bind (ts[·]?) with
    | some (.lit (.bool b)) => if b = want then r else some (.tup [], s)
    | some (.tup []) => some (.tup [], s)
    | _ => none
def runOps (I : TI) (pr : List Nat) (cf : FuncId → List V → Hp → Option (V × Hp)) (ops : Array Oper) : List Oper → List V → Hp → Option (List V × Hp)
  | [], ts, s => some (ts, s)
  | o :: r, ts, s =>
    match gstep ops (eOp I pr cf ts s o) o ts s with
    | some (v, s') => runOps I pr cf ops r (putV ts o.dst v) s'
    | none => none
section
variable {P : Program} {I : TI} {pr : List Nat} {s s' : Hp} {v : V}
theorem gstep_step {ops : Array Oper} {o : Oper} {ts : List V} {r : Option (V × Hp)} (hs : s.Ok) (hr : ∀ v s', r = some (v, s') → Good pr s s' (fun K => AOp P o ts s.tb K) v) (h : gstep ops r o ts s = some (v, s')) :
    Good pr s s' (fun K => vcStep P I ops o ts s.tb K) v := by
  unfold gstep at h
  split at h
  · rename_i hg
    obtain ⟨k1, k2, k3⟩ := hr _ _ h
    exact ⟨k1, k2, fun K hk => by unfold vcStep; rw [hg]; exact k3 K hk⟩
  · rename_i j want hg
    split at h
    · rename_i b hb
      split at h
      · rename_i hw
        subst hw
        obtain ⟨k1, k2, k3⟩ := hr _ _ h
        refine ⟨k1, k2, fun K hk => ?_⟩
        unfold vcStep
        rw [hg]
        simp only [hb]
        cases b
        · exact ⟨(fun e => by cases e), fun _ => k3 K hk⟩
        · exact ⟨fun _ => k3 K hk, (fun e => by cases e)⟩
      · rename_i hw
        injection h with h
        injection h with ha hb'
        subst ha; subst hb'
        refine ⟨hs, Hp.Le.refl _ _, fun K hk => ?_⟩
        unfold vcStep
        rw [hg]
        simp only [hb]
        cases b
        · cases want
          · exact (hw rfl).elim
          · exact ⟨(fun e => by cases e), fun _ => hk⟩
        · cases want
          · exact ⟨fun _ => hk, (fun e => by cases e)⟩
          · exact (hw rfl).elim
    · rename_i hb
      injection h with h
      injection h with ha hb'
      subst ha; subst hb'
      refine ⟨hs, Hp.Le.refl _ _, fun K hk => ?_⟩
      unfold vcStep
      rw [hg]
      simp only [hb]
      exact hk
    · cases h
/-- One operation in the order of the text. -/
theorem aops_step (hI : I.All P) {ops : Array Oper} {o : Oper} {rest : List Oper} {ts : List V} {T : Tb} {Q : List V → Tb → Prop} (h : vcStep P I ops o ts T fun v T' => AOps P ops Q rest (putV ts o.dst v) T') : AOps P ops Q (o :: rest) ts T := by
  unfold vcStep at h
  simp only [AOps]
  split at h
  · rename_i hg; rw [hg]; exact h
  · rename_i j want hg
    rw [hg]
    simp only
    split at h
    · rename_i b hb
      refine .inl ⟨b, by unfold yieldV; rw [hb], fun e => ?_, fun e => ?_⟩
      · subst e
        cases b
        · have := h.2 rfl; simp at this; exact this
        · have := h.1 rfl; simp at this; exact this
      · cases b
        · have hw : want = true := by cases want <;> simp_all
          have := h.2 rfl
          subst hw
          simpa using this
        · have hw : want = false := by cases want <;> simp_all
          have := h.1 rfl
          subst hw
          simpa using this
    · rename_i hb; exact .inr ⟨by unfold undV; rw [hb], h⟩
    · exact h.elim
theorem runOps_sound (hI : I.All P) {cf : FuncId → List V → Hp → Option (V × Hp)} (hcf : ∀ s, s.Ok → ∀ f args v s', cf f args s = some (v, s') → Good pr s s' (fun K => ACalls P f args s.tb K) v) {ops : Array Oper} :
    ∀ (l : List Oper) (ts : List V) (s : Hp) (ts' : List V) (s' : Hp), s.Ok → runOps I pr cf ops l ts s = some (ts', s') → s'.Ok ∧ Hp.Le pr s s' ∧ ∀ Q : List V → Tb → Prop, Q ts' s'.tb → AOps P ops Q l ts s.tb := by
  intro l
  induction l with
  | nil =>
    intro ts s ts' s' hs h
    simp only [runOps] at h
    injection h with h
    injection h with ha hb
    subst ha; subst hb
    exact ⟨hs, Hp.Le.refl _ _, fun Q hq => hq⟩
  | cons o r ih =>
    intro ts s ts' s' hs h
    simp only [runOps] at h
    split at h
    · rename_i v s1 h1
      obtain ⟨k1, k2, k3⟩ := gstep_step (P := P) hs (fun v s' hv => eOp_sound hI hs (hcf s hs) hv) h1
      obtain ⟨j1, j2, j3⟩ := ih _ _ _ _ k1 h
      exact ⟨j1, k2.trans j2, fun Q hq => aops_step hI (k3 _ (j3 Q hq))⟩
    · cases h
end
end Go.Ae
