/- A part of the proof: a machine on trees that is sound for the model, its tables, and contracts of functions. Conditions: none. -/
import Derived.Test.YtpookgemmjdgfaaGreatAeZb
namespace Go.Ae
open Go.RowKit

/-! ### Statements whose order is open -/
def viewOf (base : List Nat) (s : Hp) : Nat → Option AObj := fun b => if base.contains b then s.at b else none
/-- Where the first takes look (a guess: nothing rests on it). -/
def bases (I : TI) (ops : Array Oper) : List (Nat × Bool) → List V → Hp → List Nat
  | [], _, _ => []
  | (i, q) :: r, ts, s =>
    match ops[i]? with
    | none => []
    | some o =>
      let t := onlyV ops o ts
      let rest := fun ts' => bases I ops r ts' s
      if q then
        match gstep ops ((eRd I s.at t o).map fun v => (v, s)) o t s with
        | some (v, _) =>
          (match o.op with
          | .load _ x => (match evV t x with | .ptr b _ => b :: rest (putV ts o.dst v) | _ => rest (putV ts o.dst v))
          | _ => rest (putV ts o.dst v))
        | none => rest ts
      else rest ts
/-! A call that only reckons: it may be taken first -/
mutual
def V.pureB : V → Bool
  | .any => true
  | .lit _ => true
  | .sl cells _ tok => (match tok with | .own _ _ => false | _ => true) && pureL cells
  | .ep cells _ => pureL cells
  | .fn _ xs ys => pureL xs && pureL ys
  | .ifc _ v => v.pureB
  | .agg cs => pureL cs
  | .tup cs => pureL cs
  | _ => false
def pureL : List V → Bool
  | [] => true
  | v :: vs => v.pureB && pureL vs
end
mutual
theorem pureB_pure : ∀ v : V, v.pureB = true → v.Pure
  | .any, _ => .any
  | .lit _, _ => .lit _
  | .sl cells n tok, h => by
    simp only [V.pureB, Bool.and_eq_true] at h
    refine .sl cells n tok ?_ (pureL_pure cells h.2)
    cases tok <;> simp at h ⊢
  | .ep cells _, h => .ep cells _ (pureL_pure cells (by simpa [V.pureB] using h))
  | .fn f xs ys, h => by
    simp only [V.pureB, Bool.and_eq_true] at h
    exact .fn f xs ys (pureL_pure xs h.1) (pureL_pure ys h.2)
  | .ifc t v, h => .ifc t v (pureB_pure v (by simpa [V.pureB] using h))
  | .agg cs, h => .agg cs (pureL_pure cs (by simpa [V.pureB] using h))
  | .tup cs, h => .tup cs (pureL_pure cs (by simpa [V.pureB] using h))
  | .ptr _ _, h => by simp [V.pureB] at h
  | .ms _ _ _ _, h => by simp [V.pureB] at h
  | .mp _, h => by simp [V.pureB] at h
theorem pureL_pure : ∀ l : List V, pureL l = true → ∀ x ∈ l, x.Pure
  | [], _, x, hx => by cases hx
  | v :: vs, h, x, hx => by
    simp only [pureL, Bool.and_eq_true] at h
    rcases List.mem_cons.1 hx with hx | hx
    · rw [hx]; exact pureB_pure v h.1
    · exact pureL_pure vs h.2 x hx
end
def H0 : Hp := ⟨0, []⟩
def callQ (cf : List Nat → FuncId → List V → Hp → Option (V × Hp)) (g : V) (xs : List V) : Option V :=
  match g with
  | .fn (.func f) first captured =>
    if pureL (first ++ xs ++ captured) = true then
      (match cf [] f (first ++ xs ++ captured) H0 with | some (v, _) => if v.pureB = true then some v else none | none => none)
    else none
  | _ => none
def eCallQ (I : TI) (cf : List Nat → FuncId → List V → Hp → Option (V × Hp)) (ts : List V) (o : Op) : Option V :=
  match o with
  | .call { callee := .value g, args, .. } =>
    (match evV ts g with
    | .fn (.func f) first captured => if I.fn.contains f = true then callQ cf (.fn (.func f) first captured) (args.toList.map (evV ts)) else none
    | _ => none)
  | _ => none
def eRdQ (I : TI) (cf : List Nat → FuncId → List V → Hp → Option (V × Hp)) (rd : Nat → Option AObj) (ts : List V) (o : Oper) : Option V :=
  match eRd I rd ts o with
  | some v => some v
  | none => eCallQ I cf ts o.op
def runD (I : TI) (pr base : List Nat) (cf : List Nat → FuncId → List V → Hp → Option (V × Hp)) (ops : Array Oper) (L : List Nat) : List (Nat × Bool) → Bool → List V → Hp → Option (List V × Hp)
  | [], _, ts, s => some (ts, s)
  | (i, true) :: r, fin, ts, s =>
    if fin then none else
    match ops[i]? with
    | none => none
    | some o =>
      match gstep ops ((eRdQ I cf (viewOf base s) (onlyV ops o ts) o).map fun v => (v, s)) o (onlyV ops o ts) s with
      | some (v, _) => runD I pr base cf ops L r false (putV ts o.dst v) s
      | none => none
  | (i, false) :: r, fin, ts, s =>
    match ops[i]? with
    | none => none
    | some o =>
      if L.contains i then
        match gstep ops (eOp I pr (cf pr) (onlyV ops o ts) s o) o (onlyV ops o ts) s with
        | some (v, s') => runD I pr base cf ops L r true (putV ts o.dst v) s'
        | none => none
      else if fin then none else
        match gstep ops (eOp I (base ++ pr) (cf (base ++ pr)) (onlyV ops o ts) s o) o (onlyV ops o ts) s with
        | some (v, s') => runD I pr base cf ops L r false (putV ts o.dst v) s'
        | none => none
section
variable {P : Program} {I : TI} {pr base : List Nat} {L : List Nat}
/-- What is read first stays as it was. -/
def CBase (base : List Nat) (s0 : Hp) (T : Tb) : Prop := ∀ b o, base.contains b = true → s0.at b = some o → T b = some o
theorem CBase.of {s0 s : Hp} (h : Hp.Le (base ++ pr) s0 s) : CBase base s0 s.tb := fun b o hb ho =>
  (h.2 b (List.mem_append.2 (.inl (by simpa using hb))) (Hp.at_lt ho)).trans ho
theorem H0_tb : H0.tb = T0 := Tb.ext' (fun b => by simp [Hp.tb, Hp.at, H0, T0]) rfl
theorem eRdQ_sound (hI : I.All P) {cf : List Nat → FuncId → List V → Hp → Option (V × Hp)} (hcf : ∀ pr s, s.Ok → ∀ f args v s', cf pr f args s = some (v, s') → Good pr s s' (fun K => ACalls P f args s.tb K) v) {rd : Nat → Option AObj} {o : Oper} {ts : List V} {v : V} {T' : Tb}
    (hrd : ∀ b o, rd b = some o → T' b = some o) (h : eRdQ I cf rd ts o = some v) : AOp P o ts T' fun v' T'' => v' = v ∧ T'' = T' := by
  unfold eRdQ at h
  split at h
  · rename_i v2 he
    injection h with h
    subst h
    exact vcOp_sound hI (eRd_sound hI hrd he ⟨rfl, rfl⟩)
  · unfold eCallQ at h
    split at h
    · rename_i g args tys ho
      split at h
      · rename_i f first captured hg
        split at h
        · rename_i hfn
          unfold callQ at h
          simp only at h
          split at h
          · rename_i hp
            split at h
            · rename_i v2 s2 hc
              split at h
              · rename_i hv
                injection h with h
                subst h
                obtain ⟨_, _, k3⟩ := hcf [] H0 rfl _ _ _ _ hc
                have k4 := k3 (fun v' _ => v' = v2) rfl
                rw [H0_tb] at k4
                have hcm := comes_of (pureL_pure _ hp) (pureB_pure _ hv) k4
                exact aop_call (xs := args.toList) (by simpa using ho) hg (hI.toOk.fn' hfn) (hcm T' _ ⟨rfl, rfl⟩)
              · cases h
            · cases h
          · cases h
        · cases h
      · cases h
    · cases h
theorem gstep_quiet (hI : I.All P) {cf : List Nat → FuncId → List V → Hp → Option (V × Hp)} (hcf : ∀ pr s, s.Ok → ∀ f args v s', cf pr f args s = some (v, s') → Good pr s s' (fun K => ACalls P f args s.tb K) v) {ops : Array Oper} {o : Oper} {ts : List V} {s0 s s1 : Hp} {v : V} (hb : ∀ b, base.contains b = true → b < s0.n) (hle : Hp.Le (base ++ pr) s0 s) (h : gstep ops ((eRdQ I cf (viewOf base s) ts o).map fun v => (v, s)) o ts s = some (v, s1)) (T' : Tb) (hC : CBase base s0 T') :
    vcStep P I ops o ts T' fun v' T'' => v' = v ∧ T'' = T' := by
  have hrd : ∀ b o, viewOf base s b = some o → T' b = some o := by
    intro b o h
    unfold viewOf at h
    split at h
    · rename_i hc
      rw [hle.2 b (List.mem_append.2 (.inl (by simpa using hc))) (hb b hc)] at h
      exact hC b o hc h
    · cases h
  have key : ∀ v s1, ((eRdQ I cf (viewOf base s) ts o).map fun v => (v, s)) = some (v, s1) → AOp P o ts T' fun v' T'' => v' = v ∧ T'' = T' := by
    intro v s1 h
    cases he : eRdQ I cf (viewOf base s) ts o with
    | none => rw [he] at h; cases h
    | some v2 =>
      rw [he] at h
      simp only [Option.map_some, Option.some.injEq, Prod.mk.injEq] at h
      obtain ⟨rfl, _⟩ := h
      exact eRdQ_sound hI hcf hrd he
  unfold gstep at h
  unfold vcStep
  split at h
  · rename_i hg; rw [hg]; exact key _ _ h
  · rename_i j want hg
    rw [hg]
    simp only
    split at h
    · rename_i b hb
      simp only [hb]
      split at h
      · rename_i hw
        subst hw
        cases b
        · exact ⟨(fun e => by cases e), fun _ => key _ _ h⟩
        · exact ⟨fun _ => key _ _ h, (fun e => by cases e)⟩
      · rename_i hw
        injection h with h
        injection h with ha hb'
        subst ha
        cases b
        · cases want
          · exact (hw rfl).elim
          · exact ⟨(fun e => by cases e), fun _ => (by simp)⟩
        · cases want
          · exact ⟨fun _ => (by simp), (fun e => by cases e)⟩
          · exact (hw rfl).elim
    · rename_i hb
      simp only [hb]
      injection h with h
      injection h with ha hb'
      subst ha
      simp
    · cases h
theorem vcOp_mono {P : Program} {I : TI} {o : Oper} {ts : List V} {T : Tb} {K : V → Tb → Prop} (hI : I.All P) (h : vcOp P I o ts T K) : AOp P o ts T K := vcOp_sound hI h
theorem runD_sound (hI : I.All P) {cf : List Nat → FuncId → List V → Hp → Option (V × Hp)} (hcf : ∀ pr s, s.Ok → ∀ f args v s', cf pr f args s = some (v, s') → Good pr s s' (fun K => ACalls P f args s.tb K) v) {ops : Array Oper} {s0 : Hp} (hb : ∀ b, base.contains b = true → b < s0.n) :
    ∀ (ord : List (Nat × Bool)) (fin : Bool) (ts : List V) (s : Hp) (ts' : List V) (s' : Hp), s.Ok → (fin = false → Hp.Le (base ++ pr) s0 s) → runD I pr base cf ops L ord fin ts s = some (ts', s') →
      s'.Ok ∧ Hp.Le pr s s' ∧ ∀ Q : List V → Tb → Prop, Q ts' s'.tb → vcD P I ops (CBase base s0) L Q ord ts s.tb := by
  intro ord
  induction ord with
  | nil =>
    intro fin ts s ts' s' hs _ h
    simp only [runD] at h
    injection h with h
    injection h with ha hb
    subst ha; subst hb
    exact ⟨hs, Hp.Le.refl _ _, fun Q hq => hq⟩
  | cons x r ih =>
    obtain ⟨i, q⟩ := x
    intro fin ts s ts' s' hs hfin h
    cases q with
    | true =>
      simp only [runD] at h
      split at h
      · cases h
      · rename_i hf
        have hf' : fin = false := by simpa using hf
        split at h
        · cases h
        · rename_i o ho
          split at h
          · rename_i v s1 h1
            obtain ⟨k1, k2, k3⟩ := ih false _ s _ _ hs (fun _ => hfin hf') h
            refine ⟨k1, k2, fun Q hq => ?_⟩
            simp only [vcD]
            rw [ho]
            exact ⟨v, fun T' hC => gstep_quiet hI hcf hb (hfin hf') h1 T' hC, k3 Q hq⟩
          · cases h
    | false =>
      simp only [runD] at h
      split at h
      · cases h
      · rename_i o ho
        split at h
        · rename_i hL
          split at h
          · rename_i v s1 h1
            obtain ⟨j1, j2, j3⟩ := gstep_step (P := P) hs (fun v s' hv => eOp_sound hI hs (hcf pr s hs) hv) h1
            obtain ⟨k1, k2, k3⟩ := ih true _ s1 _ _ j1 (fun e => by cases e) h
            refine ⟨k1, j2.trans k2, fun Q hq => ?_⟩
            simp only [vcD]
            rw [ho]
            exact j3 _ ⟨fun e => (by rw [hL] at e; cases e), k3 Q hq⟩
          · cases h
        · rename_i hL
          split at h
          · cases h
          · rename_i hf
            have hf' : fin = false := by simpa using hf
            split at h
            · rename_i v s1 h1
              obtain ⟨j1, j2, j3⟩ := gstep_step (P := P) hs (fun v s' hv => eOp_sound hI hs (hcf (base ++ pr) s hs) hv) h1
              have hle := (hfin hf').trans j2
              obtain ⟨k1, k2, k3⟩ := ih false _ s1 _ _ j1 (fun _ => hle) h
              refine ⟨k1, (j2.sub (fun b hb => List.mem_append.2 (.inr hb))).trans k2, fun Q hq => ?_⟩
              simp only [vcD]
              rw [ho]
              exact j3 _ ⟨fun _ => CBase.of hle, k3 Q hq⟩
            · cases h
end

/-! ### Code -/
def rnds (body : List V → Hp → Option (Exit × List V × Hp)) : Nat → List V → Hp → Option (Exit × List V × Hp)
  | 0, _, _ => none
  | n + 1, ts, s =>
    match body ts s with
    | none => none
    | some (e, ts', s') => (match e with | .normal => rnds body n ts' s' | e => some (e, ts', s'))
def eRes (I : TI) (s : Hp) (ts : List V) : ResultVar → Option V
  | .tmp t => some (evV ts (.tmp t))
  | .cell a t => (match evV ts (.tmp a) with | .ptr b off => (match s.at b with | some (.cells cs) => eRead I t cs off | _ => none) | _ => none)
def eRess (I : TI) (s : Hp) (ts : List V) : List ResultVar → Option (List V)
  | [] => some []
  | r :: rs => match eRes I s ts r, eRess I s ts rs with | some v, some vs => some (v :: vs) | _, _ => none
def callF (P : Program) (I : TI) (M : FuncId → List V → Option V) (rn : FuncId → List Nat → Code → List V → Hp → Option (Exit × List V × Hp)) (pr : List Nat) (f : FuncId) (args : List V) (s : Hp) : Option (V × Hp) :=
  match M f args with
  | some v => some (v, s)
  | none =>
    match P.funcs[f]? with
    | none => none
    | some fn =>
      match fn.body with
      | none => none
      | some c =>
        match rn f pr c (args ++ List.replicate (fn.ntmps - args.length) (.tup [])) s with
        | none => none
        | some (e, ts', s') =>
          match e with
          | .normal | .ret => (match eRess I s' ts' fn.results.toList with | some vs => some (oneV vs, s') | none => none)
          | _ => none
def run (P : Program) (I : TI) (D : FuncId → Nat → Option (List (Nat × Bool) × List Nat)) (M : FuncId → List V → Option V) (N : Nat) : Nat → FuncId → List Nat → Code → List V → Hp → Option (Exit × List V × Hp)
  | 0, _, _, _, _, _ => none
  | k + 1, f, pr, c, ts, s =>
    match c with
    | .region id ops draw =>
      if draw then
        match D f id with
        | none => none
        | some (ord, L) =>
          let base := bases I ops ord ts s
          if ordOk ops L ord (Array.replicate ops.size false) = true ∧ ord.length ≤ ops.size ∧ base.all (fun b => decide (b < s.n)) = true then
            match runD I pr base (callF P I M (run P I D M N k)) ops L ord false ts s with
            | some (ts', s') => some (.normal, ts', s')
            | none => none
          else none
      else
        match runOps I pr (callF P I M (run P I D M N k) pr) ops ops.toList ts s with
        | some (ts', s') => some (.normal, ts', s')
        | none => none
    | .seq x y =>
      (match run P I D M N k f pr x ts s with
      | none => none
      | some (e, ts', s') => (match e with | .normal => run P I D M N k f pr y ts' s' | e => some (e, ts', s')))
    | .block id c =>
      (match run P I D M N k f pr c ts s with
      | none => none
      | some (e, ts', s') => (match e with | .exit id' => some (if id' = id then .normal else .exit id', ts', s') | e => some (e, ts', s')))
    | .loop c => rnds (run P I D M N k f pr c) N ts s
    | .cond c x y => (match evV ts c with | .lit (.bool b) => run P I D M N k f pr (if b then x else y) ts s | _ => none)
    | .ret => some (.ret, ts, s)
    | .skip => some (.normal, ts, s)
    | .exit id => some (.exit id, ts, s)
    | _ => none
section
variable {P : Program} {I : TI} {D : FuncId → Nat → Option (List (Nat × Bool) × List Nat)} {M : FuncId → List V → Option V} {N : Nat}
def Runs (P : Program) (pr : List Nat) (c : Code) (ts : List V) (s : Hp) (e : Exit) (ts' : List V) (s' : Hp) : Prop :=
  s'.Ok ∧ Hp.Le pr s s' ∧ ∀ Q : Exit → List V → Tb → Prop, Q e ts' s'.tb → AWP P c Q ts s.tb
theorem rnds_sound {pr : List Nat} {c : Code} {body : List V → Hp → Option (Exit × List V × Hp)} (hb : ∀ ts s e ts' s', s.Ok → body ts s = some (e, ts', s') → Runs P pr c ts s e ts' s') :
    ∀ (n : Nat) (ts : List V) (s : Hp) (e : Exit) (ts' : List V) (s' : Hp), s.Ok → rnds body n ts s = some (e, ts', s') → s'.Ok ∧ Hp.Le pr s s' ∧ ∀ Q : Exit → List V → Tb → Prop, Q e ts' s'.tb → ARounds P c Q n ts s.tb := by
  intro n
  induction n with
  | zero => intro ts s e ts' s' _ h; cases h
  | succ n ih =>
    intro ts s e ts' s' hs h
    simp only [rnds] at h
    split at h
    · cases h
    · rename_i e1 ts1 s1 h1
      obtain ⟨k1, k2, k3⟩ := hb _ _ _ _ _ hs h1
      split at h
      · obtain ⟨j1, j2, j3⟩ := ih _ _ _ _ _ k1 h
        exact ⟨j1, k2.trans j2, fun Q hq => k3 _ (j3 Q hq)⟩
      · rename_i e2 hne
        injection h with h
        injection h with ha hb
        injection hb with hb hc
        subst ha; subst hb; subst hc
        refine ⟨k1, k2, fun Q hq => k3 _ ?_⟩
        unfold AThen
        split
        · exact (hne rfl).elim
        · exact hq
theorem eRes_sound (hI : I.All P) {s : Hp} {ts : List V} {r : ResultVar} {v : V} (h : eRes I s ts r = some v) : ResRel P ts s.tb r v := by
  unfold eRes at h
  split at h
  · injection h with h; exact .tmp _ _ h.symm
  · split at h
    · rename_i hx
      split at h
      · rename_i cs hc
        unfold eRead at h
        split at h
        · rename_i hsc; exact .cell _ _ _ _ cs _ hx hc (hI.toOk.sc' hsc) h
        · split at h
          · rename_i n hn
            split at h
            · rename_i hle
              injection h with h
              subst h
              obtain ⟨h1, h2⟩ := hI.toOk.ag' hn
              exact .cellAg _ _ _ _ n cs hx hc h1 h2 hle
            · cases h
          · cases h
      · cases h
    · cases h
theorem eRess_sound (hI : I.All P) {s : Hp} {ts : List V} : ∀ {rs : List ResultVar} {vs : List V}, eRess I s ts rs = some vs → AllRes P ts s.tb rs vs
  | [], vs, h => by simp only [eRess] at h; injection h with h; subst h; exact .nil
  | r :: rs, vs, h => by
    simp only [eRess] at h
    split at h
    · rename_i v vs' h1 h2
      injection h with h
      subst h
      exact .cons (eRes_sound hI h1) (eRess_sound hI h2)
    · cases h
theorem callF_sound (hI : I.All P) (hM : ∀ f args v, M f args = some v → Comes P f args v) {rn : FuncId → List Nat → Code → List V → Hp → Option (Exit × List V × Hp)}
    (hr : ∀ f pr c ts s e ts' s', s.Ok → rn f pr c ts s = some (e, ts', s') → Runs P pr c ts s e ts' s') (pr : List Nat) (s : Hp) (hs : s.Ok) (f : FuncId) (args : List V) (v : V) (s' : Hp) (h : callF P I M rn pr f args s = some (v, s')) :
    Good pr s s' (fun K => ACalls P f args s.tb K) v := by
  unfold callF at h
  split at h
  · rename_i v' hm
    injection h with h
    injection h with ha hb
    subst ha; subst hb
    exact ⟨hs, Hp.Le.refl _ _, fun K hk => hM _ _ _ hm _ _ hk⟩
  · split at h
    · cases h
    · rename_i fn hf
      split at h
      · cases h
      · rename_i c hc
        split at h
        · cases h
        · rename_i e ts1 s1 h1
          obtain ⟨k1, k2, k3⟩ := hr _ _ _ _ _ _ _ _ hs h1
          have fin : ∀ e, e = Exit.normal ∨ e = Exit.ret → (∀ Q : Exit → List V → Tb → Prop, Q e ts1 s1.tb → AWP P c Q (args ++ List.replicate (fn.ntmps - args.length) (.tup [])) s.tb) → (match eRess I s1 ts1 fn.results.toList with | some vs => some (oneV vs, s1) | none => none) = some (v, s') → Good pr s s' (fun K => ACalls P f args s.tb K) v := by
            intro e he k3 h
            split at h
            · rename_i vs hvs
              injection h with h
              injection h with ha hb
              subst ha; subst hb
              refine ⟨k1, k2, fun K hk => acalls_of hf hc (rs := fn.results.toList) (by simp) rfl (k3 _ ?_)⟩
              rcases he with rfl | rfl
              · exact ⟨vs, eRess_sound hI hvs, hk⟩
              · exact ⟨vs, eRess_sound hI hvs, hk⟩
            · cases h
          split at h
          · exact fin _ (.inl rfl) k3 h
          · exact fin _ (.inr rfl) k3 h
          · cases h
theorem run_sound (hI : I.All P) (hm : P.follows .mixedOrders = true) (hM : ∀ f args v, M f args = some v → Comes P f args v) : ∀ (k : Nat) (f : FuncId) (pr : List Nat) (c : Code) (ts : List V) (s : Hp) (e : Exit) (ts' : List V) (s' : Hp), s.Ok → run P I D M N k f pr c ts s = some (e, ts', s') → Runs P pr c ts s e ts' s' := by
  intro k
  induction k with
  | zero => intro f pr c ts s e ts' s' _ h; cases h
  | succ k ih =>
    intro f pr c ts s e ts' s' hs h
    have hcf := fun pr s hs => callF_sound hI hM (rn := run P I D M N k) (fun f pr c ts s e ts' s' hs h => ih f pr c ts s e ts' s' hs h) pr s hs
    unfold run at h
    split at h
    · rename_i id ops draw
      split at h
      · rename_i hd
        subst hd
        split at h
        · cases h
        · rename_i ord L hD
          simp only at h
          split at h
          · rename_i hc
            split at h
            · rename_i ts1 s1 h1
              injection h with h
              injection h with ha hb
              injection hb with hb hc'
              subst ha; subst hb; subst hc'
              have hbase : ∀ b, (bases I ops ord ts s).contains b = true → b < s.n := fun b hb => by
                have := List.all_eq_true.1 hc.2.2 b (by simpa using hb)
                simpa using this
              obtain ⟨k1, k2, k3⟩ := runD_sound (P := P) hI hcf (s0 := s) hbase ord false ts s _ _ hs (fun _ => Hp.Le.refl _ _) h1
              refine ⟨k1, k2, fun Q hq => ?_⟩
              obtain ⟨l⟩ := ops
              exact awp_vcD hI (CBase (bases I ⟨l⟩ ord ts s) s) L ord hm hc.1 hc.2.1 (CBase.of (pr := pr) (Hp.Le.refl _ _)) (k3 (Q .normal) hq)
            · cases h
          · cases h
      · rename_i hd
        have hd' : draw = false := by simpa using hd
        subst hd'
        split at h
        · rename_i ts1 s1 h1
          injection h with h
          injection h with ha hb
          injection hb with hb hc
          subst ha; subst hb; subst hc
          obtain ⟨k1, k2, k3⟩ := runOps_sound (P := P) hI (fun s hs => hcf pr s hs) _ _ _ _ _ hs h1
          refine ⟨k1, k2, fun Q hq => ?_⟩
          obtain ⟨l⟩ := ops
          exact awp_region (k3 (Q .normal) hq)
        · cases h
    · rename_i x y
      split at h
      · cases h
      · rename_i e1 ts1 s1 h1
        obtain ⟨k1, k2, k3⟩ := ih _ _ _ _ _ _ _ _ hs h1
        split at h
        · obtain ⟨j1, j2, j3⟩ := ih _ _ _ _ _ _ _ _ k1 h
          exact ⟨j1, k2.trans j2, fun Q hq => awp_seq (k3 _ (j3 Q hq))⟩
        · rename_i e2 hne
          injection h with h
          injection h with ha hb
          injection hb with hb hc
          subst ha; subst hb; subst hc
          refine ⟨k1, k2, fun Q hq => awp_seq (k3 _ ?_)⟩
          unfold AThen
          split
          · exact (hne rfl).elim
          · exact hq
    · rename_i id c
      split at h
      · cases h
      · rename_i e1 ts1 s1 h1
        obtain ⟨k1, k2, k3⟩ := ih _ _ _ _ _ _ _ _ hs h1
        split at h
        · rename_i id'
          injection h with h
          injection h with ha hb
          injection hb with hb hc
          subst ha; subst hb; subst hc
          refine ⟨k1, k2, fun Q hq => awp_block (k3 _ ?_)⟩
          show if id' = id then _ else _
          split
          · rename_i hid; rw [if_pos hid] at hq; exact hq
          · rename_i hid; rw [if_neg hid] at hq; exact hq
        · rename_i e2 hne
          injection h with h
          injection h with ha hb
          injection hb with hb hc
          subst ha; subst hb; subst hc
          refine ⟨k1, k2, fun Q hq => awp_block (k3 _ ?_)⟩
          unfold AIn
          split
          · exact (hne _ rfl).elim
          · exact hq
    · rename_i c
      obtain ⟨k1, k2, k3⟩ := rnds_sound (P := P) (pr := pr) (c := c) (fun ts s e ts' s' hs h => ih _ _ _ _ _ _ _ _ hs h) _ _ _ _ _ _ hs h
      exact ⟨k1, k2, fun Q hq => awp_loop _ (k3 Q hq)⟩
    · rename_i c x y
      split at h
      · rename_i b hb
        cases b
        · obtain ⟨k1, k2, k3⟩ := ih _ _ _ _ _ _ _ _ hs h
          exact ⟨k1, k2, fun Q hq => awp_cond hb (fun e => by cases e) (fun _ => k3 Q hq)⟩
        · obtain ⟨k1, k2, k3⟩ := ih _ _ _ _ _ _ _ _ hs h
          exact ⟨k1, k2, fun Q hq => awp_cond hb (fun _ => k3 Q hq) (fun e => by cases e)⟩
      · cases h
    · injection h with h
      injection h with ha hb
      injection hb with hb hc
      subst ha; subst hb; subst hc
      exact ⟨hs, Hp.Le.refl _ _, fun Q hq => awp_ret hq⟩
    · injection h with h
      injection h with ha hb
      injection hb with hb hc
      subst ha; subst hb; subst hc
      exact ⟨hs, Hp.Le.refl _ _, fun Q hq => awp_skip hq⟩
    · injection h with h
      injection h with ha hb
      injection hb with hb hc
      subst ha; subst hb; subst hc
      exact ⟨hs, Hp.Le.refl _ _, fun Q hq => awp_exit hq⟩
    · cases h
/-- A call that is reckoned whole. -/
theorem comes_run (hI : I.All P) (hm : P.follows .mixedOrders = true) (hM : ∀ f args v, M f args = some v → Comes P f args v) {k : Nat} {f : FuncId} {args : List V} {v : V} {s' : Hp} (ha : ∀ x ∈ args, V.Pure x) (hv : v.Pure)
    (h : callF P I M (run P I D M N k) [] f args H0 = some (v, s')) : Comes P f args v := by
  obtain ⟨_, _, k3⟩ := callF_sound hI hM (rn := run P I D M N k) (fun f pr c ts s e ts' s' hs h => run_sound hI hm hM k f pr c ts s e ts' s' hs h) [] H0 rfl f args v s' h
  refine comes_of ha hv ?_
  have := k3 (fun v' _ => v' = v) rfl
  have e : H0.tb = T0 := Tb.ext' (fun b => by simp [Hp.tb, Hp.at, H0, T0]) rfl
  rwa [e] at this
end
end Go.Ae
