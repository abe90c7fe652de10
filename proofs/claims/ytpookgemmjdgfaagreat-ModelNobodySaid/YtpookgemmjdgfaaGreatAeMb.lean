/- A part of the proof: a machine on trees that is sound for the model, its tables, and contracts of functions. Conditions: none. -/
import Derived.Test.YtpookgemmjdgfaaGreatAeMa
namespace Go.Ae
open Go.RowKit
noncomputable section

/-! ### Symbolic execution of code -/
/-- A line: its guard, then what it does. -/
def gLn (g : Option (Nat × Bool)) (e : Env) (s : Hp) (R : (V → Hp → Prop) → Prop) (K : Env → V → Hp → Prop) : Prop :=
  match g with
  | none => R (K e)
  | some (d, w) =>
    match e.at d with
    | .lit (.bool b) => bc b (Bool.rec (K (e.put d (.lit (.bool true))) (.tup []) s) (R (K (e.put d (.lit (.bool true))))) w) (Bool.rec (R (K (e.put d (.lit (.bool false))))) (K (e.put d (.lit (.bool false))) (.tup []) s) w)
    | .tup [] => K e (.tup []) s
    | _ => False
theorem put_same {e : Env} (he : e.Ok) {d : Nat} {v : V} (h : e.at d = v) (hv : v ≠ .tup []) : (e.put d v).Ok ∧ (e.put d v).n = e.n ∧ (e.put d v).toL = e.toL := by
  have hd : d < e.n := by
    apply Classical.byContradiction
    intro hn
    apply hv
    rw [← h]
    unfold Env.at
    rw [he d (Nat.le_of_not_lt hn)]
  obtain ⟨h1, h2, h3⟩ := Env.putO_ok he (d := some d) (by simpa [dstOk] using hd) v
  refine ⟨h1, h2, h3.trans ?_⟩
  show putV e.toL (some d) v = e.toL
  have hg : e.toL[d]? = some v := by rw [Env.get_toL hd, h]
  unfold putV
  apply List.ext_getElem?
  intro j
  by_cases hj : d = j
  · subst hj
    rw [hg]
    have hl : d < e.toL.length := by rw [Env.len]; exact hd
    simp [hl]
  · simp [hj]
theorem gLn_cases {g : Option (Nat × Bool)} {e : Env} {s : Hp} {R : (V → Hp → Prop) → Prop} {K : Env → V → Hp → Prop} (he : e.Ok) (h : gLn g e s R K) :
    ∃ e1 : Env, e1.Ok ∧ e1.n = e.n ∧ e1.toL = e.toL ∧ (((∀ r s, fgstep g r e s = r) ∧ R (K e1)) ∨ ((∀ r s, fgstep g r e s = some (.tup [], s)) ∧ K e1 (.tup []) s)) := by
  unfold gLn at h
  split at h
  · exact ⟨e, he, rfl, rfl, .inl ⟨fun _ _ => rfl, h⟩⟩
  · rename_i d w
    split at h
    · rename_i b hb
      obtain ⟨h1, h2⟩ := of_bc h
      cases b
      · obtain ⟨p1, p2, p3⟩ := put_same he hb (by simp)
        refine ⟨_, p1, p2, p3, ?_⟩
        have h3 := h2 rfl
        cases w
        · exact .inl ⟨fun _ _ => by simp only [fgstep, hb, if_true], h3⟩
        · exact .inr ⟨fun _ _ => by simp [fgstep, hb], h3⟩
      · obtain ⟨p1, p2, p3⟩ := put_same he hb (by simp)
        refine ⟨_, p1, p2, p3, ?_⟩
        have h3 := h1 rfl
        cases w
        · exact .inr ⟨fun _ _ => by simp [fgstep, hb], h3⟩
        · exact .inl ⟨fun _ _ => by simp only [fgstep, hb, if_true], h3⟩
    · rename_i hb
      exact ⟨e, he, rfl, rfl, .inr ⟨fun _ _ => by simp only [fgstep, hb], h⟩⟩
    · exact h.elim
def gRdC (OP : List (Nat × Sh)) (CP : FuncId → List V → (V → Prop) → Prop) (d : Option Nat) (e : Env) (rd : Nat → Option AObj) (i : IOp) (K : V → Prop) : Prop :=
  match i with
  | .call g xs => gCall CP (shO OP d) (g.ev e) (xs.map (Src.ev e)) K
  | i => gRd OP d e rd i K
def gOps (OP : List (Nat × Sh)) (CH : CHt) (pr : List Nat) (l : List ILine) : Env → Hp → (Env → Hp → Prop) → Prop :=
  List.rec (fun e s K => K e s) (fun l _ ih e s K => gLn l.g e s (gop OP CH pr l.d e s l.i) fun e1 v s1 => ih (e1.putO l.d v) s1 K) l
def gDs (OP : List (Nat × Sh)) (CP : FuncId → List V → (V → Prop) → Prop) (CH : CHt) (pr base : List Nat) (l : List (Bool × Bool × ILine)) : Bool → Env → Hp → (Env → Hp → Prop) → Prop :=
  List.rec (fun _ e s K => K e s) (fun x _ ih fin e s K =>
    match x with
    | (true, _, l) => Bool.rec (gLn l.g e s (fun K' => gRdC OP CP l.d e (viewOf base s) l.i fun v => K' v s) fun e1 v s1 => ih false (e1.putO l.d v) s1 K) False fin
    | (false, true, l) => gLn l.g e s (gop OP CH pr l.d e s l.i) fun e1 v s1 => ih true (e1.putO l.d v) s1 K
    | (false, false, l) => Bool.rec (gLn l.g e s (gop OP CH (base ++ pr) l.d e s l.i) fun e1 v s1 => ih false (e1.putO l.d v) s1 K) False fin) l
def gBase (rs : List Nat) (e : Env) : List Nat := List.rec [] (fun i _ ih => match e.at i with | .ptr b _ => b :: ih | _ => ih) rs
def gPin (c : Src) (b : Bool) (e : Env) : Env := match c with | .tmp d => e.put d (.lit (.bool b)) | _ => e
def lookKV (ks : List Nat) (k : Nat) : List V → V → V :=
  List.rec (fun _ d => d) (fun i _ ih vs d => match vs with | [] => d | v :: vs => Bool.rec (ih vs d) v (Nat.beq i k)) ks
/-- Slots of which some are told. -/
def mkE (n : Nat) (ks : List Nat) (vs : List V) (jf : Nat → V) : Env := Env.args n ((List.range n).map fun k => lookKV ks k vs (jf k))
/-- A loop: some rounds, then an invariant with a measure. -/
def gLp (gc : (Exit → Env → Hp → Prop) → Env → Hp → Prop) (K : Exit → Env → Hp → Prop) (N : Nat) : Env → Hp → Prop :=
  Nat.rec (fun e s => ∃ (ks : List Nat) (inv : Nat → List V → Hp → Prop), (∃ m, inv m (ks.map e.at) s) ∧ ∀ m vs (jf : Nat → V) s, inv m vs s → gc (fun r e' s' => match r with | .normal => ∃ m', m' < m ∧ inv m' (ks.map e'.at) s' | r => K r e' s') (mkE e.n ks vs jf) s)
    (fun _ ih e s => gc (fun r e' s' => match r with | .normal => ih e' s' | r => K r e' s') e s) N
def gw (OP : List (Nat × Sh)) (CP : FuncId → List V → (V → Prop) → Prop) (CH : CHt) (pr : List Nat) (c : ICode) : (Exit → Env → Hp → Prop) → Env → Hp → Prop :=
  ICode.rec (motive := fun _ => (Exit → Env → Hp → Prop) → Env → Hp → Prop)
    (fun ls K e s => gOps OP CH pr ls e s (K .normal))
    (fun ld rs fl K e s => Bool.rec (gDs OP CP CH pr [] fl false e s (K .normal)) (Bool.rec False (gDs OP CP CH pr (gBase rs e) fl false e s (K .normal)) ((gBase rs e).all fun b => Nat.blt b s.n)) ld)
    (fun _ _ gx gy K e s => gx (fun r e' s' => match r with | .normal => gy K e' s' | r => K r e' s') e s)
    (fun id _ gc K e s => gc (fun r e' s' => match r with | .exit id' => K (Bool.rec (.exit id') .normal (Nat.beq id' id)) e' s' | r => K r e' s') e s)
    (fun _ gc K e s => ∃ N, gLp gc K N e s)
    (fun c _ _ gx gy K e s => match c.ev e with | .lit (.bool b) => bc b (gx K (gPin c true e) s) (gy K (gPin c false e) s) | _ => False)
    (fun K e s => K .ret e s)
    (fun K e s => K .normal e s)
    (fun id K e s => K (.exit id) e s)
    (fun _ _ _ => False) c
theorem lookKV_map (f : Nat → V) (k : Nat) : ∀ ks : List Nat, lookKV ks k (ks.map f) (f k) = f k
  | [] => rfl
  | i :: ks => by
    show (Bool.rec (lookKV ks k (ks.map f) (f k)) (f i) (Nat.beq i k) : V) = f k
    cases h : Nat.beq i k with
    | false => exact lookKV_map f k ks
    | true => rw [Nat.eq_of_beq_eq_true h]
theorem mkE_at {e : Env} (he : e.Ok) (ks : List Nat) : (mkE e.n ks (ks.map e.at) e.at).Ok ∧ (mkE e.n ks (ks.map e.at) e.at).n = e.n ∧ (mkE e.n ks (ks.map e.at) e.at).toL = e.toL := by
  obtain ⟨h1, h2, h3⟩ := args_ok (n := e.n) (vs := (List.range e.n).map fun k => lookKV ks k (ks.map e.at) (e.at k)) (by simp)
  refine ⟨h1, h2, h3.trans ?_⟩
  simp only [List.length_map, List.length_range, Nat.sub_self, List.replicate_zero, List.append_nil]
  unfold Env.toL
  exact List.map_congr_left fun k _ => lookKV_map _ _ _
section
variable {P : Program} {I : TI} {OP : List (Nat × Sh)} {CP : FuncId → List V → (V → Prop) → Prop} {CH : CHt} {pr : List Nat}
theorem gop_congr {d : Option Nat} {e e' : Env} {s : Hp} {i : IOp} {K : V → Hp → Prop} (h : ∀ x ∈ i.srcs, x.ev e = x.ev e') : gop OP CH pr d e s i K = gop OP CH pr d e' s i K := by
  have h0 := fun rd => fRd_congr (rd := rd) h
  cases i <;> simp only [gop, gRd]
  all_goals first
    | rw [h0]; done
    | skip
  all_goals simp only [IOp.srcs, List.mem_cons, List.not_mem_nil, or_false, forall_eq_or_imp, forall_eq, List.mem_append] at h
  all_goals first
    | (simp only [h]; done)
    | (rw [h.1, opt_congr (fun y hy => h.2 y (.inl hy)), opt_congr (fun y hy => h.2 y (.inr hy))]; done)
    | (rw [h.1, List.map_congr_left h.2]; done)
    | (rw [List.map_congr_left h]; done)
    | rfl
theorem gRdC_congr {d : Option Nat} {e e' : Env} {rd : Nat → Option AObj} {i : IOp} {K : V → Prop} (h : ∀ x ∈ i.srcs, x.ev e = x.ev e') : gRdC OP CP d e rd i K = gRdC OP CP d e' rd i K := by
  have h0 := fun rd => fRd_congr (rd := rd) h
  cases i <;> simp only [gRdC, gRd]
  all_goals first
    | rw [h0]; done
    | skip
  all_goals simp only [IOp.srcs, List.mem_cons, List.not_mem_nil, or_false, forall_eq_or_imp, forall_eq, List.mem_append] at h
  all_goals first
    | (simp only [h]; done)
    | (rw [h.1, opt_congr (fun y hy => h.2 y (.inl hy)), opt_congr (fun y hy => h.2 y (.inr hy))]; done)
    | (rw [h.1, List.map_congr_left h.2]; done)
    | (rw [List.map_congr_left h]; done)
    | rfl
/-- A line runs. -/
theorem gLn_sound (hI : I.All P) (hCH : CHok P I CH) {n : Nat} {ops : Array Oper} {o : Oper} {l : ILine} (hl : compL I n ops o = some l) {e e1 : Env} {s : Hp} (he : e.Ok) (hn : e.n = n) (he1 : e1.Ok) (hn1 : e1.n = n) (hs : s.Ok)
    (hsrc : ∀ x ∈ l.i.srcs, x.ev e = x.ev e1) (hst : ∀ r s, fgstep l.g r e s = fgstep l.g r e1 s) {K : Env → V → Hp → Prop} (h : gLn l.g e s (gop OP CH pr l.d e s l.i) K) :
    ∃ v s' e2, e2.Ok ∧ e2.n = n ∧ e2.toL = e.toL ∧ K e2 v s' ∧ Good pr s s' (fun K => vcStep P I ops o e1.toL s.tb K) v := by
  obtain ⟨e2, k1, k2, k3, k4⟩ := gLn_cases he h
  obtain ⟨p1, _, _⟩ := compL_parts hl
  rcases k4 with ⟨ha, hr⟩ | ⟨ha, hr⟩
  · rw [gop_congr hsrc] at hr
    obtain ⟨v, s', j1, j2, j3, j4⟩ := gop_sound hI hCH he1 hs p1 hr
    have hg : fgstep l.g (some (v, s')) e1 s = some (v, s') := by rw [← hst]; exact ha _ _
    refine ⟨v, s', e2, k1, k2.trans hn, k3, j3, gstep_step (r := some (v, s')) hs (fun v2 s2 h2 => ?_) (fgstep_eq hl hn1 hg)⟩
    injection h2 with h2
    injection h2 with ha hb
    subst ha; subst hb
    exact ⟨j1, j2, fun K hk => j4 K hk⟩
  · have hg : fgstep l.g none e1 s = some (.tup [], s) := by rw [← hst]; exact ha _ _
    exact ⟨.tup [], s, e2, k1, k2.trans hn, k3, hr, gstep_step (r := none) hs (fun v2 s2 h2 => by cases h2) (fgstep_eq hl hn1 hg)⟩
theorem gOps_sound (hI : I.All P) (hCH : CHok P I CH) {n : Nat} {ops : Array Oper} : ∀ (l : List Oper) (ls : List ILine), compLs I n ops l = some ls → ∀ (e : Env) (s : Hp) (K : Env → Hp → Prop), e.Ok → e.n = n → s.Ok → gOps OP CH pr ls e s K →
    ∃ e' s', K e' s' ∧ e'.Ok ∧ e'.n = n ∧ s'.Ok ∧ Hp.Le pr s s' ∧ ∀ Q : List V → Tb → Prop, Q e'.toL s'.tb → AOps P ops Q l e.toL s.tb := by
  intro l
  induction l with
  | nil =>
    intro ls hc e s K he hn hs h
    simp only [compLs, Option.some.injEq] at hc
    subst hc
    exact ⟨e, s, h, he, hn, hs, Hp.Le.refl _ _, fun Q hq => hq⟩
  | cons o rest ih =>
    intro ls hc e s K he hn hs h
    simp only [compLs] at hc
    split at hc
    · rename_i l1 ls1 h1 h2
      injection hc with hc
      subst hc
      have h' : gLn l1.g e s (gop OP CH pr l1.d e s l1.i) fun e1 v s1 => gOps OP CH pr ls1 (e1.putO l1.d v) s1 K := h
      obtain ⟨p1, p2, p3⟩ := compL_parts h1
      obtain ⟨v, s1, e2, q1, q2, q3, q4, j1, j2, j3⟩ := gLn_sound hI hCH h1 he hn he hn hs (fun _ _ => rfl) (fun _ _ => rfl) h'
      have hd : dstOk e2.n l1.d = true := by rw [p2, q2]; exact p3
      obtain ⟨r1, r2, r3⟩ := Env.putO_ok q1 hd v
      obtain ⟨e', s', t1, t2, t3, t4, t5, t6⟩ := ih ls1 h2 _ s1 K r1 (r2.trans q2) j1 q4
      refine ⟨e', s', t1, t2, t3, t4, j2.trans t5, fun Q hq => aops_step hI (j3 _ ?_)⟩
      rw [← q3, ← p2, ← r3]
      exact t6 Q hq
    · cases hc
theorem quiet (hI : I.All P) {ops : Array Oper} {o : Oper} {ts : List V} {s s1 : Hp} {r : Option V} {v : V} {T' : Tb} (key : ∀ v, r = some v → AOp P o ts T' fun v' T'' => v' = v ∧ T'' = T') (h : gstep ops (r.map fun v => (v, s)) o ts s = some (v, s1)) :
    vcStep P I ops o ts T' fun v' T'' => v' = v ∧ T'' = T' := by
  have key : ∀ v s1, (r.map fun v => (v, s)) = some (v, s1) → AOp P o ts T' fun v' T'' => v' = v ∧ T'' = T' := by
    intro v s1 h
    cases he : r with
    | none => rw [he] at h; cases h
    | some v2 =>
      rw [he] at h
      simp only [Option.map_some, Option.some.injEq, Prod.mk.injEq] at h
      obtain ⟨rfl, _⟩ := h
      exact key _ he
  unfold gstep at h
  unfold vcStep
  split at h
  · rename_i hg; rw [hg]; exact key _ _ h
  · rename_i j want hg
    rw [hg]
    simp only
    split at h
    · rename_i b hb
      simp only [hb]
      split at h
      · rename_i hw
        subst hw
        cases b
        · exact ⟨(fun e => by cases e), fun _ => key _ _ h⟩
        · exact ⟨fun _ => key _ _ h, (fun e => by cases e)⟩
      · rename_i hw
        injection h with h
        injection h with ha hb'
        subst ha
        cases b
        · cases want
          · exact (hw rfl).elim
          · exact ⟨(fun e => by cases e), fun _ => (by simp)⟩
        · cases want
          · exact ⟨fun _ => (by simp), (fun e => by cases e)⟩
          · exact (hw rfl).elim
    · rename_i hb
      simp only [hb]
      injection h with h
      injection h with ha hb'
      subst ha
      simp
    · cases h
/-- What may be read first. -/
theorem gRdC_sound (hI : I.All P) (hCP : CPok P I CP) {d : Option Nat} {e : Env} {o : Oper} {i : IOp} (he : e.Ok) (hc : CompOk I o.op i) {rd : Nat → Option AObj} {K : V → Prop} (h : gRdC OP CP d e rd i K) :
    ∃ v, K v ∧ ∀ T', (∀ b o, rd b = some o → T' b = some o) → AOp P o e.toL T' fun v' T'' => v' = v ∧ T'' = T' := by
  unfold gRdC at h
  split at h
  · rename_i g xs
    unfold gCall at h
    split at h
    · rename_i f first captured hg
      obtain ⟨hfn, v, hv, hcm⟩ := hCP _ _ _ h
      rcases hc with ⟨_, hc⟩ | hc | ⟨x, os, _, hc⟩
      · obtain ⟨g', args, tys, ho, rfl, rfl⟩ := comp_call hc
        have e1 : (Src.ev e ∘ Src.of) = evV e.toL := funext fun x => (Src.ev_of he x).symm
        rw [List.map_map, e1] at hcm
        rw [← Src.ev_of he] at hg
        exact ⟨v, Sh.dec_sound _ _ _ hv, fun T' _ => aop_call (xs := args.toList) (by simpa using ho) hg (hI.toOk.fn' hfn) (hcm T' _ ⟨rfl, rfl⟩)⟩
      · cases hc
      · cases hc
    · exact h.elim
  · obtain ⟨v, k1, k2⟩ := fRd_g h
    exact ⟨v, k2, fun T' hrd => vcOp_sound hI (eRd_sound hI hrd (fRd_eqB he hc k1) ⟨rfl, rfl⟩)⟩
theorem gDs_sound (hI : I.All P) (hCP : CPok P I CP) (hCH : CHok P I CH) {base L : List Nat} {n : Nat} {ops : Array Oper} {s0 : Hp} (hb : ∀ b, base.contains b = true → b < s0.n) :
    ∀ (ord : List (Nat × Bool)) (fl : List (Bool × Bool × ILine)), compDs I n ops L ord = some fl → ∀ (fin : Bool) (e : Env) (s : Hp) (K : Env → Hp → Prop), e.Ok → e.n = n → s.Ok → (fin = false → Hp.Le (base ++ pr) s0 s) → gDs OP CP CH pr base fl fin e s K →
      ∃ e' s', K e' s' ∧ e'.Ok ∧ e'.n = n ∧ s'.Ok ∧ Hp.Le pr s s' ∧ ∀ Q : List V → Tb → Prop, Q e'.toL s'.tb → vcD P I ops (CBase base s0) L Q ord e.toL s.tb := by
  intro ord
  induction ord with
  | nil =>
    intro fl hc fin e s K he hn hs _ h
    simp only [compDs, Option.some.injEq] at hc
    subst hc
    exact ⟨e, s, h, he, hn, hs, Hp.Le.refl _ _, fun Q hq => hq⟩
  | cons x r ih =>
    obtain ⟨i, q⟩ := x
    intro fl hc fin e s K he hn hs hfin h
    simp only [compDs] at hc
    split at hc
    · rename_i o ls ho hls
      split at hc
      · rename_i l hl
        split at hc
        · rename_i hk
          injection hc with hc
          subst hc
          obtain ⟨p1, p2, p3⟩ := compL_parts hl
          obtain ⟨e1, o1, o2, o3, o4, o5⟩ := only_step hl hk he hn
          have go : ∀ (pr2 : List Nat) (fin' : Bool), (∀ b ∈ pr, b ∈ pr2) → (∀ s1, Hp.Le pr2 s s1 → fin' = false → Hp.Le (base ++ pr) s0 s1) → (∀ s1, Hp.Le pr2 s s1 → L.contains i = false → CBase base s0 s1.tb) → q = false →
              (gLn l.g e s (gop OP CH pr2 l.d e s l.i) fun e1 v s1 => gDs OP CP CH pr base ls fin' (e1.putO l.d v) s1 K) →
              ∃ e' s', K e' s' ∧ e'.Ok ∧ e'.n = n ∧ s'.Ok ∧ Hp.Le pr s s' ∧ ∀ Q : List V → Tb → Prop, Q e'.toL s'.tb → vcD P I ops (CBase base s0) L Q ((i, q) :: r) e.toL s.tb := by
            intro pr2 fin' hsub hle hcb hq h9
            subst hq
            obtain ⟨v, s1, e2, q1, q2, q3, q4, j1, j2, j3⟩ := gLn_sound hI hCH hl he hn o1 o2 hs o4 o5 h9
            have hd : dstOk e2.n l.d = true := by rw [p2, q2]; exact p3
            obtain ⟨r1, r2, r3⟩ := Env.putO_ok q1 hd v
            obtain ⟨e', s', t1, t2, t3, t4, t5, t6⟩ := ih ls hls fin' _ s1 K r1 (r2.trans q2) j1 (hle s1 j2) q4
            refine ⟨e', s', t1, t2, t3, t4, (j2.sub hsub).trans t5, fun Q hq => ?_⟩
            simp only [vcD]
            rw [ho]
            rw [o3] at j3
            refine j3 _ ⟨hcb s1 j2, ?_⟩
            rw [← q3, ← p2, ← r3]
            exact t6 Q hq
          cases q with
          | true =>
            have h' : (Bool.rec (gLn l.g e s (fun K' => gRdC OP CP l.d e (viewOf base s) l.i fun v => K' v s) fun e1 v s1 => gDs OP CP CH pr base ls false (e1.putO l.d v) s1 K) False fin : Prop) := h
            cases fin with
            | true => exact h'.elim
            | false =>
              have h2 : gLn l.g e s (fun K' => gRdC OP CP l.d e (viewOf base s) l.i fun v => K' v s) fun e1 v s1 => gDs OP CP CH pr base ls false (e1.putO l.d v) s1 K := h'
              obtain ⟨e2, q1, q2, q3, k4⟩ := gLn_cases he h2
              have hle := hfin rfl
              have hrd : ∀ T', CBase base s0 T' → ∀ b o, viewOf base s b = some o → T' b = some o := by
                intro T' hC b o h
                unfold viewOf at h
                split at h
                · rename_i hc
                  rw [hle.2 b (List.mem_append.2 (.inl (by simpa using hc))) (hb b hc)] at h
                  exact hC b o hc h
                · cases h
              have fin : ∀ v (rr : Option V), (∀ T', CBase base s0 T' → ∀ v, rr = some v → AOp P o e1.toL T' fun v' T'' => v' = v ∧ T'' = T') → fgstep l.g (rr.map fun v => (v, s)) e1 s = some (v, s) → gDs OP CP CH pr base ls false (e2.putO l.d v) s K →
                  ∃ e' s', K e' s' ∧ e'.Ok ∧ e'.n = n ∧ s'.Ok ∧ Hp.Le pr s s' ∧ ∀ Q : List V → Tb → Prop, Q e'.toL s'.tb → vcD P I ops (CBase base s0) L Q ((i, true) :: r) e.toL s.tb := by
                intro v rr hrr hg h4
                have hd : dstOk e2.n l.d = true := by rw [p2, q2, hn]; exact p3
                obtain ⟨r1, r2, r3⟩ := Env.putO_ok q1 hd v
                obtain ⟨e', s', t1, t2, t3, t4, t5, t6⟩ := ih ls hls false _ s K r1 (r2.trans (q2.trans hn)) hs (fun _ => hle) h4
                refine ⟨e', s', t1, t2, t3, t4, t5, fun Q hq => ?_⟩
                simp only [vcD]
                rw [ho]
                have hg2 := fgstep_eq hl o2 hg
                rw [o3] at hg2 hrr
                refine ⟨v, fun T' hC => quiet hI (hrr T' hC) hg2, ?_⟩
                rw [← q3, ← p2, ← r3]
                exact t6 Q hq
              rcases k4 with ⟨ha, hr⟩ | ⟨ha, hr⟩
              · rw [gRdC_congr o4] at hr
                obtain ⟨v, hv, hop⟩ := gRdC_sound hI hCP o1 p1 hr
                refine fin v (some v) (fun T' hC v2 h2 => ?_) (by rw [← o5]; exact ha _ _) hv
                injection h2 with h2
                subst h2
                exact hop T' (hrd T' hC)
              · exact fin (.tup []) none (fun T' hC v2 h2 => by cases h2) (by rw [← o5]; exact ha _ _) hr
          | false =>
            cases hL : L.contains i with
            | true =>
              rw [hL] at h
              exact go pr true (fun b hb => hb) (fun _ _ e => by cases e) (fun _ _ e => by rw [hL] at e; cases e) rfl h
            | false =>
              rw [hL] at h
              cases fin with
              | true => exact (h : False).elim
              | false =>
                exact go (base ++ pr) false (fun b hb => List.mem_append.2 (.inr hb)) (fun s1 hl1 _ => (hfin rfl).trans hl1) (fun s1 hl1 _ => CBase.of ((hfin rfl).trans hl1)) rfl h
        · cases hc
      · cases hc
    · cases hc
end
end
end Go.Ae
