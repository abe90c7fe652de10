/- A part of the proof: a machine on trees that is sound for the model, its tables, and contracts of functions. Conditions: none. -/
import Derived.Test.YtpookgemmjdgfaaGreatAeTh
namespace Go.Ae
open Go.RowKit
noncomputable section

/-! ### The fast machine is sound -/
def compRes (I : TI) : ResultVar → Option IRes
  | .tmp t => some (.tmp (.tmp t))
  | .cell a t => if I.sc.contains t then some (.cell (.tmp a) true 0) else (match look I.ag t with | some n => some (.cell (.tmp a) false n) | none => none)
def compRs (I : TI) : List ResultVar → Option (List IRes)
  | [] => some []
  | r :: rs => match compRes I r, compRs I rs with | some x, some xs => some (x :: xs) | _, _ => none
/-- A function of the program, as instructions. -/
def compF (P : Program) (I : TI) (D : Nat → Option (List (Nat × Bool) × List Nat)) (f : FuncId) : Option FnI :=
  match P.funcs[f]? with
  | none => none
  | some fn =>
    match fn.body with
    | none => none
    | some c =>
      match compC I D fn.ntmps c, compRs I fn.results.toList with
      | some ic, some rs => some ⟨ic, rs, fn.ntmps⟩
      | _, _ => none
def FOk (P : Program) (I : TI) (D : FuncId → Nat → Option (List (Nat × Bool) × List Nat)) (F : Tr FnI) : Prop :=
  ∀ f fi, F.get f = some fi → compF P I (D f) f = some fi ∧ I.fn.contains f = true

theorem getD_toL {e : Env} (he : e.Ok) (i : Nat) : (Src.tmp i).ev e = evV e.toL (.tmp i) := (Src.ev_of he (.tmp i)).symm
section
variable {P : Program} {I : TI} {D : FuncId → Nat → Option (List (Nat × Bool) × List Nat)} {M : FuncId → List V → Option V} {N : Nat} {F : Tr FnI}
theorem fRes_eq {e : Env} (he : e.Ok) {s : Hp} {r : ResultVar} {ir : IRes} {v : V} (hc : compRes I r = some ir) (h : fRes e s ir = some v) : eRes I s e.toL r = some v := by
  cases r with
  | tmp t =>
    simp only [compRes, Option.some.injEq] at hc
    subst hc
    simp only [fRes] at h
    rw [getD_toL he] at h
    exact h
  | cell a t =>
    have key : ∀ sc n, (∀ cs off, fRead sc n cs off = eRead I t cs off) → fRes e s (.cell (.tmp a) sc n) = some v → eRes I s e.toL (.cell a t) = some v := by
      intro sc n hr h
      simp only [fRes] at h
      rw [getD_toL he] at h
      unfold eRes
      split at h
      · rename_i b off hx
        split at h
        · rename_i cs hcs
          simp only [hx, hcs]
          rw [← hr]
          exact h
        · cases h
      · cases h
    simp only [compRes] at hc
    split at hc
    · rename_i hs
      injection hc with hc
      subst hc
      exact key _ _ (fun cs off => by unfold fRead eRead; rw [if_pos rfl, if_pos hs]) h
    · rename_i hs
      split at hc
      · rename_i n hn
        injection hc with hc
        subst hc
        exact key _ _ (fun cs off => by unfold fRead eRead; rw [if_neg (by simp), if_neg hs, hn]) h
      · cases hc
theorem fRess_cons (e : Env) (s : Hp) (r : IRes) (rs : List IRes) : fRess e s (r :: rs) = (match fRes e s r, fRess e s rs with | some v, some vs => some (v :: vs) | _, _ => none) := rfl
theorem fRess_eq {e : Env} (he : e.Ok) {s : Hp} : ∀ {rs : List ResultVar} {irs : List IRes} {vs : List V}, compRs I rs = some irs → fRess e s irs = some vs → eRess I s e.toL rs = some vs
  | [], irs, vs, hc, h => by
    simp only [compRs, Option.some.injEq] at hc
    subst hc
    have h' : some ([] : List V) = some vs := h
    simp only [eRess]
    exact h'
  | r :: rs, irs, vs, hc, h => by
    simp only [compRs] at hc
    split at hc
    · rename_i x xs h1 h2
      injection hc with hc
      subst hc
      rw [fRess_cons] at h
      split at h
      · rename_i v1 vs1 k1 k2
        injection h with h
        subst h
        simp only [eRess]
        rw [fRes_eq he h1 k1, fRess_eq he h2 k2]
      · cases h
    · cases hc

/-! the slots at a call -/
def argsT (vs : List V) : Nat → Tr V → Tr V := List.rec (fun _ t => t) (fun v _ ih i t => ih (i + 1) (t.set v i)) vs
theorem argsT_cons (v : V) (vs : List V) (i : Nat) (t : Tr V) : argsT (v :: vs) i t = argsT vs (i + 1) (t.set v i) := rfl
theorem argsT_get : ∀ (vs : List V) (i : Nat) (t : Tr V) (j : Nat), (argsT vs i t).get j = if i ≤ j ∧ j < i + vs.length then vs[j - i]? else t.get j
  | [], i, t, j => by
    rw [if_neg (by simp)]
    rfl
  | v :: vs, i, t, j => by
    rw [argsT_cons, argsT_get vs (i + 1) (t.set v i) j, Tr.get_set]
    by_cases h : j = i
    · subst h
      rw [if_neg (by omega), if_pos rfl, if_pos (by simp)]
      simp
    · by_cases h2 : i + 1 ≤ j ∧ j < i + 1 + vs.length
      · rw [if_pos h2, if_pos (by simp; omega), show j - i = (j - (i + 1)) + 1 by omega, List.getElem?_cons_succ]
      · rw [if_neg h2, if_neg h, if_neg (by simp; omega)]
theorem args_ok {n : Nat} {vs : List V} (h : vs.length ≤ n) : (Env.args n vs).Ok ∧ (Env.args n vs).n = n ∧ (Env.args n vs).toL = vs ++ List.replicate (n - vs.length) (.tup []) := by
  have hg : ∀ j, (Env.args n vs).t.get j = if j < vs.length then vs[j]? else none := by
    intro j
    have := argsT_get vs 0 .nil j
    simp only [Nat.zero_le, true_and, Nat.zero_add, Nat.sub_zero] at this
    exact this
  refine ⟨fun i hi => ?_, rfl, ?_⟩
  · have hi' : n ≤ i := hi
    rw [hg, if_neg (by omega)]
  · apply List.ext_getElem?
    intro j
    by_cases hj : j < n
    · rw [Env.get_toL (e := Env.args n vs) hj]
      unfold Env.at
      rw [hg]
      by_cases h2 : j < vs.length
      · rw [if_pos h2, List.getElem?_append_left h2, List.getElem?_eq_getElem h2]
      · rw [if_neg h2, List.getElem?_append_right (by omega), List.getElem?_replicate, if_pos (by omega)]
    · rw [List.getElem?_eq_none (by rw [Env.len]; show n ≤ j; omega), List.getElem?_eq_none (by simp; omega)]

theorem fRnds_succ (body : Env → Hp → Option (Exit × Env × Hp)) (N : Nat) (e : Env) (s : Hp) : fRnds body (N + 1) e s = (match body e s with | none => none | some (x, e', s') => (match x with | .normal => fRnds body N e' s' | x => some (x, e', s'))) := rfl
/-- What the code does, and the slots. -/
def FRuns (P : Program) (pr : List Nat) (n : Nat) (c : Code) (e : Env) (s : Hp) (x : Exit) (e' : Env) (s' : Hp) : Prop := Runs P pr c e.toL s x e'.toL s' ∧ e'.Ok ∧ e'.n = n
theorem fRnds_sound {pr : List Nat} {c : Code} {n : Nat} {body : Env → Hp → Option (Exit × Env × Hp)} (hb : ∀ e s x e' s', e.Ok → e.n = n → s.Ok → body e s = some (x, e', s') → FRuns P pr n c e s x e' s') :
    ∀ (k : Nat) (e : Env) (s : Hp) (x : Exit) (e' : Env) (s' : Hp), e.Ok → e.n = n → s.Ok → fRnds body k e s = some (x, e', s') →
      (s'.Ok ∧ Hp.Le pr s s' ∧ ∀ Q : Exit → List V → Tb → Prop, Q x e'.toL s'.tb → ARounds P c Q k e.toL s.tb) ∧ e'.Ok ∧ e'.n = n := by
  intro k
  induction k with
  | zero => intro e s x e' s' _ _ _ h; cases h
  | succ k ih =>
    intro e s x e' s' he hn hs h
    rw [fRnds_succ] at h
    split at h
    · cases h
    · rename_i x1 e1 s1 h1
      obtain ⟨⟨k1, k2, k3⟩, k4, k5⟩ := hb _ _ _ _ _ he hn hs h1
      split at h
      · obtain ⟨⟨j1, j2, j3⟩, j4, j5⟩ := ih _ _ _ _ _ k4 k5 k1 h
        exact ⟨⟨j1, k2.trans j2, fun Q hq => k3 _ (j3 Q hq)⟩, j4, j5⟩
      · rename_i x2 hne
        injection h with h
        injection h with ha hb
        injection hb with hb hc
        subst ha; subst hb; subst hc
        refine ⟨⟨k1, k2, fun Q hq => k3 _ ?_⟩, k4, k5⟩
        unfold AThen
        split
        · exact (hne rfl).elim
        · exact hq

theorem fCallF_fn (hMf : ∀ f args v, M f args = some v → I.fn.contains f = true) (hF : FOk P I D F) (rn : List Nat → ICode → Env → Hp → Option (Exit × Env × Hp)) (pr : List Nat) (s : Hp) (f : FuncId) (args : List V) (r : V × Hp) (h : fCallF F M rn pr f args s = some r) : I.fn.contains f = true := by
  unfold fCallF at h
  split at h
  · rename_i v hm; exact hMf _ _ _ hm
  · split at h
    · cases h
    · rename_i fi hf; exact (hF f fi hf).2
theorem fCallF_sound (hI : I.All P) (hM : ∀ f args v, M f args = some v → Comes P f args v) (hF : FOk P I D F) {rn : List Nat → ICode → Env → Hp → Option (Exit × Env × Hp)}
    (hr : ∀ D pr c ic n e s x e' s', compC I D n c = some ic → e.Ok → e.n = n → s.Ok → rn pr ic e s = some (x, e', s') → FRuns P pr n c e s x e' s') (pr : List Nat) (s : Hp) (hs : s.Ok) (f : FuncId) (args : List V) (v : V) (s' : Hp) (h : fCallF F M rn pr f args s = some (v, s')) :
    Good pr s s' (fun K => ACalls P f args s.tb K) v := by
  unfold fCallF at h
  split at h
  · rename_i v' hm
    injection h with h
    injection h with ha hb
    subst ha; subst hb
    exact ⟨hs, Hp.Le.refl _ _, fun K hk => hM _ _ _ hm _ _ hk⟩
  · split at h
    · cases h
    · rename_i fi hfi
      split at h
      · rename_i hlen
        split at h
        · cases h
        · rename_i x e1 s1 h1
          have hc := (hF f fi hfi).1
          unfold compF at hc
          split at hc
          · cases hc
          · rename_i fn hfn
            split at hc
            · cases hc
            · rename_i c hbody
              split at hc
              · rename_i ic rs hic hrs
                injection hc with hc
                subst hc
                obtain ⟨a1, a2, a3⟩ := args_ok hlen
                obtain ⟨⟨k1, k2, k3⟩, k4, k5⟩ := hr _ _ _ _ _ _ _ _ _ _ hic a1 a2 hs h1
                rw [a3] at k3
                have fin : (x = Exit.normal ∨ x = Exit.ret) → (match fRess e1 s1 rs with | some vs => some (oneV vs, s1) | none => none) = some (v, s') → Good pr s s' (fun K => ACalls P f args s.tb K) v := by
                  intro hx h
                  split at h
                  · rename_i vs hvs
                    injection h with h
                    injection h with ha hb
                    subst ha; subst hb
                    refine ⟨k1, k2, fun K hk => acalls_of hfn hbody (rs := fn.results.toList) (by simp) rfl (k3 _ ?_)⟩
                    have hvs' := eRess_sound hI (fRess_eq k4 hrs hvs)
                    rcases hx with rfl | rfl
                    · exact ⟨vs, hvs', hk⟩
                    · exact ⟨vs, hvs', hk⟩
                  · cases h
                split at h
                · exact fin (.inl rfl) h
                · exact fin (.inr rfl) h
                · cases h
              · cases hc
      · cases h
theorem frun_succ (k : Nat) (pr : List Nat) (c : ICode) (e : Env) (s : Hp) : frun F M N (k + 1) pr c e s =
    (match c with
    | .row ls => (match fOps pr (fCallF F M (frun F M N k) pr) ls e s with | some (e', s') => some (.normal, e', s') | none => none)
    | .draw ld rs fl =>
      if ld then
        (if (fBase rs fl e s).all (fun b => decide (b < s.n)) = true then
          (match fD pr (fBase rs fl e s) (fCallF F M (frun F M N k)) fl false e s with | some (e', s') => some (.normal, e', s') | none => none)
        else none)
      else (match fD pr [] (fCallF F M (frun F M N k)) fl false e s with | some (e', s') => some (.normal, e', s') | none => none)
    | .seq x y => (match frun F M N k pr x e s with | none => none | some (r, e', s') => (match r with | .normal => frun F M N k pr y e' s' | r => some (r, e', s')))
    | .blk id c => (match frun F M N k pr c e s with | none => none | some (r, e', s') => (match r with | .exit id' => some (if id' = id then .normal else .exit id', e', s') | r => some (r, e', s')))
    | .loop c => fRnds (frun F M N k pr c) N e s
    | .cond c x y => (match c.ev e with | .lit (.bool b) => Bool.rec (frun F M N k pr y e s) (frun F M N k pr x e s) b | _ => none)
    | .ret => some (.ret, e, s)
    | .skip => some (.normal, e, s)
    | .exit id => some (.exit id, e, s)
    | .bad => none) := rfl
theorem frun_sound (hI : I.All P) (hm : P.follows .mixedOrders = true) (hM : ∀ f args v, M f args = some v → Comes P f args v) (hMf : ∀ f args v, M f args = some v → I.fn.contains f = true) (hF : FOk P I D F) : ∀ (k : Nat) (D' : Nat → Option (List (Nat × Bool) × List Nat)) (pr : List Nat) (c : Code) (ic : ICode) (n : Nat) (e : Env) (s : Hp) (x : Exit) (e' : Env) (s' : Hp),
    compC I D' n c = some ic → e.Ok → e.n = n → s.Ok → frun F M N k pr ic e s = some (x, e', s') → FRuns P pr n c e s x e' s' := by
  intro k
  induction k with
  | zero => intro D' pr c ic n e s x e' s' _ _ _ _ h; cases h
  | succ k ih =>
    intro D' pr c ic n e s x e' s' hc he hn hs h
    have hcf := fun pr s hs => fCallF_sound hI hM hF (rn := frun F M N k) (fun D pr c ic n e s x e' s' hc he hn hs h => ih D pr c ic n e s x e' s' hc he hn hs h) pr s hs
    have hfn := fun pr s f args r => fCallF_fn hMf hF (frun F M N k) pr s f args r
    rw [frun_succ] at h
    unfold compC at hc
    split at hc
    · rename_i id ops draw
      split at hc
      · rename_i hd
        subst hd
        split at hc
        · injection hc with hc; subst hc; cases h
        · rename_i ord L hD
          split at hc
          · rename_i hok
            split at hc
            · rename_i fl hfl
              injection hc with hc
              subst hc
              have key : ∀ base : List Nat, (∀ b, base.contains b = true → b < s.n) → (match fD pr base (fCallF F M (frun F M N k)) fl false e s with | some (e', s') => some (Exit.normal, e', s') | none => none) = some (x, e', s') → FRuns P pr n (.region id ops true) e s x e' s' := by
                intro base hb h
                split at h
                · rename_i e1 s1 h1
                  injection h with h
                  injection h with ha hb'
                  injection hb' with hb' hc'
                  subst ha; subst hb'; subst hc'
                  obtain ⟨d1, d2, d3⟩ := fD_eq hfn ord fl hfl false e s _ _ he hn h1
                  obtain ⟨k1, k2, k3⟩ := runD_sound (P := P) hI hcf (s0 := s) hb ord false e.toL s _ _ hs (fun _ => Hp.Le.refl _ _) d1
                  refine ⟨⟨k1, k2, fun Q hq => ?_⟩, d2, d3⟩
                  obtain ⟨l⟩ := ops
                  exact awp_vcD hI (CBase base s) L ord hm hok.1 hok.2 (CBase.of (pr := pr) (Hp.Le.refl _ _)) (k3 (Q .normal) hq)
                · cases h
              simp only at h
              split at h
              · split at h
                · rename_i hall
                  refine key _ (fun b hb => ?_) h
                  have := List.all_eq_true.1 hall b (by simpa using hb)
                  simpa using this
                · cases h
              · exact key [] (fun b hb => by simp at hb) h
            · injection hc with hc; subst hc; cases h
          · injection hc with hc; subst hc; cases h
      · rename_i hd
        have hd' : draw = false := by simpa using hd
        subst hd'
        split at hc
        · rename_i ls hls
          injection hc with hc
          subst hc
          simp only at h
          split at h
          · rename_i e1 s1 h1
            injection h with h
            injection h with ha hb'
            injection hb' with hb' hc'
            subst ha; subst hb'; subst hc'
            obtain ⟨d1, d2, d3⟩ := fOps_eq (I := I) (fun s => hfn pr s) _ _ hls _ _ _ _ he hn h1
            obtain ⟨k1, k2, k3⟩ := runOps_sound (P := P) hI (fun s hs => hcf pr s hs) _ _ _ _ _ hs d1
            refine ⟨⟨k1, k2, fun Q hq => ?_⟩, d2, d3⟩
            obtain ⟨l⟩ := ops
            exact awp_region (k3 (Q .normal) hq)
          · cases h
        · cases hc
    · rename_i x1 y1
      split at hc
      · rename_i a b ha hb
        injection hc with hc
        subst hc
        simp only at h
        split at h
        · cases h
        · rename_i r1 e1 s1 h1
          obtain ⟨⟨k1, k2, k3⟩, k4, k5⟩ := ih _ _ _ _ _ _ _ _ _ _ ha he hn hs h1
          split at h
          · obtain ⟨⟨j1, j2, j3⟩, j4, j5⟩ := ih _ _ _ _ _ _ _ _ _ _ hb k4 k5 k1 h
            exact ⟨⟨j1, k2.trans j2, fun Q hq => awp_seq (k3 _ (j3 Q hq))⟩, j4, j5⟩
          · rename_i e2 hne
            injection h with h
            injection h with ha hb
            injection hb with hb hc
            subst ha; subst hb; subst hc
            refine ⟨⟨k1, k2, fun Q hq => awp_seq (k3 _ ?_)⟩, k4, k5⟩
            unfold AThen
            split
            · exact (hne rfl).elim
            · exact hq
      · cases hc
    · rename_i id c1
      split at hc
      · rename_i a ha
        injection hc with hc
        subst hc
        simp only at h
        split at h
        · cases h
        · rename_i r1 e1 s1 h1
          obtain ⟨⟨k1, k2, k3⟩, k4, k5⟩ := ih _ _ _ _ _ _ _ _ _ _ ha he hn hs h1
          split at h
          · rename_i id'
            injection h with h
            injection h with ha hb
            injection hb with hb hc
            subst ha; subst hb; subst hc
            refine ⟨⟨k1, k2, fun Q hq => awp_block (k3 _ ?_)⟩, k4, k5⟩
            show if id' = id then _ else _
            split
            · rename_i hid; rw [if_pos hid] at hq; exact hq
            · rename_i hid; rw [if_neg hid] at hq; exact hq
          · rename_i e2 hne
            injection h with h
            injection h with ha hb
            injection hb with hb hc
            subst ha; subst hb; subst hc
            refine ⟨⟨k1, k2, fun Q hq => awp_block (k3 _ ?_)⟩, k4, k5⟩
            unfold AIn
            split
            · exact (hne _ rfl).elim
            · exact hq
      · cases hc
    · rename_i c1
      split at hc
      · rename_i a ha
        injection hc with hc
        subst hc
        simp only at h
        obtain ⟨⟨k1, k2, k3⟩, k4, k5⟩ := fRnds_sound (P := P) (pr := pr) (c := c1) (n := n) (fun e s x e' s' he hn hs h => ih _ _ _ _ _ _ _ _ _ _ ha he hn hs h) _ _ _ _ _ _ he hn hs h
        exact ⟨⟨k1, k2, fun Q hq => awp_loop _ (k3 Q hq)⟩, k4, k5⟩
      · cases hc
    · rename_i c0 x1 y1
      split at hc
      · rename_i a b ha hb
        injection hc with hc
        subst hc
        simp only at h
        split at h
        · rename_i bb hbb
          rw [← Src.ev_of he] at hbb
          cases bb
          · obtain ⟨⟨k1, k2, k3⟩, k4⟩ := ih _ _ _ _ _ _ _ _ _ _ hb he hn hs h
            exact ⟨⟨k1, k2, fun Q hq => awp_cond hbb (fun e => by cases e) (fun _ => k3 Q hq)⟩, k4⟩
          · obtain ⟨⟨k1, k2, k3⟩, k4⟩ := ih _ _ _ _ _ _ _ _ _ _ ha he hn hs h
            exact ⟨⟨k1, k2, fun Q hq => awp_cond hbb (fun _ => k3 Q hq) (fun e => by cases e)⟩, k4⟩
        · cases h
      · cases hc
    · injection hc with hc
      subst hc
      injection h with h
      injection h with ha hb
      injection hb with hb hc
      subst ha; subst hb; subst hc
      exact ⟨⟨hs, Hp.Le.refl _ _, fun Q hq => awp_ret hq⟩, he, hn⟩
    · injection hc with hc
      subst hc
      injection h with h
      injection h with ha hb
      injection hb with hb hc
      subst ha; subst hb; subst hc
      exact ⟨⟨hs, Hp.Le.refl _ _, fun Q hq => awp_skip hq⟩, he, hn⟩
    · injection hc with hc
      subst hc
      injection h with h
      injection h with ha hb
      injection hb with hb hc
      subst ha; subst hb; subst hc
      exact ⟨⟨hs, Hp.Le.refl _ _, fun Q hq => awp_exit hq⟩, he, hn⟩
    · injection hc with hc; subst hc; cases h
/-- A call that is reckoned whole. -/
theorem comes_frun (hI : I.All P) (hm : P.follows .mixedOrders = true) (hM : ∀ f args v, M f args = some v → Comes P f args v) (hMf : ∀ f args v, M f args = some v → I.fn.contains f = true) (hF : FOk P I D F) {k : Nat} {f : FuncId} {args : List V} {v : V} {s' : Hp} (ha : ∀ x ∈ args, V.Pure x) (hv : v.Pure)
    (h : fCallF F M (frun F M N k) [] f args H0 = some (v, s')) : Comes P f args v := by
  obtain ⟨_, _, k3⟩ := fCallF_sound hI hM hF (rn := frun F M N k) (fun D pr c ic n e s x e' s' hc he hn hs h => frun_sound hI hm hM hMf hF k D pr c ic n e s x e' s' hc he hn hs h) [] H0 rfl f args v s' h
  refine comes_of ha hv ?_
  have := k3 (fun v' _ => v' = v) rfl
  have e : H0.tb = T0 := Tb.ext' (fun b => by simp [Hp.tb, Hp.at, H0, T0]) rfl
  rwa [e] at this
end
end
end Go.Ae
