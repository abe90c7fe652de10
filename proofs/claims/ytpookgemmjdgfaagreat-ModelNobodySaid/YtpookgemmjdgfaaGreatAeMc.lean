/- A part of the proof: a machine on trees that is sound for the model, its tables, and contracts of functions. Conditions: none. -/
import Derived.Test.YtpookgemmjdgfaaGreatAeMb
namespace Go.Ae
open Go.RowKit
noncomputable section
section
variable {P : Program} {I : TI} {OP : List (Nat × Sh)} {CP : FuncId → List V → (V → Prop) → Prop} {CH : CHt} {pr : List Nat} {D : Nat → Option (List (Nat × Bool) × List Nat)}
theorem gBase_lt {rs : List Nat} {e : Env} {n : Nat} (h : ((gBase rs e).all fun b => Nat.blt b n) = true) : ∀ b, (gBase rs e).contains b = true → b < n := by
  intro b hb
  have := List.all_eq_true.1 h b (by simpa using hb)
  exact Nat.le_of_ble_eq_true this
def GRuns (P : Program) (pr : List Nat) (n : Nat) (c : Code) (e : Env) (s : Hp) (K : Exit → Env → Hp → Prop) : Prop :=
  ∃ x e' s', K x e' s' ∧ e'.Ok ∧ e'.n = n ∧ Runs P pr c e.toL s x e'.toL s'
theorem gPin_ok {c : Src} {b : Bool} {e : Env} (he : e.Ok) (h : c.ev e = .lit (.bool b)) : (gPin c b e).Ok ∧ (gPin c b e).n = e.n ∧ (gPin c b e).toL = e.toL := by
  unfold gPin
  split
  · rename_i d
    exact put_same he h (by simp)
  · exact ⟨he, rfl, rfl⟩
theorem gloop_sound {n : Nat} {c : Code} {K : Exit → Env → Hp → Prop} {body : (Exit → Env → Hp → Prop) → Env → Hp → Prop} {ks : List Nat} {inv : Nat → List V → Hp → Prop}
    (hb : ∀ K e s, e.Ok → e.n = n → s.Ok → body K e s → GRuns P pr n c e s K)
    (hi : ∀ m vs (jf : Nat → V) s, inv m vs s → body (fun r e' s' => match r with | .normal => ∃ m', m' < m ∧ inv m' (ks.map e'.at) s' | r => K r e' s') (mkE n ks vs jf) s) :
    ∀ (m0 m : Nat), m < m0 → ∀ (e : Env) (s : Hp), e.Ok → e.n = n → s.Ok → inv m (ks.map e.at) s →
      ∃ x e' s', K x e' s' ∧ e'.Ok ∧ e'.n = n ∧ s'.Ok ∧ Hp.Le pr s s' ∧ ∀ Q : Exit → List V → Tb → Prop, Q x e'.toL s'.tb → ARounds P c Q m0 e.toL s.tb := by
  intro m0
  induction m0 with
  | zero => intro m hm; omega
  | succ m0 ih =>
    intro m hm e s he hn hs hinv
    obtain ⟨w1, w2, w3⟩ := mkE_at he ks
    rw [hn] at w1 w2 w3
    obtain ⟨x1, e1, s1, hk, k1, k2, j1, j2, j3⟩ := hb _ _ s w1 w2 hs (hi m _ e.at s hinv)
    rw [w3] at j3
    split at hk
    · obtain ⟨m', hlt, hinv'⟩ := hk
      obtain ⟨x, e', s', t1, t2, t3, t4, t5, t6⟩ := ih m' (by omega) e1 s1 k1 k2 j1 hinv'
      exact ⟨x, e', s', t1, t2, t3, t4, j2.trans t5, fun Q hq => j3 _ (t6 Q hq)⟩
    · rename_i x2 hne
      refine ⟨x1, e1, s1, hk, k1, k2, j1, j2, fun Q hq => j3 _ ?_⟩
      unfold AThen
      split
      · exact (hne rfl).elim
      · exact hq
theorem gLp_sound {n : Nat} {c : Code} {K : Exit → Env → Hp → Prop} {body : (Exit → Env → Hp → Prop) → Env → Hp → Prop} (hb : ∀ K e s, e.Ok → e.n = n → s.Ok → body K e s → GRuns P pr n c e s K) :
    ∀ (N : Nat) e s, e.Ok → e.n = n → s.Ok → gLp body K N e s →
      ∃ x e' s', K x e' s' ∧ e'.Ok ∧ e'.n = n ∧ s'.Ok ∧ Hp.Le pr s s' ∧ ∃ m, ∀ Q : Exit → List V → Tb → Prop, Q x e'.toL s'.tb → ARounds P c Q m e.toL s.tb
  | 0, e, s, he, hn, hs, h => by
    obtain ⟨ks, inv, ⟨m, h1⟩, h2⟩ := h
    rw [hn] at h2
    obtain ⟨x, e', s', t1, t2, t3, t4, t5, t6⟩ := gloop_sound (P := P) (K := K) (ks := ks) (inv := inv) hb h2 (m + 1) m (Nat.lt_succ_self _) e s he hn hs h1
    exact ⟨x, e', s', t1, t2, t3, t4, t5, _, t6⟩
  | N + 1, e, s, he, hn, hs, h => by
    have h' : body (fun r e' s' => match r with | .normal => gLp body K N e' s' | r => K r e' s') e s := h
    obtain ⟨x1, e1, s1, hk, k1, k2, j1, j2, j3⟩ := hb _ e s he hn hs h'
    split at hk
    · obtain ⟨x, e', s', t1, t2, t3, t4, t5, m, t6⟩ := gLp_sound hb N e1 s1 k1 k2 j1 hk
      exact ⟨x, e', s', t1, t2, t3, t4, j2.trans t5, m + 1, fun Q hq => j3 _ (t6 Q hq)⟩
    · rename_i x2 hne
      refine ⟨x1, e1, s1, hk, k1, k2, j1, j2, 1, fun Q hq => j3 _ ?_⟩
      unfold AThen
      split
      · exact (hne rfl).elim
      · exact hq
theorem gw_sound (hI : I.All P) (hm : P.follows .mixedOrders = true) (hCP : CPok P I CP) (hCH : CHok P I CH) {n : Nat} : ∀ (c : Code) (ic : ICode), compC I D n c = some ic → ∀ (K : Exit → Env → Hp → Prop) (e : Env) (s : Hp), e.Ok → e.n = n → s.Ok → gw OP CP CH pr ic K e s → GRuns P pr n c e s K
  | .region id ops draw, ic, hc, K, e, s, he, hn, hs, h => by
    simp only [compC] at hc
    split at hc
    · rename_i hd
      subst hd
      split at hc
      · injection hc with hc; subst hc; exact (h : False).elim
      · rename_i ord L hD
        split at hc
        · rename_i hok
          split at hc
          · rename_i fl hfl
            injection hc with hc
            subst hc
            have key : ∀ base : List Nat, (∀ b, base.contains b = true → b < s.n) → gDs OP CP CH pr base fl false e s (K .normal) → GRuns P pr n (.region id ops true) e s K := by
              intro base hb h
              obtain ⟨e', s', t1, t2, t3, t4, t5, t6⟩ := gDs_sound hI hCP hCH (s0 := s) hb ord fl hfl false e s _ he hn hs (fun _ => Hp.Le.refl _ _) h
              refine ⟨.normal, e', s', t1, t2, t3, t4, t5, fun Q hq => ?_⟩
              obtain ⟨l⟩ := ops
              exact awp_vcD hI (CBase base s) L ord hm hok.1 hok.2 (CBase.of (pr := pr) (Hp.Le.refl _ _)) (t6 (Q .normal) hq)
            generalize hld : (fl.any fun x => x.1 && x.2.2.i.isLd) = ld at h
            cases ld with
            | false => exact key [] (fun b hb => by simp at hb) h
            | true =>
              have h2 : (Bool.rec False (gDs OP CP CH pr (gBase (rootsOf fl) e) fl false e s (K .normal)) ((gBase (rootsOf fl) e).all fun b => Nat.blt b s.n) : Prop) := h
              cases hall : ((gBase (rootsOf fl) e).all fun b => Nat.blt b s.n) with
              | false => rw [hall] at h2; exact h2.elim
              | true => rw [hall] at h2; exact key _ (gBase_lt hall) h2
          · injection hc with hc; subst hc; exact (h : False).elim
        · injection hc with hc; subst hc; exact (h : False).elim
    · rename_i hd
      have hd' : draw = false := by simpa using hd
      subst hd'
      split at hc
      · rename_i ls hls
        injection hc with hc
        subst hc
        obtain ⟨e', s', t1, t2, t3, t4, t5, t6⟩ := gOps_sound hI hCH _ _ hls e s _ he hn hs h
        refine ⟨.normal, e', s', t1, t2, t3, t4, t5, fun Q hq => ?_⟩
        obtain ⟨l⟩ := ops
        exact awp_region (t6 (Q .normal) hq)
      · cases hc
  | .seq x y, ic, hc, K, e, s, he, hn, hs, h => by
    simp only [compC] at hc
    split at hc
    · rename_i a b ha hb
      injection hc with hc
      subst hc
      obtain ⟨x1, e1, s1, hk, k1, k2, j1, j2, j3⟩ := gw_sound hI hm hCP hCH x a ha _ e s he hn hs h
      split at hk
      · obtain ⟨x2, e2, s2, t1, t2, t3, t4, t5, t6⟩ := gw_sound hI hm hCP hCH y b hb _ e1 s1 k1 k2 j1 hk
        exact ⟨x2, e2, s2, t1, t2, t3, t4, j2.trans t5, fun Q hq => awp_seq (j3 _ (t6 Q hq))⟩
      · rename_i x2 hne
        refine ⟨x1, e1, s1, hk, k1, k2, j1, j2, fun Q hq => awp_seq (j3 _ ?_)⟩
        unfold AThen
        split
        · exact (hne rfl).elim
        · exact hq
    · cases hc
  | .block id c1, ic, hc, K, e, s, he, hn, hs, h => by
    simp only [compC] at hc
    split at hc
    · rename_i a ha
      injection hc with hc
      subst hc
      obtain ⟨x1, e1, s1, hk, k1, k2, j1, j2, j3⟩ := gw_sound hI hm hCP hCH c1 a ha _ e s he hn hs h
      split at hk
      · rename_i id'
        refine ⟨_, e1, s1, hk, k1, k2, j1, j2, fun Q hq => awp_block (j3 _ ?_)⟩
        show if id' = id then _ else _
        cases hid : Nat.beq id' id with
        | true => rw [hid] at hq; rw [if_pos (Nat.eq_of_beq_eq_true hid)]; exact hq
        | false => rw [hid] at hq; rw [if_neg (Nat.ne_of_beq_eq_false hid)]; exact hq
      · rename_i x2 hne
        refine ⟨x1, e1, s1, hk, k1, k2, j1, j2, fun Q hq => awp_block (j3 _ ?_)⟩
        unfold AIn
        split
        · exact (hne _ rfl).elim
        · exact hq
    · cases hc
  | .loop c1, ic, hc, K, e, s, he, hn, hs, h => by
    simp only [compC] at hc
    split at hc
    · rename_i a ha
      injection hc with hc
      subst hc
      obtain ⟨N, h1⟩ := h
      obtain ⟨x, e', s', t1, t2, t3, t4, t5, m, t6⟩ := gLp_sound (P := P) (K := K) (fun K e s he hn hs h => gw_sound hI hm hCP hCH c1 a ha K e s he hn hs h) N e s he hn hs h1
      exact ⟨x, e', s', t1, t2, t3, t4, t5, fun Q hq => awp_loop _ (t6 Q hq)⟩
    · cases hc
  | .cond c0 x y, ic, hc, K, e, s, he, hn, hs, h => by
    simp only [compC] at hc
    split at hc
    · rename_i a b ha hb
      injection hc with hc
      subst hc
      have h' : (match (Src.of c0).ev e with | .lit (.bool bb) => bc bb (gw OP CP CH pr a K (gPin (.of c0) true e) s) (gw OP CP CH pr b K (gPin (.of c0) false e) s) | _ => False) := h
      split at h'
      · rename_i bb hbb
        have hbb' := hbb
        rw [← Src.ev_of he] at hbb'
        obtain ⟨p1, p2⟩ := of_bc h'
        cases bb
        · obtain ⟨q1, q2, q3⟩ := gPin_ok he hbb
          obtain ⟨x1, e1, s1, hk, k1, k2, j1, j2, j3⟩ := gw_sound hI hm hCP hCH y b hb _ _ s q1 (q2.trans hn) hs (p2 rfl)
          rw [q3] at j3
          exact ⟨x1, e1, s1, hk, k1, k2, j1, j2, fun Q hq => awp_cond hbb' (fun e => by cases e) (fun _ => j3 Q hq)⟩
        · obtain ⟨q1, q2, q3⟩ := gPin_ok he hbb
          obtain ⟨x1, e1, s1, hk, k1, k2, j1, j2, j3⟩ := gw_sound hI hm hCP hCH x a ha _ _ s q1 (q2.trans hn) hs (p1 rfl)
          rw [q3] at j3
          exact ⟨x1, e1, s1, hk, k1, k2, j1, j2, fun Q hq => awp_cond hbb' (fun _ => j3 Q hq) (fun e => by cases e)⟩
      · exact h'.elim
    · cases hc
  | .ret, ic, hc, K, e, s, he, hn, hs, h => by
    simp only [compC] at hc
    injection hc with hc
    subst hc
    exact ⟨_, e, s, h, he, hn, hs, Hp.Le.refl _ _, fun Q hq => awp_ret hq⟩
  | .skip, ic, hc, K, e, s, he, hn, hs, h => by
    simp only [compC] at hc
    injection hc with hc
    subst hc
    exact ⟨_, e, s, h, he, hn, hs, Hp.Le.refl _ _, fun Q hq => awp_skip hq⟩
  | .exit id, ic, hc, K, e, s, he, hn, hs, h => by
    simp only [compC] at hc
    injection hc with hc
    subst hc
    exact ⟨_, e, s, h, he, hn, hs, Hp.Le.refl _ _, fun Q hq => awp_exit hq⟩
  | .rangeFunc .., ic, hc, K, e, s, he, hn, hs, h => by
    simp only [compC] at hc
    injection hc with hc; subst hc; exact (h : False).elim
  | .scope _, ic, hc, K, e, s, he, hn, hs, h => by
    simp only [compC] at hc
    injection hc with hc; subst hc; exact (h : False).elim
  | .label _, ic, hc, K, e, s, he, hn, hs, h => by
    simp only [compC] at hc
    injection hc with hc; subst hc; exact (h : False).elim
  | .goto _, ic, hc, K, e, s, he, hn, hs, h => by
    simp only [compC] at hc
    injection hc with hc; subst hc; exact (h : False).elim
end
end
end Go.Ae
