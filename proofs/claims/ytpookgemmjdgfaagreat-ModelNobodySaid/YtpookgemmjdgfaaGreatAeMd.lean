/- A part of the proof: a machine on trees that is sound for the model, its tables, and contracts of functions. Conditions: none. -/
import Derived.Test.YtpookgemmjdgfaaGreatAeMc
namespace Go.Ae
open Go.RowKit
noncomputable section
def gRes (e : Env) (s : Hp) (r : IRes) (K : V → Prop) : Prop :=
  match r with
  | .tmp x => K (x.ev e)
  | .cell x sc n => (match x.ev e with | .ptr b off => (match s.at b with | some (.cells cs) => gRead none sc n cs off K | _ => False) | _ => False)
def gRess (e : Env) (s : Hp) (rs : List IRes) : (List V → Prop) → Prop := List.rec (fun K => K []) (fun r _ ih K => gRes e s r fun v => ih fun vs => K (v :: vs)) rs
def gEnd (rs : List IRes) (K : V → Hp → Prop) (x : Exit) (e : Env) (s : Hp) : Prop :=
  match x with
  | .normal => gRess e s rs fun vs => K (oneV vs) s
  | .ret => gRess e s rs fun vs => K (oneV vs) s
  | _ => False
/-- Calls: the table's functions are walked, the others by their contracts. -/
def gCH (F : Tr FnI) (S : FuncId → Bool) (OP : FuncId → List (Nat × Sh)) (CP : FuncId → List V → (V → Prop) → Prop) (CX : CHt) (k : Nat) : CHt :=
  Nat.rec CX (fun _ ih pr f args s K =>
    match (Bool.rec none (F.get f) (S f) : Option FnI) with
    | none => CX pr f args s K
    | some fi => Bool.rec False (gw (OP f) CP ih pr fi.c (gEnd fi.rs K) (Env.args fi.n args) s) (Nat.ble args.length fi.n)) k
/-- Pure contracts, as calls. -/
def cpH (CP : FuncId → List V → (V → Prop) → Prop) : CHt := fun _ f args s K => CP f args fun v => K v s
section
variable {P : Program} {I : TI} {D : FuncId → Nat → Option (List (Nat × Bool) × List Nat)} {F : Tr FnI} {S : FuncId → Bool} {OP : FuncId → List (Nat × Sh)} {CP : FuncId → List V → (V → Prop) → Prop} {CX : CHt} {pr : List Nat}
theorem gRes_f {e : Env} {s : Hp} {r : IRes} {K : V → Prop} (h : gRes e s r K) : ∃ v, fRes e s r = some v ∧ K v := by
  unfold gRes at h
  split at h
  · exact ⟨_, rfl, h⟩
  · split at h
    · rename_i b off hx
      split at h
      · rename_i cs hcs
        obtain ⟨v, h1, h2⟩ := fRead_g h
        exact ⟨v, by simp only [fRes, hx, hcs]; exact h1, h2⟩
      · exact h.elim
    · exact h.elim
theorem gRess_f {e : Env} {s : Hp} : ∀ {rs : List IRes} {K : List V → Prop}, gRess e s rs K → ∃ vs, fRess e s rs = some vs ∧ K vs
  | [], K, h => ⟨[], rfl, h⟩
  | r :: rs, K, h => by
    have h0 : gRes e s r fun v => gRess e s rs fun vs => K (v :: vs) := h
    obtain ⟨v, h1, h2⟩ := gRes_f h0
    obtain ⟨vs, h3, h4⟩ := gRess_f h2
    exact ⟨v :: vs, by rw [fRess_cons, h1, h3], h4⟩
theorem gEnd_f {rs : List IRes} {K : V → Hp → Prop} {x : Exit} {e : Env} {s : Hp} (h : gEnd rs K x e s) : (x = .normal ∨ x = .ret) ∧ ∃ vs, fRess e s rs = some vs ∧ K (oneV vs) s := by
  unfold gEnd at h
  split at h
  · exact ⟨.inl rfl, gRess_f h⟩
  · exact ⟨.inr rfl, gRess_f h⟩
  · exact h.elim
theorem cpH_ok (hCP : CPok P I CP) : CHok P I (cpH CP) := fun _ f args s _ hs h => by
  obtain ⟨h1, v, h2, h3⟩ := hCP f args _ h
  exact ⟨h1, v, s, h2, hs, Hp.Le.refl _ _, fun Q hq => h3 _ _ hq⟩
theorem gCH_ok (hI : I.All P) (hm : P.follows .mixedOrders = true) (hF : FOk P I D F) (hCP : CPok P I CP) (hCX : CHok P I CX) : ∀ k, CHok P I (gCH F S OP CP CX k)
  | 0 => hCX
  | k + 1 => fun pr f args s K hs h => by
    have h' : (match (Bool.rec none (F.get f) (S f) : Option FnI) with | none => CX pr f args s K | some fi => Bool.rec False (gw (OP f) CP (gCH F S OP CP CX k) pr fi.c (gEnd fi.rs K) (Env.args fi.n args) s) (Nat.ble args.length fi.n) : Prop) := h
    split at h'
    · exact hCX pr f args s K hs h'
    · rename_i fi hfi0
      have hfi : F.get f = some fi := by
        cases hS : S f with
        | false => rw [hS] at hfi0; cases hfi0
        | true => rw [hS] at hfi0; exact hfi0
      cases hlen : Nat.ble args.length fi.n with
      | false => rw [hlen] at h'; exact h'.elim
      | true =>
        rw [hlen] at h'
        have hlen := Nat.le_of_ble_eq_true hlen
        obtain ⟨hc, hfn⟩ := hF f fi hfi
        unfold compF at hc
        split at hc
        · cases hc
        · rename_i fn hfn'
          split at hc
          · cases hc
          · rename_i c hbody
            split at hc
            · rename_i ic rs hic hrs
              injection hc with hc
              subst hc
              obtain ⟨a1, a2, a3⟩ := args_ok hlen
              obtain ⟨x, e1, s1, hk, k4, k5, k1, k2, k3⟩ := gw_sound hI hm hCP (gCH_ok hI hm hF hCP hCX k) c ic hic _ _ s a1 a2 hs h'
              rw [a3] at k3
              obtain ⟨hx, vs, hvs, hkk⟩ := gEnd_f hk
              refine ⟨hfn, oneV vs, s1, hkk, k1, k2, fun Q hq => acalls_of hfn' hbody (rs := fn.results.toList) (by simp) rfl (k3 _ ?_)⟩
              have hvs' := eRess_sound hI (fRess_eq k4 hrs hvs)
              rcases hx with rfl | rfl
              · exact ⟨vs, hvs', hq⟩
              · exact ⟨vs, hvs', hq⟩
            · cases hc
/-- A function's contract, from its walk in an empty world. -/
theorem gcomes (hI : I.All P) (hm : P.follows .mixedOrders = true) (hF : FOk P I D F) (hCP : CPok P I CP) {k : Nat} {f : FuncId} {args : List V} {K : V → Prop} (ha : ∀ x ∈ args, V.Pure x) (h : gCH F S OP CP (cpH CP) k [] f args H0 fun v _ => v.Pure ∧ K v) : I.fn.contains f = true ∧ ∃ v, K v ∧ Comes P f args v := by
  obtain ⟨h1, v, s', ⟨hv, hk⟩, _, _, h3⟩ := gCH_ok hI hm hF hCP (cpH_ok hCP) k [] f args H0 _ rfl h
  refine ⟨h1, v, hk, comes_of ha hv ?_⟩
  have := h3 (fun v' _ => v' = v) rfl
  rwa [H0_tb] at this
end
end
end Go.Ae
