/- A part of the proof: a machine on trees that is sound for the model, its tables, and contracts of functions. Conditions: none. -/
import Derived.Test.YtpookgemmjdgfaaGreatAeO
namespace Go.Ae
open Go.RowKit

/-- An order that serves for all: what is taken first (true), and what comes alone (false). -/
def ordOk (ops : Array Oper) (L : List Nat) : List (Nat × Bool) → Array Bool → Bool
  | [], listed => (Region.ready .any ops listed).isEmpty
  | (i, true) :: r, listed => takeOk ops L listed i && ordOk ops L r (listed.setIfInBounds i true)
  | (i, false) :: r, listed => (Region.ready .any ops listed == [i]) && (!L.contains i || r.all fun x => !x.2) && ordOk ops L r (listed.setIfInBounds i true)

section
variable (P : Program) (I : TI) (ops : Array Oper) (C : Tb → Prop) (L : List Nat) (Q : List V → Tb → Prop)
def vcStep (o : Oper) (ts : List V) (T : Tb) (K : V → Tb → Prop) : Prop :=
  have _ := I
  match o.guard with
  | none => AOp P o ts T K
  | some (j, want) =>
    match ((ops[j]?).bind (·.dst)).bind (ts[·]?) with
    | some (.lit (.bool b)) => bcase b (if want then AOp P o ts T K else K (.tup []) T) (if want then K (.tup []) T else AOp P o ts T K)
    | some (.tup []) => K (.tup []) T
    | _ => False
def vcD : List (Nat × Bool) → List V → Tb → Prop
  | [], ts, T => Q ts T
  | (i, true) :: r, ts, T =>
    match ops[i]? with
    | none => False
    | some o => ∃ v, (∀ T', C T' → vcStep P I ops o (onlyV ops o ts) T' fun v' T'' => v' = v ∧ T'' = T') ∧ vcD r (putV ts o.dst v) T
  | (i, false) :: r, ts, T =>
    match ops[i]? with
    | none => False
    | some o => vcStep P I ops o (onlyV ops o ts) T fun v T' => (L.contains i = false → C T') ∧ vcD r (putV ts o.dst v) T'
end
section
variable {P : Program} {I : TI} {ops : Array Oper} {C : Tb → Prop} {L : List Nat} {Q : List V → Tb → Prop}
theorem vcStep_sound (hI : I.All P) {o : Oper} {ts : List V} {T : Tb} {K : V → Tb → Prop} (h : vcStep P I ops o (onlyV ops o ts) T K) : AStep P ops o ts T K := by
  unfold vcStep at h
  unfold AStep
  split at h
  · rename_i hg; rw [hg]; exact h
  · rename_i j want hg
    rw [hg]
    simp only
    split at h
    · rename_i b hb
      refine .inl ⟨b, by unfold yieldV; rw [hb], fun e => ?_, fun e => ?_⟩
      · subst e
        cases b
        · have := h.2 rfl; simp at this; exact this
        · have := h.1 rfl; simp at this; exact this
      · cases b
        · have hw : want = true := by cases want <;> simp_all
          have := h.2 rfl
          subst hw
          simpa using this
        · have hw : want = false := by cases want <;> simp_all
          have := h.1 rfl
          subst hw
          simpa using this
    · rename_i hb; exact .inr ⟨by unfold undV; rw [hb], h⟩
    · exact h.elim
theorem vcD_sound (hI : I.All P) : ∀ (ord : List (Nat × Bool)) (listed : Array Bool) (ts : List V) (T : Tb), ordOk ops L ord listed = true → C T ∨ (∀ x ∈ ord, x.2 = false) → vcD P I ops C L Q ord ts T → ∀ fuel, ord.length ≤ fuel → AAny P ops C L Q fuel listed ts T
  | [], listed, ts, T, hk, _, h, fuel, _ => aany_done (by simpa [ordOk] using hk) h fuel
  | (i, true) :: r, listed, ts, T, hk, hC, h, fuel, hf => by
    obtain ⟨fuel, rfl⟩ : ∃ m, fuel = m + 1 := ⟨fuel - 1, by simp at hf; omega⟩
    simp only [ordOk, Bool.and_eq_true] at hk
    simp only [vcD] at h
    have hCT : C T := hC.resolve_right fun h0 => by have := h0 (i, true) List.mem_cons_self; cases this
    split at h
    · exact h.elim
    · rename_i o ho
      obtain ⟨v, h1, h2⟩ := h
      exact aany_take i v ho hk.1 rfl rfl hCT (fun T' hC' => vcStep_sound hI (h1 T' hC')) (vcD_sound hI r _ _ T hk.2 (.inl hCT) h2 fuel (by simp at hf; omega))
  | (i, false) :: r, listed, ts, T, hk, hC, h, fuel, hf => by
    obtain ⟨fuel, rfl⟩ : ∃ m, fuel = m + 1 := ⟨fuel - 1, by simp at hf; omega⟩
    simp only [ordOk, Bool.and_eq_true] at hk
    simp only [vcD] at h
    split at h
    · exact h.elim
    · rename_i o ho
      refine aany_only i ho (by simpa using hk.1.1) ((vcStep_sound hI h).mono fun v T' ⟨h3, h4⟩ => ⟨fun hi => h3 (by simpa using hi), ?_⟩)
      refine vcD_sound hI r _ _ T' hk.2 ?_ h4 fuel (by simp at hf; omega)
      by_cases hL : L.contains i = true
      · refine .inr fun x hx => ?_
        have h5 := hk.1.2
        rw [hL] at h5
        have h6 : (r.all fun x => !x.2) = true := h5
        have := List.all_eq_true.1 h6 x hx
        simpa using this
      · exact .inl (h3 (by simpa using hL))
/-- A region that draws its order. -/
theorem awp_vcD (hI : I.All P) {id : Nat} {l : List Oper} {Q : Exit → List V → Tb → Prop} {ts : List V} {T : Tb} (C : Tb → Prop) (L : List Nat) (ord : List (Nat × Bool)) (hm : P.follows .mixedOrders = true) (hk : ordOk l.toArray L ord (Array.replicate l.length false) = true)
    (hn : ord.length ≤ l.length) (hC : C T) (h : vcD P I l.toArray C L (Q .normal) ord ts T) : AWP P (.region id l.toArray true) Q ts T :=
  awp_draw C L hm (vcD_sound hI ord _ ts T hk (.inl hC) h _ hn)
end
end Go.Ae
