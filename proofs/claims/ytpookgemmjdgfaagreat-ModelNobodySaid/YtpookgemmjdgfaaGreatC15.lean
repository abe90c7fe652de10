/- A part of the proof: a machine on trees that is sound for the model, its tables, and contracts of functions. Conditions: none. -/
import Derived.Test.YtpookgemmjdgfaaGreatC14
import Derived.Test.YtpookgemmjdgfaaGreatZ2A
namespace Go.Ae
open Go.Proofs
noncomputable section
def Pre46 (cells : List V) (n : Nat) : Prop := SlAt cells n 2 1 ∧ n ≤ 9223372036854775807 ∧ ∀ x ∈ cells, V.Pure x
def Pre14 (cells : List V) (n : Nat) : Prop := (∀ j, j < 3 → SlAt cells n 3 j) ∧ n ≤ 9223372036854775807 ∧ ∀ x ∈ cells, V.Pure x
def Pre15 (v : V) : Prop := ∃ (g : Int) (fc cc oc : List V) (fn cn on : Nat) (li : Int), v = .agg [.lit (.int .u32 g), .sl fc fn .no, .sl cc cn .no, .sl oc on .no, .lit (.int .i64 li)] ∧ Pre46 fc fn ∧ (∀ x ∈ cc, V.Pure x) ∧ ∀ x ∈ oc, V.Pure x
def isB (k : V → Prop) : Prop := ∀ b, k (.lit (.bool b))
/-- Contracts. -/
def CP1 : FuncId → List V → (V → Prop) → Prop := fun f args k =>
  match args with
  | [.sl cells n .no] => Bool.rec False (Pre46 cells n ∧ isB k) (Nat.beq f 46)
  | _ => False
def CP2 : FuncId → List V → (V → Prop) → Prop := fun f args k =>
  match args with
  | [.sl cells n .no] => Bool.rec False (Pre14 cells n ∧ isB k) (Nat.beq f 14)
  | [] => Bool.rec False (k (.lit (.bool true))) (Nat.beq f 16)
  | [.agg l] => Bool.rec False (Pre15 (.agg l) ∧ isB k) (Nat.beq f 15)
  | _ => False
theorem mixed : Tryz.prog.follows .mixedOrders = true := by kernel_rfl
theorem awake41_comes : Comes Tryz.prog 16 [] (.lit (.bool true)) := by
  obtain ⟨⟨v, s⟩, h1, h2⟩ := Option.map_eq_some_iff.1 awake41_run
  obtain rfl : v = _ := h2
  exact comes_frun I_all mixed (fun _ _ _ h => by cases h) (fun _ _ _ h => by cases h) FT_ok (by simp) (.lit _) h1
theorem CP0_ok : CPok Tryz.prog I CP0 := fun _ _ _ h => h.elim
theorem CP1_ok : CPok Tryz.prog I CP1 := by
  intro f args k h
  unfold CP1 at h
  split at h
  · rename_i cells n
    cases hf : Nat.beq f 46 with
    | false => rw [hf] at h; exact h.elim
    | true =>
      rw [hf] at h
      obtain rfl := Nat.eq_of_beq_eq_true hf
      obtain ⟨⟨h1, h2, h3⟩, hk⟩ := h
      obtain ⟨j1, v, ⟨b, rfl⟩, j3⟩ := gcomes I_all mixed FT_ok CP0_ok (f := 46) (args := [.sl cells n .no]) (by simp; exact .sl _ _ _ (.inl rfl) h3) (w46 cells n .no h1 h2)
      exact ⟨j1, _, hk b, j3⟩
  · exact h.elim
def OP15 (f : FuncId) : List (Nat × Sh) := match f with
  | 15 => [(5, .bool)]
  | _ => []
def OP5 (f : FuncId) : List (Nat × Sh) := match f with
  | 5 => [(19, .bool), (24, .bool)]
  | _ => []
theorem w15 (g : Int) (fc cc oc : List V) (fn cn on : Nat) (ct ot : Tok) (li : Int) (h : Pre46 fc fn) :
    gCH FT (Nat.beq 15) OP15 CP1 (cpH CP1) 1 [] 15 [.agg [.lit (.int .u32 g), .sl fc fn .no, .sl cc cn ct, .sl oc on ot, .lit (.int .i64 li)]] H0 fun v _ => v.Pure ∧ ∃ b, v = .lit (.bool b) := by
  with_reducible refine @Eq.mpr _ ((Go.Ae.Pre46 fc fn) ∧ ∀ x0 : Bool, ∃ x1 : Bool, (@Eq (Go.Ae.V) (.lit (.bool x0)) (.lit (.bool x1))) ∧ bc x1 (bc (Decidable.decide ((↑cn : Int) ≤ 30)) ((V.Pure (.lit (.bool (Decidable.decide ((↑on : Int) ≤ 30))))) ∧ ∃ x2 : Bool, @Eq (Go.Ae.V) (.lit (.bool (Decidable.decide ((↑on : Int) ≤ 30)))) (.lit (.bool x2))) ((V.Pure (.lit (.bool .false))) ∧ ∃ x2 : Bool, @Eq (Go.Ae.V) (.lit (.bool .false)) (.lit (.bool x2)))) ((V.Pure (.lit (.bool .false))) ∧ ∃ x2 : Bool, @Eq (Go.Ae.V) (.lit (.bool .false)) (.lit (.bool x2)))) (by kernel_rfl) ?_
  exact ⟨h, fun b => ⟨b, rfl, bc_of (fun _ => bc_of (fun _ => fin_bool _) (fun _ => fin_bool _)) (fun _ => fin_bool _)⟩⟩
def S5 (f : FuncId) : Bool := !([14, 15, 16].contains f)
theorem w5 (lc : List V) (ln : Nat) (g : Int) (fc cc oc : List V) (fn cn on : Nat) (li : Int) (h : Pre14 lc ln) (hq : Pre15 (.agg [.lit (.int .u32 g), .sl fc fn .no, .sl cc cn .no, .sl oc on .no, .lit (.int .i64 li)])) :
    gCH FT S5 OP5 CP2 (cpH CP2) 5 [] 5 [.sl lc ln .no, .agg [.lit (.int .u32 g), .sl fc fn .no, .sl cc cn .no, .sl oc on .no, .lit (.int .i64 li)]] H0 fun v _ => v.Pure ∧ v = .lit (.bool true) := by
  show bc _ _ _
  refine bc_of (fun _ => ⟨.lit _, rfl⟩) (fun _ => ?_)
  show Pre14 lc ln ∧ isB _
  refine ⟨h, fun b => ⟨b, rfl, ?_⟩⟩
  show bc (!b) _ _
  refine bc_of (fun _ => ⟨.lit _, rfl⟩) (fun _ => ?_)
  show Pre15 _ ∧ isB _
  refine ⟨hq, fun b => ⟨b, rfl, ?_⟩⟩
  show bc (!b) _ _
  refine bc_of (fun _ => ⟨.lit _, rfl⟩) (fun _ => ?_)
  show ∃ N, gLp _ _ N _ _
  refine ⟨3, ?_⟩
  with_reducible refine @Eq.mpr _ ((3 ≤ 3) ∧ (3 ≤ 3) ∧ (3 ≤ 3) ∧ (3 ≤ 3) ∧ (V.Pure (.lit (.bool .true))) ∧ @Eq (Go.Ae.V) (.lit (.bool .true)) (.lit (.bool .true))) (by kernel_rfl) ?_
  exact ⟨by omega, by omega, by omega, by omega, .lit _, rfl⟩
theorem CP2_ok : CPok Tryz.prog I CP2 := by
  intro f args k h
  unfold CP2 at h
  split at h
  · rename_i cells n
    cases hf : Nat.beq f 14 with
    | false => rw [hf] at h; exact h.elim
    | true =>
      rw [hf] at h
      obtain rfl := Nat.eq_of_beq_eq_true hf
      obtain ⟨⟨h1, h2, h3⟩, hk⟩ := h
      obtain ⟨j1, v, ⟨b, rfl⟩, j3⟩ := gcomes I_all mixed FT_ok CP0_ok (f := 14) (args := [.sl cells n .no]) (by simp; exact .sl _ _ _ (.inl rfl) h3) (w14 cells n .no h1 h2)
      exact ⟨j1, _, hk b, j3⟩
  · cases hf : Nat.beq f 16 with
    | false => rw [hf] at h; exact h.elim
    | true =>
      rw [hf] at h
      obtain rfl := Nat.eq_of_beq_eq_true hf
      exact ⟨by kernel_rfl, _, h, awake41_comes⟩
  · rename_i l
    cases hf : Nat.beq f 15 with
    | false => rw [hf] at h; exact h.elim
    | true =>
      rw [hf] at h
      obtain rfl := Nat.eq_of_beq_eq_true hf
      obtain ⟨hp, hk⟩ := h
      have hpu : V.Pure (.agg l) := by
        obtain ⟨g, fc, cc, oc, fn, cn, on, li, e, ⟨h1, h2, h3⟩, h4, h5⟩ := hp
        rw [e]
        refine .agg _ fun x hx => ?_
        simp only [List.mem_cons, List.not_mem_nil, or_false] at hx
        rcases hx with rfl | rfl | rfl | rfl | rfl
        · exact .lit _
        · exact .sl _ _ _ (.inl rfl) h3
        · exact .sl _ _ _ (.inl rfl) h4
        · exact .sl _ _ _ (.inl rfl) h5
        · exact .lit _
      obtain ⟨g, fc, cc, oc, fn, cn, on, li, e, hp2, _, _⟩ := hp
      injection e with e
      subst e
      obtain ⟨j1, v, ⟨b, rfl⟩, j3⟩ := gcomes I_all mixed FT_ok CP1_ok (f := 15) (by simpa using hpu) (w15 g fc cc oc fn cn on .no .no li hp2)
      exact ⟨j1, _, hk b, j3⟩
  · exact h.elim
theorem c5 (lc : List V) (ln : Nat) (q : V) (h : Pre14 lc ln) (hq : Pre15 q) : Comes Tryz.prog 5 [.sl lc ln .no, q] (.lit (.bool true)) := by
  obtain ⟨g, fc, cc, oc, fn, cn, on, li, rfl, h1, h2, h3⟩ := hq
  obtain ⟨j1, v, rfl, j3⟩ := gcomes I_all mixed FT_ok CP2_ok (f := 5) (K := fun v => v = .lit (.bool true)) (args := [.sl lc ln .no, .agg [.lit (.int .u32 g), .sl fc fn .no, .sl cc cn .no, .sl oc on .no, .lit (.int .i64 li)]]) (by
    intro x hx
    simp only [List.mem_cons, List.not_mem_nil, or_false] at hx
    rcases hx with rfl | rfl
    · exact .sl _ _ _ (.inl rfl) h.2.2
    · refine .agg _ fun x hx => ?_
      simp only [List.mem_cons, List.not_mem_nil, or_false] at hx
      rcases hx with rfl | rfl | rfl | rfl | rfl
      · exact .lit _
      · exact .sl _ _ _ (.inl rfl) h1.2.2
      · exact .sl _ _ _ (.inl rfl) h2
      · exact .sl _ _ _ (.inl rfl) h3
      · exact .lit _) (w5 lc ln g fc cc oc fn cn on li h ⟨g, fc, cc, oc, fn, cn, on, li, rfl, h1, h2, h3⟩)
  exact j3
end
end Go.Ae
