/- A part of the proof: a machine on trees that is sound for the model, its tables, and contracts of functions. Conditions: none. -/
import Derived.Test.YtpookgemmjdgfaaGreatZ2FT
namespace Go.Ae
open Go.Proofs
noncomputable section
def OPM (f : FuncId) : List (Nat × Sh) := match f with
  | 14 => [(14, .sl), (22, .sl), (31, .sl)]
  | 46 => [(17, .sl), (25, .sl), (34, .sl)]
  | _ => []
def CP0 : FuncId → List V → (V → Prop) → Prop := fun _ _ _ => False
theorem w14 (cells : List V) (n : Nat) (tok : Tok) (h : ∀ j, j < 3 → SlAt cells n 3 j) (hn : n ≤ 9223372036854775807) : gCH FT (fun f => Nat.beq f 14 || Nat.beq f 46) OPM CP0 (cpH CP0) 1 [] 14 [.sl cells n tok] H0 fun v _ => v.Pure ∧ ∃ b, v = .lit (.bool b) := by
  show ∃ N, gLp _ _ N _ _
  refine ⟨0, [0, 2, 3], fun m vs s => ∃ i : Nat, i ≤ n ∧ m = n - i ∧ vs = [.sl cells n tok, .lit (.bool false), .lit (.int .i64 i)] ∧ s = H0, ⟨n, 0, by omega, rfl, rfl, rfl⟩, ?_⟩
  rintro m vs jf s ⟨i, hi, rfl, rfl, rfl⟩
  with_reducible refine @Eq.mpr _ (bc (Decidable.decide ((↑i : Int) < (↑n : Int))) ((((0 : Int) ≤ ((↑i : Int))) ∧ ((↑i : Int)) < ((↑n : Int))) ∧ ∃ x0 : Go.Ae.V, (@Eq (Option Go.Ae.V) (cells[Int.toNat (↑i : Int) * 3 + 0]?) (.some x0)) ∧ ∃ x1 : List Go.Ae.V, ∃ x2 : Nat, ∃ x3 : Go.Ae.Tok, (@Eq (Go.Ae.V) x0 (.sl x1 (x2) x3)) ∧ bc (Decidable.decide ((↑x2 : Int) > 20)) ((V.Pure (.lit (.bool .false))) ∧ ∃ x4 : Bool, @Eq (Go.Ae.V) (.lit (.bool .false)) (.lit (.bool x4))) ((((0 : Int) ≤ ((↑i : Int))) ∧ ((↑i : Int)) < ((↑n : Int))) ∧ ∃ x4 : Go.Ae.V, (@Eq (Option Go.Ae.V) (cells[Int.toNat (↑i : Int) * 3 + 1]?) (.some x4)) ∧ ∃ x5 : List Go.Ae.V, ∃ x6 : Nat, ∃ x7 : Go.Ae.Tok, (@Eq (Go.Ae.V) x4 (.sl x5 (x6) x7)) ∧ bc (Decidable.decide ((↑x6 : Int) > 20)) ((V.Pure (.lit (.bool .false))) ∧ ∃ x8 : Bool, @Eq (Go.Ae.V) (.lit (.bool .false)) (.lit (.bool x8))) ((((0 : Int) ≤ ((↑i : Int))) ∧ ((↑i : Int)) < ((↑n : Int))) ∧ ∃ x8 : Go.Ae.V, (@Eq (Option Go.Ae.V) (cells[Int.toNat (↑i : Int) * 3 + 2]?) (.some x8)) ∧ ∃ x9 : List Go.Ae.V, ∃ x10 : Nat, ∃ x11 : Go.Ae.Tok, (@Eq (Go.Ae.V) x8 (.sl x9 (x10) x11)) ∧ bc (Decidable.decide ((↑x10 : Int) > 20)) ((V.Pure (.lit (.bool .false))) ∧ ∃ x12 : Bool, @Eq (Go.Ae.V) (.lit (.bool .false)) (.lit (.bool x12))) (∃ x12 : Nat, ((x12) < (n - i)) ∧ ∃ x13 : Nat, ((x13) ≤ (n)) ∧ (@Eq (Nat) (x12) (n - x13)) ∧ (@Eq (List Go.Ae.V) ((.sl cells (n) tok) :: ((.lit (.bool .false)) :: ((.lit (.int .i64 (Go.IntKind.wrap Go.IntKind.i64 ((↑i : Int) + 1)))) :: []))) ((.sl cells (n) tok) :: ((.lit (.bool .false)) :: ((.lit (.int .i64 ((↑x13 : Int)))) :: [])))) ∧ @Eq (Go.Ae.Hp) (.mk 0 []) (.mk 0 []))))) ((V.Pure (.lit (.bool .true))) ∧ ∃ x0 : Bool, @Eq (Go.Ae.V) (.lit (.bool .true)) (.lit (.bool x0)))) (by kernel_rfl) ?_
  refine bc_of (fun h1 => ?_) (fun _ => fin_bool _)
  have h1 : i < n := by simpa using h1
  have hb : (0 : Int) ≤ (i : Int) ∧ (i : Int) < (n : Int) := ⟨by omega, by omega⟩
  have rd : ∀ j, j < 3 → IsSl cells (Int.toNat (i : Int) * 3 + j) := fun j hj => h j hj i h1
  refine ⟨hb, ?_⟩
  obtain ⟨c, m, t, e⟩ := rd 0 (by omega)
  refine ⟨_, e, _, _, _, rfl, bc_of (fun _ => fin_bool _) fun _ => ⟨hb, ?_⟩⟩
  obtain ⟨c, m, t, e⟩ := rd 1 (by omega)
  refine ⟨_, e, _, _, _, rfl, bc_of (fun _ => fin_bool _) fun _ => ⟨hb, ?_⟩⟩
  obtain ⟨c, m, t, e⟩ := rd 2 (by omega)
  refine ⟨_, e, _, _, _, rfl, bc_of (fun _ => fin_bool _) fun _ => ?_⟩
  exact ⟨n - (i + 1), by omega, i + 1, by omega, rfl, by rw [wrap_nat (by omega)], rfl⟩
theorem w46 (cells : List V) (n : Nat) (tok : Tok) (h : SlAt cells n 2 1) (hn : n ≤ 9223372036854775807) : gCH FT (fun f => Nat.beq f 14 || Nat.beq f 46) OPM CP0 (cpH CP0) 1 [] 46 [.sl cells n tok] H0 fun v _ => v.Pure ∧ ∃ b, v = .lit (.bool b) := by
  show bc _ _ _
  refine bc_of (fun h1 => fin_bool _) (fun _ => ?_)
  show ∃ N, gLp _ _ N _ _
  refine ⟨0, [0, 2, 3], fun m vs s => ∃ i : Nat, i ≤ n ∧ m = n - i ∧ vs = [.sl cells n tok, .lit (.bool false), .lit (.int .i64 i)] ∧ s = H0, ⟨n, 0, by omega, rfl, rfl, rfl⟩, ?_⟩
  rintro m vs jf s ⟨i, hi, rfl, rfl, rfl⟩
  with_reducible refine @Eq.mpr _ (bc (Decidable.decide ((↑i : Int) < (↑n : Int))) ((((0 : Int) ≤ ((↑i : Int))) ∧ ((↑i : Int)) < ((↑n : Int))) ∧ ∃ x0 : Go.Ae.V, (@Eq (Option Go.Ae.V) (cells[Int.toNat (↑i : Int) * 2 + 1]?) (.some x0)) ∧ ∃ x1 : List Go.Ae.V, ∃ x2 : Nat, ∃ x3 : Go.Ae.Tok, (@Eq (Go.Ae.V) x0 (.sl x1 (x2) x3)) ∧ bc (Decidable.decide ((↑x2 : Int) > 30)) ((((0 : Int) ≤ ((↑i : Int))) ∧ ((↑i : Int)) < ((↑n : Int))) ∧ ∃ x4 : Go.Ae.V, (@Eq (Option Go.Ae.V) (cells[Int.toNat (↑i : Int) * 2 + 1]?) (.some x4)) ∧ ∃ x5 : List Go.Ae.V, ∃ x6 : Nat, ∃ x7 : Go.Ae.Tok, (@Eq (Go.Ae.V) x4 (.sl x5 (x6) x7)) ∧ bc (Decidable.decide ((↑x6 : Int) ≤ 4096)) ((V.Pure (.lit (.bool .false))) ∧ ∃ x8 : Bool, @Eq (Go.Ae.V) (.lit (.bool .false)) (.lit (.bool x8))) ((((0 : Int) ≤ ((↑i : Int))) ∧ ((↑i : Int)) < ((↑n : Int))) ∧ ∃ x8 : Go.Ae.V, (@Eq (Option Go.Ae.V) (cells[Int.toNat (↑i : Int) * 2 + 1]?) (.some x8)) ∧ ∃ x9 : List Go.Ae.V, ∃ x10 : Nat, ∃ x11 : Go.Ae.Tok, (@Eq (Go.Ae.V) x8 (.sl x9 (x10) x11)) ∧ bc (Decidable.decide ((↑x10 : Int) > 5000)) ((V.Pure (.lit (.bool .false))) ∧ ∃ x12 : Bool, @Eq (Go.Ae.V) (.lit (.bool .false)) (.lit (.bool x12))) (∃ x12 : Nat, ((x12) < (n - i)) ∧ ∃ x13 : Nat, ((x13) ≤ (n)) ∧ (@Eq (Nat) (x12) (n - x13)) ∧ (@Eq (List Go.Ae.V) ((.sl cells (n) tok) :: ((.lit (.bool .false)) :: ((.lit (.int .i64 (Go.IntKind.wrap Go.IntKind.i64 ((↑i : Int) + 1)))) :: []))) ((.sl cells (n) tok) :: ((.lit (.bool .false)) :: ((.lit (.int .i64 ((↑x13 : Int)))) :: [])))) ∧ @Eq (Go.Ae.Hp) (.mk 0 []) (.mk 0 [])))) ((((0 : Int) ≤ ((↑i : Int))) ∧ ((↑i : Int)) < ((↑n : Int))) ∧ ∃ x4 : Go.Ae.V, (@Eq (Option Go.Ae.V) (cells[Int.toNat (↑i : Int) * 2 + 1]?) (.some x4)) ∧ ∃ x5 : List Go.Ae.V, ∃ x6 : Nat, ∃ x7 : Go.Ae.Tok, (@Eq (Go.Ae.V) x4 (.sl x5 (x6) x7)) ∧ bc (Decidable.decide ((↑x6 : Int) > 5000)) ((V.Pure (.lit (.bool .false))) ∧ ∃ x8 : Bool, @Eq (Go.Ae.V) (.lit (.bool .false)) (.lit (.bool x8))) (∃ x8 : Nat, ((x8) < (n - i)) ∧ ∃ x9 : Nat, ((x9) ≤ (n)) ∧ (@Eq (Nat) (x8) (n - x9)) ∧ (@Eq (List Go.Ae.V) ((.sl cells (n) tok) :: ((.lit (.bool .false)) :: ((.lit (.int .i64 (Go.IntKind.wrap Go.IntKind.i64 ((↑i : Int) + 1)))) :: []))) ((.sl cells (n) tok) :: ((.lit (.bool .false)) :: ((.lit (.int .i64 ((↑x9 : Int)))) :: [])))) ∧ @Eq (Go.Ae.Hp) (.mk 0 []) (.mk 0 [])))) ((V.Pure (.lit (.bool .true))) ∧ ∃ x0 : Bool, @Eq (Go.Ae.V) (.lit (.bool .true)) (.lit (.bool x0)))) (by kernel_rfl) ?_
  refine bc_of (fun h1 => ?_) (fun _ => fin_bool _)
  have h1 : i < n := by simpa using h1
  have hb : (0 : Int) ≤ (i : Int) ∧ (i : Int) < (n : Int) := ⟨by omega, by omega⟩
  obtain ⟨c, m, t, e⟩ : IsSl cells (Int.toNat (i : Int) * 2 + 1) := h i h1
  have nx : ∃ x : Nat, x < n - i ∧ ∃ j : Nat, j ≤ n ∧ x = n - j ∧ @Eq (List V) [.sl cells n tok, .lit (.bool false), .lit (.int .i64 (Go.IntKind.wrap Go.IntKind.i64 ((i : Int) + 1)))] [.sl cells n tok, .lit (.bool false), .lit (.int .i64 j)] ∧ @Eq Hp (.mk 0 []) (.mk 0 []) :=
    ⟨n - (i + 1), by omega, i + 1, by omega, rfl, by rw [wrap_nat (by omega)], rfl⟩
  refine ⟨hb, _, e, _, _, _, rfl, ?_⟩
  refine bc_of (fun _ => ⟨hb, _, e, _, _, _, rfl, ?_⟩) (fun _ => ⟨hb, _, e, _, _, _, rfl, ?_⟩)
  · refine bc_of (fun _ => fin_bool _) (fun _ => ⟨hb, _, e, _, _, _, rfl, ?_⟩)
    exact bc_of (fun _ => fin_bool _) (fun _ => nx)
  · exact bc_of (fun _ => fin_bool _) (fun _ => nx)
end
end Go.Ae
