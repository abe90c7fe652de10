/- A part of the proof: a machine on trees that is sound for the model, its tables, and contracts of functions. Conditions: none. -/
import Derived.Test.YtpookgemmjdgfaaGreatAeMd
namespace Go.Ae
open Go.RowKit
theorem wrap_i64 {n : Int} (h1 : -9223372036854775808 ≤ n) (h2 : n < 9223372036854775808) : IntKind.wrap .i64 n = n := by
  unfold IntKind.wrap
  simp only [IntKind.bits, IntKind.signed, Bool.true_and]
  by_cases h : (2 ^ (64 - 1) : Int) ≤ n % 2 ^ 64
  · rw [if_pos (by simpa using h)]; omega
  · rw [if_neg (by simpa using h)]; omega
theorem wrap_nat {n : Nat} (h : n < 9223372036854775807) : IntKind.wrap .i64 ((n : Int) + 1) = ((n + 1 : Nat) : Int) := by
  rw [wrap_i64 (by omega) (by omega)]; omega
/-- What is read at a place is a slice. -/
def IsSl (cells : List V) (k : Nat) : Prop := ∃ c m t, cells[k]? = some (.sl c m t)
/-- Every so manieth cell is a slice. -/
def SlAt (cells : List V) (n sz j : Nat) : Prop := ∀ i, i < n → IsSl cells (i * sz + j)
theorem fin_bool (b : Bool) : V.Pure (.lit (.bool b)) ∧ ∃ x : Bool, @Eq V (.lit (.bool b)) (.lit (.bool x)) := ⟨.lit _, b, rfl⟩
end Go.Ae
