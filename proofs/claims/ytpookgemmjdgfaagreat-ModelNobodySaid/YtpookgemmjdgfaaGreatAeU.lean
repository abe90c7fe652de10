/- A part of the proof: a machine on trees that is sound for the model, its tables, and contracts of functions. Conditions: none. -/
import Derived.Test.YtpookgemmjdgfaaGreatAeP
namespace Go.Ae
open Go.RowKit
/-! ### More operations -/
section
variable {P : Program} {o : Oper} {ts : List V} {T : Tb} {K : V → Tb → Prop} {x y : Operand}
theorem aop_buildSlice0 {t e : TypeId} {sz bytes : Nat} (ho : o.op = .buildSlice t 0 #[]) (ht : SlTy P t e sz bytes) (hk : K (.sl [] 0 .exact) T) : AOp P o ts T K :=
  aop_value fun B w0 G w a hr hl => by
    obtain ⟨q1, q2, q3⟩ := new_slice hr [] [] LRel.nil [] e 0 0 (Nat.le_refl _) (Nat.zero_le _) .exact (.inr ⟨rfl, rfl⟩)
    simp only [List.append_nil] at q1 q2 q3
    refine ⟨.slice (some ⟨w.heap.size, 0, none⟩) 0 0, _, _, _, T, ?_, q1, q3, q2, hk⟩
    simp [execOp, ho, Instr.buildSlice, run_underlying ht.und, ht.sz, newRow, Instr.fill]
    have e0 : (Array.map (fun _ => (default : Value)) (Array.range 0)) = #[] := by simp [Array.range]
    rw [e0]
end
end Go.Ae
