/- A part of the proof: a machine on trees that is sound for the model, its tables, and contracts of functions. Conditions: none. -/
import Derived.Test.YtpookgemmjdgfaaGreatZ2FT
namespace Go.Ae
open Go.Proofs
set_option maxRecDepth 100000 in
theorem awake41_run : (fCallF FT (fun _ _ => none) (frun FT (fun _ _ => none) 1000 400) [] 16 [] H0).map (·.1) = some (.lit (.bool true)) := by kernel_rfl
end Go.Ae
