/- The examples of the statements hold: reckoned. -/
import Derived.Test.YtlbckmllpciglaaDoorSyC
set_option linter.unusedVariables false
set_option linter.unusedSimpArgs false
set_option linter.all false
namespace Go.Proofs.YtlbckmllpciglaaDoor
open Go Sy
set_option maxRecDepth 100000
theorem small_reckoned : funs C.G (Sy.look pri) (Sy.look tab) 40 6 [] = some [.bool true] := by kernel_rfl
theorem s_small : R 6 [] = some [.bool true] := (Run_iff _ _ _ _ _ _).2 ⟨40, small_reckoned⟩
end Go.Proofs.YtlbckmllpciglaaDoor
