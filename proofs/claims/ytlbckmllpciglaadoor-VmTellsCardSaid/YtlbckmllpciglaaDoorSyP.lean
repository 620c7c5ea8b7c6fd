/- The comparing of two strings, which the machine does. -/
import Derived.Test.YtlbckmllpciglaaDoorSyA
import Derived.Shelf.Small.Strs
set_option linter.unusedVariables false
set_option linter.unusedSimpArgs false
set_option linter.all false
namespace Go.Proofs.YtlbckmllpciglaaDoor
open Go Sy Go.RowKit
set_option maxRecDepth 100000 in
theorem cmp_walk (a b : ByteArray) (w : World) : Calls Tryd.prog 94 #[.string a, .string b] w fun e w' => e = .returned (.int .i64 (Lib.compareBytes a.data.toList b.data.toList)) ∧ w' = w := by
  go_enter Tryd.func94, Tryd.ntmps94
  go_wp2
  rw [run_callFunc_extern Tryd.func102 (by kernel_rfl) (by kernel_rfl) (by kernel_rfl) (e := Extern.BytealgCompare.compare) (by kernel_rfl), Lib.run_compareString]
  simp only [Result.andThen]
  rw [Oper.upon_value]
  go_wp2
  go_ret
  exact ⟨rfl, rfl⟩
theorem cmpF_sound : Sound C 94 cmpF := cmp_sound (by kernel_rfl) cmp_walk
end Go.Proofs.YtlbckmllpciglaaDoor
