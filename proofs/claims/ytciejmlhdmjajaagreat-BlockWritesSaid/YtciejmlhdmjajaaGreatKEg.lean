/- platenref13.Order: the order of code lengths of code lengths. -/
import Derived.Test.YtciejmlhdmjajaaGreatKEf
namespace Go.Proofs.YtciejmlhdmjajaaGreat
open Go.RowKit
set_option linter.unusedVariables false
set_option linter.unusedSimpArgs false

set_option maxRecDepth 100000 in
set_option maxHeartbeats 1600000 in
theorem refOrder_ok (w : World) : Calls Tryz.prog 54 #[] w fun e w' => e = .returned (.slice (some ⟨w.heap.size, 0, none⟩) 19 19) ∧ w'.heap[w.heap.size]? = some (.cells orderC 5 (0, 0)) ∧ Fr [] w w' := by
  go_enter Tryz.func54, Tryz.ntmps54
  go_wp2_with fail
  go_ret
  exact ⟨rfl, alloc_last _ _, Fr.alloc _ _ _⟩
end Go.Proofs.YtciejmlhdmjajaaGreat

