/- block.Order: the order of code lengths of code lengths. -/
import Derived.Test.YtciejmlhdmjajaaGreatKEe
namespace Go.Proofs.YtciejmlhdmjajaaGreat
open Go.RowKit
set_option linter.unusedVariables false
set_option linter.unusedSimpArgs false

def orderL : List Nat := [16, 17, 18, 0, 8, 7, 9, 6, 10, 5, 11, 4, 12, 3, 13, 2, 14, 1, 15]
def orderC : Array Value := #[.int .u8 16, .int .u8 17, .int .u8 18, .int .u8 0, .int .u8 8, .int .u8 7, .int .u8 9, .int .u8 6, .int .u8 10, .int .u8 5, .int .u8 11, .int .u8 4, .int .u8 12, .int .u8 3, .int .u8 13, .int .u8 2, .int .u8 14, .int .u8 1, .int .u8 15]
set_option maxRecDepth 100000 in
set_option maxHeartbeats 1600000 in
theorem order_ok (w : World) : Calls Tryz.prog 16 #[] w fun e w' => e = .returned (.slice (some ⟨w.heap.size, 0, none⟩) 19 19) ∧ w'.heap[w.heap.size]? = some (.cells orderC 5 (0, 0)) ∧ Fr [] w w' := by
  go_enter Tryz.func16, Tryz.ntmps16
  go_wp2_with fail
  go_ret
  exact ⟨rfl, alloc_last _ _, Fr.alloc _ _ _⟩
end Go.Proofs.YtciejmlhdmjajaaGreat

