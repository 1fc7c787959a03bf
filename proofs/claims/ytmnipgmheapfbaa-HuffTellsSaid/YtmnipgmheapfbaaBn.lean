/- What calls of a writer of bits that is none answer. -/
import Derived.Test.YtmnipgmheapfbaaBv
namespace Go.Proofs.Ytmnipgmheapfbaa
open Go.RowKit
set_option linter.unusedVariables false
set_option linter.unusedSimpArgs false

/-! ### none at all -/
set_option maxRecDepth 100000 in
theorem wbits_nil (n size : Int) (w : World) : Calls Try.prog 24 #[.pointer none, .int .u64 n, .int .i64 size] w fun e w' => e = .returned (.int .i64 1) ∧ w' = w := by
  go_enter Try.func24, Try.ntmps24
  go_wp2_with fail
  go_step3
  go_wp2_with fail
  rw [Exit.noGoto_ret]
  go_ret
  exact ⟨rfl, rfl⟩
theorem wcode_nil (bits sz : Int) (w : World) (hb0 : 0 ≤ bits) (hb1 : bits ≤ 4294967295) (hs0 : 0 ≤ sz) (hs1 : sz ≤ 255) : Calls Try.prog 22 #[.pointer none, .agg #[.int .u32 bits, .int .u8 sz]] w fun e w' => e = .returned (.int .i64 1) ∧ Fr [] w w' :=
  wcode_any (.pointer none) bits sz 1 w (Fr [] w) (fun w1 hf => (wbits_nil bits sz w1).mono fun e w2 ⟨he, hw⟩ => ⟨he, hw ▸ hf⟩) hb0 hb1 hs0 hs1
theorem wlen_nil (w : World) : Calls Try.prog 23 #[.pointer none] w fun e w' => e = .returned (.int .i64 0) ∧ w' = w := by
  go_enter Try.func23, Try.ntmps23
  go_wp2
  go_ret
  exact ⟨rfl, rfl⟩
theorem wtext_nil (w : World) : Calls Try.prog 25 #[.pointer none] w fun e w' => e = .returned (.string ByteArray.empty) ∧ w' = w := by
  go_enter Try.func25, Try.ntmps25
  go_wp2
  go_ret
  exact ⟨rfl, rfl⟩
end Go.Proofs.Ytmnipgmheapfbaa

