/- The statement ModsEither: the walk of its Go function, put together. -/
import Derived.Test.YtoicdepkakgedaaMv
namespace Go.Proofs.Ytoicdepkakgedaa
open Go.RowKit
set_option linter.unusedVariables false
set_option linter.unusedSimpArgs false

theorem modsEither_walk (w : World) (a0 : ByteArray) (w0 : a0.size ≤ maxLen) (a1 : Int) (w1 : (Lit.int .i64 a1).wf = true) (b1 : ByteArray) (u1 : b1.size ≤ maxLen) (a2 : Int) (w2 : (Lit.int .i64 a2).wf = true) (b2 : ByteArray) (u2 : b2.size ≤ maxLen) (a3 : Int) (w3 : (Lit.int .u8 a3).wf = true) :
    Calls Try.prog 5 #[.string a0, .agg #[.int .i64 a1, .string b1], .agg #[.int .i64 a2, .string b2], .int .u8 a3] w fun e w' => e = .returned (.bool true) ∧ Below w.heap.size w w' := by
  unfold maxLen at w0 u1 u2
  obtain ⟨c, rfl⟩ := u8_of w3
  by_cases h : 1024 < a0.size ∨ 1024 < b1.size ∨ 1024 < b2.size
  · exact either_long w a0 a1 b1 a2 b2 _ (by omega) (by omega) (by omega) h
  · cases hm : (mayB 1024 ⟨a1, b1⟩ && mayB 1024 ⟨a2, b2⟩) with
    | false => exact either_bad w a0 a1 b1 a2 b2 c (by omega) (by omega) (by omega) hm
    | true =>
      rw [Bool.and_eq_true] at hm
      obtain ⟨h1, h2⟩ := hm
      obtain ⟨p0, _⟩ := mayB_bounds h1
      obtain ⟨q0, _⟩ := mayB_bounds h2
      obtain ⟨x, rfl⟩ := Int.eq_ofNat_of_zero_le (show 0 ≤ a1 from p0)
      obtain ⟨y, rfl⟩ := Int.eq_ofNat_of_zero_le (show 0 ≤ a2 from q0)
      exact either_ok w a0 x b1 y b2 c (by omega) h1 h2
end Go.Proofs.Ytoicdepkakgedaa
