/- Greatest bits, and bits turned about: Log, Turn, and what they call of package math/bits. -/
import Derived.Test.YtmnipgmheapfbaaWa
import Derived.Lib.BitFns
import Derived.Deep.Light
import Derived.Shelf.Sort.So_math_bits_Len64In
namespace Go.Proofs.Ytmnipgmheapfbaa
open Go.RowKit
set_option linter.unusedVariables false
set_option linter.unusedSimpArgs false

theorem bl_half (x : Nat) (h : 0 < x) : bl x = 1 + bl (x / 2) := by
  by_cases h1 : x = 1
  · subst h1; decide +kernel
  · have := bl_shift x 1 (by omega)
    rw [Nat.pow_one] at this
    exact this
theorem bitLenAux_bl : ∀ (f x : Nat), x < 2 ^ f → Lib.bitLenAux f x = bl x
  | 0, x, h => by have : x = 0 := by simp at h; exact h
                  subst this; rfl
  | f + 1, x, h => by
    unfold Lib.bitLenAux
    by_cases h0 : x = 0
    · rw [if_pos h0, h0]; rfl
    · rw [if_neg h0, bitLenAux_bl f (x / 2) (by rw [Nat.pow_succ] at h; omega), bl_half x (by omega)]
theorem bitLen_bl (x : Nat) (h : x < 2 ^ 64) : Lib.bitLen x = bl x := bitLenAux_bl 64 x h

end Go.Proofs.Ytmnipgmheapfbaa


