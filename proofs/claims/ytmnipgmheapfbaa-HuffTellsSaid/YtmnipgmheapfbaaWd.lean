/- Turn; the document's own masks, turned bits and multiples. -/
import Derived.Test.YtmnipgmheapfbaaWc
namespace Go.Proofs.Ytmnipgmheapfbaa
open Go.RowKit
set_option linter.unusedVariables false
set_option linter.unusedSimpArgs false

/-- As many bits as there can be. -/
def cl (b : Int) : Nat := min b.toNat 64
theorem turnN_lt64 (n k : Nat) (h : k ≤ 64) : turnN n k < 2 ^ 64 := Nat.lt_of_lt_of_le (turnN_lt n k) (Nat.pow_le_pow_right (by decide) h)

set_option maxRecDepth 100000 in
set_option maxHeartbeats 1600000 in
theorem turn_any (n : Nat) (b : Int) (w : World) (h : n < 2 ^ 64) (hb : -9223372036854775808 ≤ b) (hb1 : b ≤ 9223372036854775807) :
    Calls Try.prog 35 #[.int .u64 n, .int .i64 b] w fun e w' => e = .returned (.int .u64 (turnN n (cl b) : Nat)) ∧ w' = w := by
  have hT := turnN_lt64 n 64 (Nat.le_refl _)
  have hm : (64 - max 0 (min b 64)).toNat = 64 - cl b := by unfold cl; omega
  have hd : ((turnN n 64 : Nat) : Int) / 2 ^ (64 - cl b) = (turnN n (cl b) : Nat) := by
    have hc : ((2:Int) ^ (64 - cl b)) = ((2 ^ (64 - cl b) : Nat) : Int) := by simp
    rw [hc, ← Int.natCast_ediv, turnN_div n (cl b) (by unfold cl; omega)]
  have HM := Lib.hid hm
  have HD := Lib.hid hd
  clear hm hd
  go_enter Try.func35, Try.ntmps35
  go_wp2_with fail
  refine (rev_any n w h).mono ?_
  rintro e w1 ⟨rfl, rfl⟩
  obtain ⟨q, hq⟩ : ∃ q : Nat, q = turnN n 64 := ⟨_, rfl⟩
  have HQ := Lib.hid hq
  rw [← hq] at hT ⊢
  clear hq
  go_wp2
  go_ret
  refine ⟨?_, rfl⟩
  rw [← HD.out, ← HM.out, ← HQ.out]
  rfl

theorem mul_emod_zero (a t : Int) (h : 0 < t) : a % t = 0 → a / t * t = a := by
  intro h0
  have := Int.emod_add_mul_ediv a t
  rw [Int.mul_comm] at this
  omega
end Go.Proofs.Ytmnipgmheapfbaa

