/- The other calls of package word: Get, Small, Up, Log. -/
import Derived.Test.YtmajacfcfdljeaaW
namespace Go.Proofs.Ytmajacfcfdljeaa
open Go.RowKit
set_option linter.unusedVariables false
set_option linter.unusedSimpArgs false

/-- Which numbers bytes are. -/
def getB (s : ByteArray) (p size : Int) : Bool := decide (1 ≤ size ∧ size ≤ 8 ∧ 0 ≤ p ∧ p ≤ s.size ∧ size ≤ (s.size : Int) - p)
def getN (s : ByteArray) (p size : Int) : Nat := if getB s p size then num s / 2 ^ (8 * p.toNat) % 2 ^ (8 * size.toNat) else 0

theorem get_step (s : ByteArray) (p j k : Nat) (hp : p + j < s.size) (hj : j < 8) (hk : p + j = k) (hk' : k < s.size) :
    bits .or .u64 ((num s / 2 ^ (8 * p) % 2 ^ (8 * j) : Nat) : Int) (IntKind.u64.wrap (IntKind.u64.wrap ((s[k]).toNat : Int) * 2 ^ (8 * j))) = ((num s / 2 ^ (8 * p) % 2 ^ (8 * (j + 1)) : Nat) : Int) := by
  subst hk
  have hb := (s[p + j]).toNat_lt
  have hl : num s / 2 ^ (8 * p) % 2 ^ (8 * j) < 2 ^ (8 * j) := Nat.mod_lt _ (Nat.pow_pos (by decide))
  have hq : (2:Nat) ^ (8 * j) ≤ 2 ^ 56 := Nat.pow_le_pow_right (by decide) (by omega)
  have hpp : (s[p + j]).toNat * 2 ^ (8 * j) < 2 ^ 64 := by
    calc (s[p + j]).toNat * 2 ^ (8 * j) < 256 * 2 ^ (8 * j) := Nat.mul_lt_mul_of_pos_right hb (Nat.pow_pos (by decide))
      _ ≤ 256 * 2 ^ 56 := Nat.mul_le_mul_left _ hq
      _ = 2 ^ 64 := by decide
  have e2 : IntKind.u64.wrap (IntKind.u64.wrap ((s[p + j]).toNat : Int) * 2 ^ (8 * j)) = (((s[p + j]).toNat * 2 ^ (8 * j) : Nat) : Int) := by
    have hc : ((2:Int) ^ (8 * j)) = ((2 ^ (8 * j) : Nat) : Int) := by simp
    rw [hc, IntKind.wrap_u64, IntKind.wrap_u64, Int.emod_eq_of_lt (a := ((s[p + j]).toNat : Int)) (by omega) (by omega), ← Int.natCast_mul, Int.emod_eq_of_lt (by omega) (by omega)]
  rw [e2, or_low _ _ _ hl hpp (by omega)]
  congr 1
  have hg := numL_get s.data.toList (p + j) (by simpa using hk')
  have hg' : (s[p + j]).toNat = num s / 2 ^ (8 * (p + j)) % 256 := by rw [num, ← hg]; rfl
  rw [hg', show 8 * (p + j) = 8 * p + 8 * j by omega, Nat.pow_add, ← Nat.div_div_eq_div_mul, show 8 * (j + 1) = 8 * j + 8 by omega, Nat.pow_add, Nat.mod_mul, Nat.mul_comm (2 ^ (8 * j))]

/-- uint64 of an int. -/
def u64 (n : Int) : Nat := (n % 18446744073709551616).toNat
def smallB (n size : Int) : Bool := decide (0 ≤ n) && putB n.toNat size
def smallN (n size : Int) : Nat := if smallB n size then n.toNat else 0

/-- A multiple. -/
def upN (n t : Int) : Int := if n < 1 ∨ t < 1 then 0 else if 4611686018427387904 < (n + t - 1) / t * t then 0 else (n + t - 1) / t * t
theorem up_le (n t : Int) (hn : 1 ≤ n) (ht : 1 ≤ t) : n ≤ (n + t - 1) / t * t ∧ (n + t - 1) / t * t ≤ n + t - 1 := by
  have h := Int.emod_add_mul_ediv (n + t - 1) t
  have h1 := Int.emod_nonneg (n + t - 1) (show t ≠ 0 by omega)
  have h2 := Int.emod_lt_of_pos (n + t - 1) (show 0 < t by omega)
  rw [Int.mul_comm] at h
  omega

end Go.Proofs.Ytmajacfcfdljeaa

