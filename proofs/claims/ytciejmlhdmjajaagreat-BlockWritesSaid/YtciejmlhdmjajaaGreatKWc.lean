/- Bits turned about: Reverse64, ReverseBytes64, Turn. -/
import Derived.Test.YtciejmlhdmjajaaGreatKWb
namespace Go.Proofs.YtciejmlhdmjajaaGreat
open Go.RowKit
set_option linter.unusedVariables false
set_option linter.unusedSimpArgs false

/-! ### plain numbers -/
/-- The lowest k bits, turned about. -/
def turnN (n : Nat) : Nat → Nat
  | 0 => 0
  | k + 1 => 2 * turnN n k + n / 2 ^ k % 2
theorem turnN_lt (n k : Nat) : turnN n k < 2 ^ k := by
  induction k with
  | zero => simp [turnN]
  | succ k ih => rw [turnN, Nat.pow_succ]; have := Nat.mod_lt (n / 2 ^ k) (show 0 < 2 by decide); omega
theorem turnN_bit (n k i : Nat) : (turnN n k).testBit i = (decide (i < k) && n.testBit (k - 1 - i)) := by
  induction k generalizing i with
  | zero => simp [turnN]
  | succ k ih =>
    rw [turnN]
    have hm := Nat.mod_lt (n / 2 ^ k) (show 0 < 2 by decide)
    cases i with
    | zero =>
      rw [Nat.testBit_zero, Nat.testBit_eq_decide_div_mod_eq, show k + 1 - 1 - 0 = k by omega]
      simp only [Nat.zero_lt_succ, decide_true, Bool.true_and]
      congr 1
      apply propext
      omega
    | succ i =>
      rw [Nat.testBit_succ, show (2 * turnN n k + n / 2 ^ k % 2) / 2 = turnN n k by omega, ih i, show k + 1 - 1 - (i + 1) = k - 1 - i by omega]
      simp
theorem turnN_div (n k : Nat) (h : k ≤ 64) : turnN n 64 / 2 ^ (64 - k) = turnN n k := by
  apply Nat.eq_of_testBit_eq
  intro i
  rw [Nat.testBit_div_two_pow, turnN_bit, turnN_bit]
  by_cases hi : i < k
  · rw [decide_eq_true hi, decide_eq_true (show i + (64 - k) < 64 by omega), show 64 - 1 - (i + (64 - k)) = k - 1 - i by omega]
  · rw [decide_eq_false hi, decide_eq_false (show ¬ i + (64 - k) < 64 by omega)]; rfl

/-- Blocks of k bits, changed by twos. -/
def sw (k M n : Nat) : Nat := ((n / 2 ^ k) &&& M) ||| ((n &&& M) * 2 ^ k % 2 ^ 64)
def swOk (k M : Nat) : Prop := ∀ i, i < 64 → (M.testBit i = true ∧ (i < k ∨ M.testBit (i - k) = false) ∧ i ^^^ k = i + k) ∨ (M.testBit i = false ∧ k ≤ i ∧ M.testBit (i - k) = true ∧ i ^^^ k = i - k)
instance (k M : Nat) : Decidable (swOk k M) := by unfold swOk; infer_instance
theorem sw_lt (k M n : Nat) (hM : M < 2 ^ 64) : sw k M n < 2 ^ 64 :=
  Nat.or_lt_two_pow (Nat.and_lt_two_pow _ hM) (Nat.mod_lt _ (by decide))
theorem sw_bit (k M n i : Nat) (h : swOk k M) (hi : i < 64) : (sw k M n).testBit i = n.testBit (i ^^^ k) := by
  unfold sw
  rw [Nat.testBit_or, Nat.testBit_and, Nat.testBit_div_two_pow, Nat.testBit_mod_two_pow, Nat.testBit_mul_two_pow, Nat.testBit_and]
  rcases h i hi with ⟨a, b, c⟩ | ⟨a, b, c, d⟩
  · rw [a, c]
    rcases b with b | b
    · simp [Nat.not_le.2 b]
    · simp [b]
  · rw [a, c, d]
    simp [hi, b]
def lastN (n : Nat) : Nat := (n / 2 ^ 32) ||| (n * 2 ^ 32 % 2 ^ 64)
theorem last_lt (n : Nat) (h : n < 2 ^ 64) : lastN n < 2 ^ 64 :=
  Nat.or_lt_two_pow (Nat.lt_of_le_of_lt (Nat.div_le_self _ _) h) (Nat.mod_lt _ (by decide))
theorem last_bit (n i : Nat) (h : n < 2 ^ 64) (hi : i < 64) : (lastN n).testBit i = n.testBit (i ^^^ 32) := by
  unfold lastN
  rw [Nat.testBit_or, Nat.testBit_div_two_pow, Nat.testBit_mod_two_pow, Nat.testBit_mul_two_pow]
  have hx : ∀ i, i < 64 → (i < 32 ∧ i ^^^ 32 = i + 32) ∨ (32 ≤ i ∧ i ^^^ 32 = i - 32) := by decide +kernel
  rcases hx i hi with ⟨a, b⟩ | ⟨a, b⟩
  · rw [b]; simp [Nat.not_le.2 a]
  · rw [b]
    have : n.testBit (i + 32) = false := Nat.testBit_lt_two_pow (Nat.lt_of_lt_of_le h (Nat.pow_le_pow_right (by decide) (by omega)))
    rw [this]; simp [hi, a]
def revbN (n : Nat) : Nat := lastN (sw 16 281470681808895 (sw 8 71777214294589695 n))
def revN (n : Nat) : Nat := revbN (sw 4 1085102592571150095 (sw 2 3689348814741910323 (sw 1 6148914691236517205 n)))
theorem revN_lt (n : Nat) : revN n < 2 ^ 64 := last_lt _ (sw_lt _ _ _ (by decide))
theorem revN_eq (n : Nat) : revN n = turnN n 64 := by
  apply Nat.eq_of_testBit_eq
  intro i
  rw [turnN_bit]
  by_cases hi : i < 64
  · have hx : ∀ i k, i < 64 → k < 64 → i ^^^ k < 64 := fun i k a b => Nat.xor_lt_two_pow (n := 6) a b
    have hy : ∀ i, i < 64 → i ^^^ 32 ^^^ 16 ^^^ 8 ^^^ 4 ^^^ 2 ^^^ 1 = 63 - i := by decide +kernel
    unfold revN revbN
    rw [last_bit _ _ (sw_lt _ _ _ (by decide)) hi]
    have h1 := hx i 32 hi (by decide)
    have h2 := hx _ 16 h1 (by decide)
    have h3 := hx _ 8 h2 (by decide)
    have h4 := hx _ 4 h3 (by decide)
    have h5 := hx _ 2 h4 (by decide)
    rw [sw_bit 16 _ _ _ (by decide +kernel) h1, sw_bit 8 _ _ _ (by decide +kernel) h2, sw_bit 4 _ _ _ (by decide +kernel) h3, sw_bit 2 _ _ _ (by decide +kernel) h4, sw_bit 1 _ _ _ (by decide +kernel) h5, hy i hi, decide_eq_true hi]
    rfl
  · rw [decide_eq_false hi, Nat.testBit_lt_two_pow (Nat.lt_of_lt_of_le (revN_lt n) (Nat.pow_le_pow_right (by decide) (by omega)))]
    rfl

/-! ### as the program's numbers -/
def swI (s M x : Int) : Int := bits .or .u64 (bits .and .u64 (x / s) M) (IntKind.u64.wrap (bits .and .u64 x M * s))
def lastI (x : Int) : Int := bits .or .u64 (x / 4294967296) (IntKind.u64.wrap (x * 4294967296))
theorem swI_eq (k M n : Nat) (hn : n < 18446744073709551616) (hM : M < 18446744073709551616) : swI ((2 ^ k : Nat) : Int) (M : Int) (n : Int) = (sw k M n : Nat) := by
  unfold swI sw
  have h1 : n / 2 ^ k < 18446744073709551616 := Nat.lt_of_le_of_lt (Nat.div_le_self _ _) hn
  have e1 : (n : Int) / ((2 ^ k : Nat) : Int) = ((n / 2 ^ k : Nat) : Int) := rfl
  rw [e1, u64_and_nat _ _ h1 hM, u64_and_nat _ _ hn hM]
  have e2 : IntKind.u64.wrap (((n &&& M : Nat) : Int) * ((2 ^ k : Nat) : Int)) = (((n &&& M) * 2 ^ k % 2 ^ 64 : Nat) : Int) := by
    rw [IntKind.wrap_u64, ← Int.natCast_mul]; rfl
  rw [e2, u64_or_nat _ _ (Nat.and_lt_two_pow (n := 64) _ hM) (Nat.mod_lt _ (by decide))]
theorem lastI_eq (n : Nat) (hn : n < 18446744073709551616) : lastI (n : Int) = (lastN n : Nat) := by
  unfold lastI lastN
  have h1 : n / 2 ^ 32 < 18446744073709551616 := Nat.lt_of_le_of_lt (Nat.div_le_self _ _) hn
  have e1 : (n : Int) / 4294967296 = ((n / 2 ^ 32 : Nat) : Int) := rfl
  have e2 : IntKind.u64.wrap ((n : Int) * 4294967296) = ((n * 2 ^ 32 % 2 ^ 64 : Nat) : Int) := by
    rw [IntKind.wrap_u64]; rfl
  rw [e1, e2, u64_or_nat _ _ h1 (Nat.mod_lt _ (by decide))]

set_option maxRecDepth 100000 in
set_option maxHeartbeats 1600000 in
theorem revb_int (x : Int) (w : World) :
    Calls Tryz.prog 103 #[.int .u64 x] w fun e w' => e = .returned (.int .u64 (lastI (swI 65536 281470681808895 (swI 256 71777214294589695 x)))) ∧ w' = w := by
  go_enter Tryz.func103, Tryz.ntmps103
  go_wp2
  go_ret
  exact ⟨rfl, rfl⟩
set_option maxRecDepth 100000 in
set_option maxHeartbeats 1600000 in
theorem rev_int (x : Int) (w : World) :
    Calls Tryz.prog 95 #[.int .u64 x] w fun e w' => e = .returned (.int .u64 (lastI (swI 65536 281470681808895 (swI 256 71777214294589695 (swI 16 1085102592571150095 (swI 4 3689348814741910323 (swI 2 6148914691236517205 x))))))) ∧ w' = w := by
  go_enter Tryz.func95, Tryz.ntmps95
  go_wp2_with fail
  refine (revb_int _ w).mono ?_
  rintro e w1 ⟨rfl, rfl⟩
  go_wp2
  go_ret
  exact ⟨rfl, rfl⟩
theorem rev_any (n : Nat) (w : World) (h : n < 2 ^ 64) :
    Calls Tryz.prog 95 #[.int .u64 n] w fun e w' => e = .returned (.int .u64 (turnN n 64 : Nat)) ∧ w' = w := by
  refine (rev_int n w).mono ?_
  rintro e w1 ⟨rfl, rfl⟩
  refine ⟨?_, rfl⟩
  have e1 := swI_eq 1 6148914691236517205 n h (by decide)
  have e2 := swI_eq 2 3689348814741910323 _ (sw_lt 1 6148914691236517205 n (by decide)) (by decide)
  have e3 := swI_eq 4 1085102592571150095 _ (sw_lt 2 3689348814741910323 (sw 1 6148914691236517205 n) (by decide)) (by decide)
  have e4 := swI_eq 8 71777214294589695 _ (sw_lt 4 1085102592571150095 (sw 2 3689348814741910323 (sw 1 6148914691236517205 n)) (by decide)) (by decide)
  have e5 := swI_eq 16 281470681808895 _ (sw_lt 8 71777214294589695 (sw 4 1085102592571150095 (sw 2 3689348814741910323 (sw 1 6148914691236517205 n))) (by decide)) (by decide)
  have e6 := lastI_eq _ (sw_lt 16 281470681808895 (sw 8 71777214294589695 (sw 4 1085102592571150095 (sw 2 3689348814741910323 (sw 1 6148914691236517205 n)))) (by decide))
  have h1 : swI 2 6148914691236517205 n = ((sw 1 6148914691236517205 n : Nat) : Int) := e1
  rw [h1]
  have h2 : swI 4 3689348814741910323 ((sw 1 6148914691236517205 n : Nat) : Int) = _ := e2
  rw [h2]
  have h3 : swI 16 1085102592571150095 ((sw 2 3689348814741910323 (sw 1 6148914691236517205 n) : Nat) : Int) = _ := e3
  rw [h3]
  have h4 : swI 256 71777214294589695 ((sw 4 1085102592571150095 (sw 2 3689348814741910323 (sw 1 6148914691236517205 n)) : Nat) : Int) = _ := e4
  rw [h4]
  have h5 : swI 65536 281470681808895 ((sw 8 71777214294589695 (sw 4 1085102592571150095 (sw 2 3689348814741910323 (sw 1 6148914691236517205 n))) : Nat) : Int) = _ := e5
  rw [h5, e6, ← revN_eq]
  rfl
end Go.Proofs.YtciejmlhdmjajaaGreat

