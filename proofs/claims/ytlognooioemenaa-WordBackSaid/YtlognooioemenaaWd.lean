/- Turn; the document's own masks, turned bits and multiples. -/
import Derived.Test.YtlognooioemenaaWc
namespace Go.Proofs.Ytlognooioemenaa
open Go.RowKit
set_option linter.unusedVariables false
set_option linter.unusedSimpArgs false

/-- As many bits as there can be. -/
def cl (b : Int) : Nat := min b.toNat 64
theorem turnN_lt64 (n k : Nat) (h : k ≤ 64) : turnN n k < 2 ^ 64 := Nat.lt_of_lt_of_le (turnN_lt n k) (Nat.pow_le_pow_right (by decide) h)

set_option maxRecDepth 100000 in
set_option maxHeartbeats 1600000 in
theorem turn_any (n : Nat) (b : Int) (w : World) (h : n < 2 ^ 64) (hb : -9223372036854775808 ≤ b) (hb1 : b ≤ 9223372036854775807) :
    Calls Try.prog 51 #[.int .u64 n, .int .i64 b] w fun e w' => e = .returned (.int .u64 (turnN n (cl b) : Nat)) ∧ w' = w := by
  have hT := turnN_lt64 n 64 (Nat.le_refl _)
  have hm : (64 - max 0 (min b 64)).toNat = 64 - cl b := by unfold cl; omega
  have hd : ((turnN n 64 : Nat) : Int) / 2 ^ (64 - cl b) = (turnN n (cl b) : Nat) := by
    have hc : ((2:Int) ^ (64 - cl b)) = ((2 ^ (64 - cl b) : Nat) : Int) := by simp
    rw [hc, ← Int.natCast_ediv, turnN_div n (cl b) (by unfold cl; omega)]
  have HM := Lib.hid hm
  have HD := Lib.hid hd
  clear hm hd
  go_enter Try.func51, Try.ntmps51
  go_wp2_with fail
  refine (rev_any n w h).mono ?_
  rintro e w1 ⟨rfl, rfl⟩
  obtain ⟨q, hq⟩ : ∃ q : Nat, q = turnN n 64 := ⟨_, rfl⟩
  have HQ := Lib.hid hq
  rw [← hq] at hT ⊢
  clear hq
  go_wp2
  go_ret
  refine ⟨?_, rfl⟩
  rw [← HD.out, ← HM.out, ← HQ.out]
  rfl

set_option maxRecDepth 100000 in
set_option maxHeartbeats 1600000 in
theorem rmask_any (a : Int) (w : World) (hb : -9223372036854775808 ≤ a) (hb1 : a ≤ 9223372036854775807) :
    Calls Try.prog 50 #[.int .i64 a] w fun e w' => e = .returned (.int .u64 (maskN a : Int)) ∧ w' = w := by
  go_enter Try.func50, Try.ntmps50
  go_wp2
  go_loop [3, 4] (fun x i => ∃ j m : Nat, j ≤ cl a ∧ m + 1 = 2 ^ j ∧ i = .int .i64 j ∧ x = .int .u64 m) (fun _ i => 64 - (intOf i).toNat)
  case atStart => exact ⟨0, 0, Nat.zero_le _, rfl, rfl, rfl⟩
  case round =>
    obtain ⟨j, m, hj, hm, rfl, rfl⟩ := hrel
    by_cases hjk : (j : Int) < a ∧ j < 64
    · have hp : 2 ^ j ≤ 2 ^ 63 := Nat.pow_le_pow_right (by decide) (by omega)
      have h1 := hjk.1
      have h2 := hjk.2
      have hm63 : m < 2 ^ 63 := by omega
      have hj2 : j + 1 ≤ cl a := by unfold cl; omega
      have HM := Lib.hid hm
      clear hm hjk hp
      go_wp2
      go_round
      case rel => exact ⟨j + 1, 2 * m + 1, hj2, by have := HM.out; rw [Nat.pow_succ]; omega, by go_num, by go_num⟩
      case measure => simp [intOf]; omega
    · have e : maskN a = m := by
        unfold maskN
        have : min a.toNat 64 = j := by unfold cl at hj; omega
        rw [this]; omega
      have E := Lib.hid e
      clear hm e
      by_cases h1 : (j : Int) < a
      · have h2 : ¬ j < 64 := fun h => hjk ⟨h1, h⟩
        clear hjk
        go_wp2
        go_ret
        exact ⟨by rw [E.out]; rfl, rfl⟩
      · clear hjk
        go_wp2
        go_ret
        exact ⟨by rw [E.out]; rfl, rfl⟩

set_option maxRecDepth 100000 in
set_option maxHeartbeats 1600000 in
theorem rbit_any (n i : Nat) (w : World) (hn : n < 2 ^ 64) (hi : i < 64) :
    Calls Try.prog 68 #[.int .u64 n, .int .i64 i] w fun e w' => e = .returned (.int .u64 (n / 2 ^ i % 2 : Nat)) ∧ w' = w := by
  obtain ⟨y, hy⟩ : ∃ y : Nat, n / 2 ^ i % 2 = y := ⟨_, rfl⟩
  rw [hy]
  have HY := Lib.hid hy
  clear hy
  go_enter Try.func68, Try.ntmps68
  go_wp2
  go_loop [0, 5] (fun x k => ∃ j m : Nat, j ≤ i ∧ m < 2 ^ 64 ∧ n / 2 ^ j = m ∧ k = .int .i64 j ∧ x = .int .u64 m) (fun _ k => i - (intOf k).toNat)
  case atStart => exact ⟨0, n, Nat.zero_le _, hn, by simp, rfl, rfl⟩
  case round =>
    obtain ⟨j, m, hj, hm64, hm, rfl, rfl⟩ := hrel
    by_cases hjk : j < i
    · have HM := Lib.hid hm
      clear hm
      go_wp2
      go_round
      case rel => exact ⟨j + 1, m / 2, by omega, by omega, by rw [← HM.out, Nat.pow_succ, Nat.div_div_eq_div_mul], by go_num, by go_num⟩
      case measure => simp [intOf]; omega
    · have hje : j = i := by omega
      subst hje
      have HM := Lib.hid hm
      clear hm
      go_wp2
      go_ret
      exact ⟨by rw [← HY.out, HM.out]; rfl, rfl⟩

set_option maxRecDepth 100000 in
set_option maxHeartbeats 1600000 in
theorem rturn_any (n : Nat) (b : Int) (w : World) (h : n < 2 ^ 64) (hb : -9223372036854775808 ≤ b) (hb1 : b ≤ 9223372036854775807) :
    Calls Try.prog 52 #[.int .u64 n, .int .i64 b] w fun e w' => e = .returned (.int .u64 (turnN n (cl b) : Nat)) ∧ w' = w := by
  go_enter Try.func52, Try.ntmps52
  go_wp2
  go_loop [5, 6] (fun x i => ∃ j m : Nat, j ≤ cl b ∧ turnN n j = m ∧ m < 2 ^ j ∧ i = .int .i64 j ∧ x = .int .u64 m) (fun _ i => 64 - (intOf i).toNat)
  case atStart => exact ⟨0, 0, Nat.zero_le _, rfl, by decide, rfl, rfl⟩
  case round =>
    obtain ⟨j, m, hj, hm, hm2, rfl, rfl⟩ := hrel
    by_cases hjk : (j : Int) < b ∧ j < 64
    · have hp : 2 ^ j ≤ 2 ^ 63 := Nat.pow_le_pow_right (by decide) (by omega)
      have h1 := hjk.1
      have h2 := hjk.2
      have hm63 : m < 2 ^ 63 := by omega
      have hj2 : j + 1 ≤ cl b := by unfold cl; omega
      have HM := Lib.hid hm
      have HM2 := Lib.hid hm2
      clear hm hjk hp hm2
      go_wp2_with fail
      refine (rbit_any n j _ h h2).mono ?_
      rintro e w1 ⟨rfl, rfl⟩
      obtain ⟨y, hy⟩ : ∃ y, n / 2 ^ j % 2 = y := ⟨_, rfl⟩
      have hy2 : y < 2 := by rw [← hy]; exact Nat.mod_lt _ (by decide)
      rw [hy]
      have HY := Lib.hid hy
      clear hy
      go_wp2
      go_round
      case rel => exact ⟨j + 1, 2 * m + y, hj2, by rw [turnN, HM.out, HY.out], by have := HM2.out; rw [Nat.pow_succ]; omega, by go_num, by go_num⟩
      case measure => simp [intOf]; omega
    · have e : turnN n (cl b) = m := by
        rw [← hm]
        congr 1
        unfold cl at hj ⊢; omega
      have E := Lib.hid e
      clear hm e hm2
      by_cases h1 : (j : Int) < b
      · have h2 : ¬ j < 64 := fun h => hjk ⟨h1, h⟩
        clear hjk
        go_wp2
        go_ret
        exact ⟨by rw [E.out]; rfl, rfl⟩
      · clear hjk
        go_wp2
        go_ret
        exact ⟨by rw [E.out]; rfl, rfl⟩

theorem mul_emod_zero (a t : Int) (h : 0 < t) : a % t = 0 → a / t * t = a := by
  intro h0
  have := Int.emod_add_mul_ediv a t
  rw [Int.mul_comm] at this
  omega
set_option maxRecDepth 100000 in
set_option maxHeartbeats 1600000 in
theorem rup_any (n t : Int) (w : World) (hn : -9223372036854775808 ≤ n) (hn1 : n ≤ 9223372036854775807) (ht : -9223372036854775808 ≤ t) (ht1 : t ≤ 9223372036854775807) :
    Calls Try.prog 56 #[.int .i64 n, .int .i64 t] w fun e w' => e = .returned (.int .i64 (upN n t)) ∧ w' = w := by
  by_cases h0 : n < 1
  · have e : upN n t = 0 := by unfold upN; rw [if_pos (.inl h0)]
    rw [e]
    go_enter Try.func56, Try.ntmps56
    go_wp2
    go_ret
    exact ⟨rfl, rfl⟩
  by_cases h1 : t < 1
  · have e : upN n t = 0 := by unfold upN; rw [if_pos (.inr h1)]
    rw [e]
    go_enter Try.func56, Try.ntmps56
    go_wp2
    go_ret
    exact ⟨rfl, rfl⟩
  have i1 : 1 ≤ n := by omega
  have i2 : 1 ≤ t := by omega
  have hu := up_le n t i1 i2
  have e : upN n t = if 4611686018427387904 < (n + t - 1) / t * t then 0 else (n + t - 1) / t * t := by unfold upN; rw [if_neg (by omega)]
  rw [e]
  clear e
  obtain ⟨l, hl⟩ : ∃ l, n % t = l := ⟨_, rfl⟩
  have hl0 := Int.emod_nonneg n (show t ≠ 0 by omega)
  have hl1 := Int.emod_lt_of_pos n (show 0 < t by omega)
  rw [hl] at hl0 hl1
  -- the multiple
  have hc : (n + t - 1) / t * t = if l = 0 then n else n - l + t := by
    have h2 := Int.emod_add_mul_ediv n t
    rw [hl] at h2
    obtain ⟨q, hq⟩ : ∃ q, n / t = q := ⟨_, rfl⟩
    rw [hq] at h2
    split
    · rename_i hz
      have : (n + t - 1) / t = q := by
        rw [show n + t - 1 = (t - 1) + t * q by omega, Int.add_mul_ediv_left _ _ (by omega), Int.ediv_eq_zero_of_lt (by omega) (by omega)]
        omega
      rw [this, Int.mul_comm]; omega
    · rename_i hz
      have : (n + t - 1) / t = q + 1 := by
        rw [show n + t - 1 = (l - 1) + t * (q + 1) by rw [Int.mul_add]; omega, Int.add_mul_ediv_left _ _ (by omega), Int.ediv_eq_zero_of_lt (by omega) (by omega)]
        omega
      rw [this, Int.mul_comm, Int.mul_add]; omega
  have hs : n < t → l = n := fun h => by rw [← hl]; exact Int.emod_eq_of_lt (by omega) h
  rw [hc] at hu ⊢
  have HC := Lib.hid hc
  clear hc h0 h1 hn ht
  by_cases hz : l = 0
  all_goals by_cases hb : 4611686018427387904 < n
  all_goals by_cases hb1 : 4611686018427387904 < t
  all_goals
    simp only [hz, ↓reduceIte] at hu ⊢
    have HS := Lib.hid hs
    clear hs
    go_enter Try.func56, Try.ntmps56
    go_wp2
    all_goals
      go_ret
      refine ⟨congrArg Ending.returned (congrArg (Value.int IntKind.i64) ?_), rfl⟩
      have hs := HS.out
      first | rfl | omega | (split <;> first | rfl | omega)
end Go.Proofs.Ytlognooioemenaa
