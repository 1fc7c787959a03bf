/- The other calls of package word: Get, Small, Up, Log. -/
import Derived.Test.YtlognooioemenaaW
namespace Go.Proofs.Ytlognooioemenaa
open Go.RowKit
set_option linter.unusedVariables false
set_option linter.unusedSimpArgs false

/-- Which numbers bytes are. -/
def getB (s : ByteArray) (p size : Int) : Bool := decide (1 ≤ size ∧ size ≤ 8 ∧ 0 ≤ p ∧ p ≤ s.size ∧ size ≤ (s.size : Int) - p)
def getN (s : ByteArray) (p size : Int) : Nat := if getB s p size then num s / 2 ^ (8 * p.toNat) % 2 ^ (8 * size.toNat) else 0

theorem get_step (s : ByteArray) (p j k : Nat) (hp : p + j < s.size) (hj : j < 8) (hk : p + j = k) (hk' : k < s.size) :
    bits .or .u64 ((num s / 2 ^ (8 * p) % 2 ^ (8 * j) : Nat) : Int) (IntKind.u64.wrap (IntKind.u64.wrap ((s[k]).toNat : Int) * 2 ^ (8 * j))) = ((num s / 2 ^ (8 * p) % 2 ^ (8 * (j + 1)) : Nat) : Int) := by
  subst hk
  have hb := (s[p + j]).toNat_lt
  have hl : num s / 2 ^ (8 * p) % 2 ^ (8 * j) < 2 ^ (8 * j) := Nat.mod_lt _ (Nat.pow_pos (by decide))
  have hq : (2:Nat) ^ (8 * j) ≤ 2 ^ 56 := Nat.pow_le_pow_right (by decide) (by omega)
  have hpp : (s[p + j]).toNat * 2 ^ (8 * j) < 2 ^ 64 := by
    calc (s[p + j]).toNat * 2 ^ (8 * j) < 256 * 2 ^ (8 * j) := Nat.mul_lt_mul_of_pos_right hb (Nat.pow_pos (by decide))
      _ ≤ 256 * 2 ^ 56 := Nat.mul_le_mul_left _ hq
      _ = 2 ^ 64 := by decide
  have e2 : IntKind.u64.wrap (IntKind.u64.wrap ((s[p + j]).toNat : Int) * 2 ^ (8 * j)) = (((s[p + j]).toNat * 2 ^ (8 * j) : Nat) : Int) := by
    have hc : ((2:Int) ^ (8 * j)) = ((2 ^ (8 * j) : Nat) : Int) := by simp
    rw [hc, IntKind.wrap_u64, IntKind.wrap_u64, Int.emod_eq_of_lt (a := ((s[p + j]).toNat : Int)) (by omega) (by omega), ← Int.natCast_mul, Int.emod_eq_of_lt (by omega) (by omega)]
  rw [e2, or_low _ _ _ hl hpp (by omega)]
  congr 1
  have hg := numL_get s.data.toList (p + j) (by simpa using hk')
  have hg' : (s[p + j]).toNat = num s / 2 ^ (8 * (p + j)) % 256 := by rw [num, ← hg]; rfl
  rw [hg', show 8 * (p + j) = 8 * p + 8 * j by omega, Nat.pow_add, ← Nat.div_div_eq_div_mul, show 8 * (j + 1) = 8 * j + 8 by omega, Nat.pow_add, Nat.mod_mul, Nat.mul_comm (2 ^ (8 * j))]

set_option maxRecDepth 100000 in
set_option maxHeartbeats 1600000 in
theorem get_any (s : ByteArray) (p size : Int) (w : World) (hs : s.size ≤ 1000000000) (hp : -9223372036854775808 ≤ p) (hp1 : p ≤ 9223372036854775807) :
    Calls Try.prog 46 #[.string s, .int .i64 p, .int .i64 size] w fun e w' => e = .returned (.tuple #[.int .u64 (getN s p size : Int), .bool (getB s p size)]) ∧ Fr [] w w' := by
  have i0 : (s.size : Int) ≤ 1000000000 := by omega
  by_cases hok : 1 ≤ size ∧ size ≤ 8 ∧ 0 ≤ p ∧ p ≤ s.size ∧ size ≤ (s.size : Int) - p
  · have e : getB s p size = true := decide_eq_true hok
    obtain ⟨g1, g2, g3, g4, g5⟩ := hok
    obtain ⟨k, rfl⟩ := Int.eq_ofNat_of_zero_le (show 0 ≤ size by omega)
    obtain ⟨q, rfl⟩ := Int.eq_ofNat_of_zero_le g3
    have e1 : getN s q k = num s / 2 ^ (8 * q) % 2 ^ (8 * k) := by unfold getN; rw [e]; simp
    rw [e, e1]
    clear e e1 hp hp1
    go_enter Try.func46, Try.ntmps46
    go_wp2_with fail
    go_loop [6, 34] (fun n i => ∃ j : Nat, j ≤ k ∧ i = .int .i64 j ∧ n = .int .u64 ((num s / 2 ^ (8 * q) % 2 ^ (8 * j) : Nat) : Int)) (fun _ i => k - (intOf i).toNat)
    case atStart => exact ⟨0, Nat.zero_le _, rfl, by simp [Nat.mod_one]⟩
    case round =>
      obtain ⟨j, hj, rfl, rfl⟩ := hrel
      by_cases hjk : j < k
      · obtain ⟨m, hm⟩ : ∃ m, q + j = m := ⟨_, rfl⟩
        have hms : m < s.size := by omega
        have hst := get_step s q j m (by omega) (by omega) hm hms
        have hsum : (q : Int) + (j : Int) = (m : Int) := by omega
        have hix := run_index_text (P := Try.prog) w 9 s .i64 m Try.underlying9 hms
        have HST := Lib.hid hst
        generalize num s / 2 ^ (8 * q) % 2 ^ (8 * j) = X at *
        clear hst hm
        go_wp2
        go_round
        case rel => exact ⟨j + 1, by omega, by go_num, by rw [HST.out]⟩
        case measure => simp [intOf]; omega
      · have hje : j = k := by omega
        subst hje
        go_wp2
        go_ret2
        exact ⟨rfl, Fr.refl _ _⟩
  · have e : getB s p size = false := decide_eq_false hok
    have e1 : getN s p size = 0 := by unfold getN; rw [e]; rfl
    rw [e, e1]
    by_cases h1 : size < 1
    · go_enter Try.func46, Try.ntmps46
      go_wp2
      go_ret2
      exact ⟨rfl, Fr.refl _ _⟩
    by_cases h2 : 8 < size
    · go_enter Try.func46, Try.ntmps46
      go_wp2
      go_ret2
      exact ⟨rfl, Fr.refl _ _⟩
    by_cases h3 : p < 0
    · go_enter Try.func46, Try.ntmps46
      go_wp2
      go_ret2
      exact ⟨rfl, Fr.refl _ _⟩
    by_cases h4 : (s.size : Int) < p
    · go_enter Try.func46, Try.ntmps46
      go_wp2
      go_ret2
      exact ⟨rfl, Fr.refl _ _⟩
    have h5 : (s.size : Int) - p < size := by omega
    clear hok
    go_enter Try.func46, Try.ntmps46
    go_wp2
    go_ret2
    exact ⟨rfl, Fr.refl _ _⟩

/-- uint64 of an int. -/
def u64 (n : Int) : Nat := (n % 18446744073709551616).toNat
def smallB (n size : Int) : Bool := decide (0 ≤ n) && putB n.toNat size
def smallN (n size : Int) : Nat := if smallB n size then n.toNat else 0

set_option maxHeartbeats 800000 in
theorem small_any (n size : Int) (w : World) (hn : -9223372036854775808 ≤ n) (hn1 : n ≤ 9223372036854775807) (hs : -9223372036854775808 ≤ size) (hs1 : size ≤ 9223372036854775807) :
    Calls Try.prog 48 #[.int .i64 n, .int .i64 size] w fun e w' => e = .returned (.tuple #[.int .u64 (smallN n size : Int), .bool (smallB n size)]) ∧ Fr [] w w' := by
  by_cases h0 : n < 0
  · have e : smallB n size = false := by simp [smallB]; omega
    have e1 : smallN n size = 0 := by unfold smallN; rw [e]; rfl
    rw [e, e1]
    obtain ⟨m, hm⟩ : ∃ m : Nat, IntKind.u64.wrap n = (m : Int) := ⟨u64 n, by rw [IntKind.wrap_u64]; unfold u64; omega⟩
    have hm64 : m < 2 ^ 64 := by rw [IntKind.wrap_u64] at hm; omega
    cases hp : putB m size
    all_goals
      have HP := Lib.hid hp
      clear hp e e1
      go_enter Try.func48, Try.ntmps48
      go_wp2_with fail
      refine (put_any m size _ hm64 hs hs1).mono ?_
      rintro e w1 ⟨rfl, f1⟩
      rw [HP.out]
      go_wp2_with fail
      go_ret2
      exact ⟨rfl, f1⟩
  · obtain ⟨m, rfl⟩ := Int.eq_ofNat_of_zero_le (show 0 ≤ n by omega)
    have hm64 : m < 2 ^ 64 := by omega
    have hw : IntKind.u64.wrap (m : Int) = (m : Int) := by rw [IntKind.wrap_u64]; omega
    have i1 : 0 ≤ (m : Int) := by omega
    have eb : smallB m size = putB m size := by simp [smallB]
    have en : smallN m size = if putB m size then m else 0 := by unfold smallN; rw [eb]; rfl
    rw [eb, en]
    clear eb en h0 hn
    cases hp : putB m size
    all_goals
      have HP := Lib.hid hp
      clear hp
      go_enter Try.func48, Try.ntmps48
      go_wp2_with fail
      refine (put_any m size _ hm64 hs hs1).mono ?_
      rintro e w1 ⟨rfl, f1⟩
      rw [HP.out]
      go_wp2_with fail
      go_ret2
      exact ⟨rfl, f1⟩

/-- A multiple. -/
def upN (n t : Int) : Int := if n < 1 ∨ t < 1 then 0 else if 4611686018427387904 < (n + t - 1) / t * t then 0 else (n + t - 1) / t * t
theorem up_le (n t : Int) (hn : 1 ≤ n) (ht : 1 ≤ t) : n ≤ (n + t - 1) / t * t ∧ (n + t - 1) / t * t ≤ n + t - 1 := by
  have h := Int.emod_add_mul_ediv (n + t - 1) t
  have h1 := Int.emod_nonneg (n + t - 1) (show t ≠ 0 by omega)
  have h2 := Int.emod_lt_of_pos (n + t - 1) (show 0 < t by omega)
  rw [Int.mul_comm] at h
  omega

set_option maxHeartbeats 800000 in
theorem up_any (n t : Int) (w : World) (hn : -9223372036854775808 ≤ n) (hn1 : n ≤ 9223372036854775807) (ht : -9223372036854775808 ≤ t) (ht1 : t ≤ 9223372036854775807) :
    Calls Try.prog 55 #[.int .i64 n, .int .i64 t] w fun e w' => e = .returned (.int .i64 (upN n t)) ∧ w' = w := by
  by_cases h0 : n < 1
  · have e : upN n t = 0 := by unfold upN; rw [if_pos (.inl h0)]
    rw [e]
    go_enter Try.func55, Try.ntmps55
    go_wp2
    go_ret
    exact ⟨rfl, rfl⟩
  by_cases h1 : t < 1
  · have e : upN n t = 0 := by unfold upN; rw [if_pos (.inr h1)]
    rw [e]
    go_enter Try.func55, Try.ntmps55
    go_wp2
    go_ret
    exact ⟨rfl, rfl⟩
  have hu := up_le n t (by omega) (by omega)
  obtain ⟨c, hc⟩ : ∃ c, (n + t - 1) / t * t = c := ⟨_, rfl⟩
  have e : upN n t = if 4611686018427387904 < c then 0 else c := by unfold upN; rw [if_neg (by omega), hc]
  rw [hc] at hu
  obtain ⟨d, hd⟩ : ∃ d, (n + t - 1) / t = d := ⟨_, rfl⟩
  rw [hd] at hc
  rw [e]
  clear e
  have i1 : 1 ≤ n := by omega
  have i2 : 1 ≤ t := by omega
  have HC := Lib.hid hc
  clear h0 h1 hn ht
  go_enter Try.func55, Try.ntmps55
  go_wp2_with fail
  all_goals
    go_ret
    exact ⟨rfl, rfl⟩
end Go.Proofs.Ytlognooioemenaa
