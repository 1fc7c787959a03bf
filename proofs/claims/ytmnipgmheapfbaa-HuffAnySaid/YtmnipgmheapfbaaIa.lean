/- The statement HuffAny: the walk of its Go function. -/
import Derived.Test.YtmnipgmheapfbaaHy
namespace Go.Proofs.Ytmnipgmheapfbaa
open Go.RowKit
set_option linter.unusedVariables false
set_option linter.unusedSimpArgs false

set_option maxRecDepth 2000000 in
set_option maxHeartbeats 6400000 in
theorem any_big (w : World) (a0 : Option Addr) (c0 : Nat) (x0 : List Nat) (s : ByteArray) (l0 : x0.length ≤ 9223372036854775807) (l1 : s.size ≤ 9223372036854775807) (hb : 320 < x0.length ∨ 200 < s.size) (a2 : Int) :
    Calls Try.prog 7 #[.slice a0 x0.length c0, .string s, .int .u8 a2] w fun e w' => e = .returned (.bool true) ∧ Below w.heap.size w w' := by
  have i0 : (x0.length : Int) ≤ 9223372036854775807 := by omega
  have i1 : (s.size : Int) ≤ 9223372036854775807 := by omega
  obtain ⟨n0, hn0⟩ : ∃ n, x0.length = n := ⟨_, rfl⟩
  rw [hn0] at hb i0 ⊢
  clear hn0 l0 l1
  by_cases h1 : 320 < n0
  · have j1 : (320 : Int) < (n0 : Int) := by omega
    clear hb h1
    go_enter Try.func7, Try.ntmps7
    go_wp2_with fail
    refine (alive_any _).mono ?_
    rintro e w1 ⟨rfl, f1⟩
    have HF1 := Lib.hid f1
    clear f1
    go_wp2_with fail
    go_ret
    exact ⟨rfl, HF1.out.below⟩
  · have j1 : (n0 : Int) ≤ 320 := by omega
    have j2 : (200 : Int) < (s.size : Int) := by omega
    clear hb h1
    go_enter Try.func7, Try.ntmps7
    go_wp2_with fail
    refine (alive_any _).mono ?_
    rintro e w1 ⟨rfl, f1⟩
    have HF1 := Lib.hid f1
    clear f1
    go_wp2_with fail
    go_ret
    exact ⟨rfl, HF1.out.below⟩
set_option maxRecDepth 2000000 in
set_option maxHeartbeats 6400000 in
theorem any_none (w : World) (a0 : Option Addr) (c0 : Nat) (x0 : List Nat) (s : ByteArray) (l0 : x0.length ≤ 320) (l1 : s.size ≤ 200) (n1 : Nat) (h1 : n1 < 256) (er : Nat) (her : 0 < er) (hr : er ≤ 7)
    (hnew : ∀ (f : Int) W, 1 ≤ f → f ≤ 12 → Fr [] w W → Calls Try.prog 9 #[.slice a0 x0.length c0, .int .i64 f] W fun e w' => e = .returned (.tuple #[.pointer none, .int .i64 (er : Int)]) ∧ Fr [] W w')
    (hwr : ∀ W, Fr [] w W → Calls Try.prog 11 #[.slice a0 x0.length c0] W fun e w' => ∃ v er2, e = .returned (.tuple #[v, .int .i64 er2]) ∧ Fr [] W w') :
    Calls Try.prog 7 #[.slice a0 x0.length c0, .string s, .int .u8 (n1 : Int)] w fun e w' => e = .returned (.bool true) ∧ Below w.heap.size w w' := by
  have HN := Lib.hid hnew
  have HW := Lib.hid hwr
  have i0 : (x0.length : Int) ≤ 320 := by omega
  have i1 : (s.size : Int) ≤ 200 := by omega
  have i6 : (n1 : Int) ≤ 255 := by omega
  have i3 : ((er : Int) == 0) = false := by simp; omega
  have i4 : ((er : Int) != 0) = true := by simp; omega
  clear hnew hwr l0 l1 h1 her hr
  go_enter Try.func7, Try.ntmps7
  go_wp2_with fail
  refine (HN.out _ _ (by omega) (by omega) (Fr.refl _ _)).mono ?_
  rintro e w1 ⟨rfl, f1⟩
  have HF1 := Lib.hid f1
  clear f1
  go_wp2_with fail
  refine (HW.out _ HF1.out).mono ?_
  rintro e w2 ⟨v, er2, rfl, f2⟩
  have HF2 := Lib.hid (HF1.out.trans f2)
  clear f2 HF1
  go_wp2_with fail
  refine (rnew_any _ _).mono ?_
  rintro e w3 ⟨rfl, _, f3⟩
  have HF3 := Lib.hid (HF2.out.trans f3)
  clear f3 HF2
  go_wp2_with fail
  refine (wnew_any 4096 _ (by decide)).mono ?_
  rintro e w4 ⟨rfl, _, f4⟩
  have HF4 := Lib.hid (HF3.out.trans f4)
  clear f4 HF3
  go_wp2_with fail
  refine (alive_any _).mono ?_
  rintro e w5 ⟨rfl, f5⟩
  have HF5 := Lib.hid (HF4.out.trans f5)
  clear f5 HF4
  go_wp2_with fail
  go_ret
  exact ⟨rfl, HF5.out.below⟩

theorem bit_mod (x a i : Nat) (h : i < a) : x % 2 ^ a / 2 ^ i % 2 ^ 1 = x / 2 ^ i % 2 ^ 1 := by
  apply Nat.eq_of_testBit_eq
  intro j
  rw [Nat.testBit_mod_two_pow, Nat.testBit_mod_two_pow, Nat.testBit_div_two_pow, Nat.testBit_div_two_pow, Nat.testBit_mod_two_pow]
  by_cases hj : j < 1
  · rw [decide_eq_true (show j + i < a by omega)]; simp
  · rw [decide_eq_false hj]; simp
theorem mod_more (x a z : Nat) : x % 2 ^ a + x / 2 ^ a % 2 ^ z * 2 ^ a = x % 2 ^ (a + z) := by
  rw [Nat.pow_add, Nat.mod_mul, Nat.mul_comm (x / 2 ^ a % 2 ^ z)]
theorem one_bit (s : ByteArray) (i : Nat) (h : i < 8 * s.size) : bitsE s i 1 = 0 ∧ bitsN s i 1 = num s / 2 ^ i % 2 ^ 1 := by
  have hE : bitsE s i 1 = 0 := by unfold bitsE; rw [if_neg (by omega), if_neg (by omega)]
  refine ⟨hE, ?_⟩
  unfold bitsN
  rw [if_pos hE]
  unfold peekN peekH
  rw [show min (1 : Int).toNat (8 * s.size - i) = 1 by omega]
theorem nextN_err (l : List Nat) (T : ByteArray) (a : Nat) : (nextN l T a).2.2 = 0 ∨ (nextN l T a).2.2 = 7 ∧ (nextN l T a).1 = 0 ∧ (nextN l T a).2.1 = 0 ∨ (nextN l T a).2.2 = 6 ∧ (nextN l T a).1 = 0 ∧ (nextN l T a).2.1 = 0 := by
  rcases lookN_err l (peekN T a 15) (peekH T a 15) with h | h | h
  · exact .inl h.1
  · exact .inr (.inl h)
  · exact .inr (.inr h)
end Go.Proofs.Ytmnipgmheapfbaa

