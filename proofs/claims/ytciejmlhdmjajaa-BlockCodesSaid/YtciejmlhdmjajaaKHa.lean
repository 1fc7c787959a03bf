/- Bits turned about: Reverse64, ReverseBytes64, Turn. Canonical codes, in plain Lean: where each code stands, that none begins another one, that whole ones leave out nothing. -/
import Derived.Test.YtciejmlhdmjajaaKWb
namespace Go.Proofs.Ytciejmlhdmjajaa
open Go.RowKit
set_option linter.unusedVariables false
set_option linter.unusedSimpArgs false

/-! ### plain numbers -/
/-- The lowest k bits, turned about. -/
def turnN (n : Nat) : Nat → Nat
  | 0 => 0
  | k + 1 => 2 * turnN n k + n / 2 ^ k % 2
theorem turnN_lt (n k : Nat) : turnN n k < 2 ^ k := by
  induction k with
  | zero => simp [turnN]
  | succ k ih => rw [turnN, Nat.pow_succ]; have := Nat.mod_lt (n / 2 ^ k) (show 0 < 2 by decide); omega
theorem turnN_bit (n k i : Nat) : (turnN n k).testBit i = (decide (i < k) && n.testBit (k - 1 - i)) := by
  induction k generalizing i with
  | zero => simp [turnN]
  | succ k ih =>
    rw [turnN]
    have hm := Nat.mod_lt (n / 2 ^ k) (show 0 < 2 by decide)
    cases i with
    | zero =>
      rw [Nat.testBit_zero, Nat.testBit_eq_decide_div_mod_eq, show k + 1 - 1 - 0 = k by omega]
      simp only [Nat.zero_lt_succ, decide_true, Bool.true_and]
      congr 1
      apply propext
      omega
    | succ i =>
      rw [Nat.testBit_succ, show (2 * turnN n k + n / 2 ^ k % 2) / 2 = turnN n k by omega, ih i, show k + 1 - 1 - (i + 1) = k - 1 - i by omega]
      simp
theorem turnN_div (n k : Nat) (h : k ≤ 64) : turnN n 64 / 2 ^ (64 - k) = turnN n k := by
  apply Nat.eq_of_testBit_eq
  intro i
  rw [Nat.testBit_div_two_pow, turnN_bit, turnN_bit]
  by_cases hi : i < k
  · rw [decide_eq_true hi, decide_eq_true (show i + (64 - k) < 64 by omega), show 64 - 1 - (i + (64 - k)) = k - 1 - i by omega]
  · rw [decide_eq_false hi, decide_eq_false (show ¬ i + (64 - k) < 64 by omega)]; rfl

/-- Blocks of k bits, changed by twos. -/
def sw (k M n : Nat) : Nat := ((n / 2 ^ k) &&& M) ||| ((n &&& M) * 2 ^ k % 2 ^ 64)
def swOk (k M : Nat) : Prop := ∀ i, i < 64 → (M.testBit i = true ∧ (i < k ∨ M.testBit (i - k) = false) ∧ i ^^^ k = i + k) ∨ (M.testBit i = false ∧ k ≤ i ∧ M.testBit (i - k) = true ∧ i ^^^ k = i - k)
instance (k M : Nat) : Decidable (swOk k M) := by unfold swOk; infer_instance
theorem sw_lt (k M n : Nat) (hM : M < 2 ^ 64) : sw k M n < 2 ^ 64 :=
  Nat.or_lt_two_pow (Nat.and_lt_two_pow _ hM) (Nat.mod_lt _ (by decide))
theorem sw_bit (k M n i : Nat) (h : swOk k M) (hi : i < 64) : (sw k M n).testBit i = n.testBit (i ^^^ k) := by
  unfold sw
  rw [Nat.testBit_or, Nat.testBit_and, Nat.testBit_div_two_pow, Nat.testBit_mod_two_pow, Nat.testBit_mul_two_pow, Nat.testBit_and]
  rcases h i hi with ⟨a, b, c⟩ | ⟨a, b, c, d⟩
  · rw [a, c]
    rcases b with b | b
    · simp [Nat.not_le.2 b]
    · simp [b]
  · rw [a, c, d]
    simp [hi, b]
def lastN (n : Nat) : Nat := (n / 2 ^ 32) ||| (n * 2 ^ 32 % 2 ^ 64)
theorem last_lt (n : Nat) (h : n < 2 ^ 64) : lastN n < 2 ^ 64 :=
  Nat.or_lt_two_pow (Nat.lt_of_le_of_lt (Nat.div_le_self _ _) h) (Nat.mod_lt _ (by decide))
theorem last_bit (n i : Nat) (h : n < 2 ^ 64) (hi : i < 64) : (lastN n).testBit i = n.testBit (i ^^^ 32) := by
  unfold lastN
  rw [Nat.testBit_or, Nat.testBit_div_two_pow, Nat.testBit_mod_two_pow, Nat.testBit_mul_two_pow]
  have hx : ∀ i, i < 64 → (i < 32 ∧ i ^^^ 32 = i + 32) ∨ (32 ≤ i ∧ i ^^^ 32 = i - 32) := by decide +kernel
  rcases hx i hi with ⟨a, b⟩ | ⟨a, b⟩
  · rw [b]; simp [Nat.not_le.2 a]
  · rw [b]
    have : n.testBit (i + 32) = false := Nat.testBit_lt_two_pow (Nat.lt_of_lt_of_le h (Nat.pow_le_pow_right (by decide) (by omega)))
    rw [this]; simp [hi, a]
def revbN (n : Nat) : Nat := lastN (sw 16 281470681808895 (sw 8 71777214294589695 n))
def revN (n : Nat) : Nat := revbN (sw 4 1085102592571150095 (sw 2 3689348814741910323 (sw 1 6148914691236517205 n)))
theorem revN_lt (n : Nat) : revN n < 2 ^ 64 := last_lt _ (sw_lt _ _ _ (by decide))
theorem revN_eq (n : Nat) : revN n = turnN n 64 := by
  apply Nat.eq_of_testBit_eq
  intro i
  rw [turnN_bit]
  by_cases hi : i < 64
  · have hx : ∀ i k, i < 64 → k < 64 → i ^^^ k < 64 := fun i k a b => Nat.xor_lt_two_pow (n := 6) a b
    have hy : ∀ i, i < 64 → i ^^^ 32 ^^^ 16 ^^^ 8 ^^^ 4 ^^^ 2 ^^^ 1 = 63 - i := by decide +kernel
    unfold revN revbN
    rw [last_bit _ _ (sw_lt _ _ _ (by decide)) hi]
    have h1 := hx i 32 hi (by decide)
    have h2 := hx _ 16 h1 (by decide)
    have h3 := hx _ 8 h2 (by decide)
    have h4 := hx _ 4 h3 (by decide)
    have h5 := hx _ 2 h4 (by decide)
    rw [sw_bit 16 _ _ _ (by decide +kernel) h1, sw_bit 8 _ _ _ (by decide +kernel) h2, sw_bit 4 _ _ _ (by decide +kernel) h3, sw_bit 2 _ _ _ (by decide +kernel) h4, sw_bit 1 _ _ _ (by decide +kernel) h5, hy i hi, decide_eq_true hi]
    rfl
  · rw [decide_eq_false hi, Nat.testBit_lt_two_pow (Nat.lt_of_lt_of_le (revN_lt n) (Nat.pow_le_pow_right (by decide) (by omega)))]
    rfl

/-! ### as the program's numbers -/
def swI (s M x : Int) : Int := bits .or .u64 (bits .and .u64 (x / s) M) (IntKind.u64.wrap (bits .and .u64 x M * s))
def lastI (x : Int) : Int := bits .or .u64 (x / 4294967296) (IntKind.u64.wrap (x * 4294967296))
theorem swI_eq (k M n : Nat) (hn : n < 18446744073709551616) (hM : M < 18446744073709551616) : swI ((2 ^ k : Nat) : Int) (M : Int) (n : Int) = (sw k M n : Nat) := by
  unfold swI sw
  have h1 : n / 2 ^ k < 18446744073709551616 := Nat.lt_of_le_of_lt (Nat.div_le_self _ _) hn
  have e1 : (n : Int) / ((2 ^ k : Nat) : Int) = ((n / 2 ^ k : Nat) : Int) := rfl
  rw [e1, u64_and_nat _ _ h1 hM, u64_and_nat _ _ hn hM]
  have e2 : IntKind.u64.wrap (((n &&& M : Nat) : Int) * ((2 ^ k : Nat) : Int)) = (((n &&& M) * 2 ^ k % 2 ^ 64 : Nat) : Int) := by
    rw [IntKind.wrap_u64, ← Int.natCast_mul]; rfl
  rw [e2, u64_or_nat _ _ (Nat.and_lt_two_pow (n := 64) _ hM) (Nat.mod_lt _ (by decide))]
theorem lastI_eq (n : Nat) (hn : n < 18446744073709551616) : lastI (n : Int) = (lastN n : Nat) := by
  unfold lastI lastN
  have h1 : n / 2 ^ 32 < 18446744073709551616 := Nat.lt_of_le_of_lt (Nat.div_le_self _ _) hn
  have e1 : (n : Int) / 4294967296 = ((n / 2 ^ 32 : Nat) : Int) := rfl
  have e2 : IntKind.u64.wrap ((n : Int) * 4294967296) = ((n * 2 ^ 32 % 2 ^ 64 : Nat) : Int) := by
    rw [IntKind.wrap_u64]; rfl
  rw [e1, e2, u64_or_nat _ _ h1 (Nat.mod_lt _ (by decide))]

set_option maxRecDepth 100000 in
set_option maxHeartbeats 1600000 in
theorem revb_int (x : Int) (w : World) :
    Calls Try.prog 96 #[.int .u64 x] w fun e w' => e = .returned (.int .u64 (lastI (swI 65536 281470681808895 (swI 256 71777214294589695 x)))) ∧ w' = w := by
  go_enter Try.func96, Try.ntmps96
  go_wp2
  go_ret
  exact ⟨rfl, rfl⟩
set_option maxRecDepth 100000 in
set_option maxHeartbeats 1600000 in
theorem rev_int (x : Int) (w : World) :
    Calls Try.prog 93 #[.int .u64 x] w fun e w' => e = .returned (.int .u64 (lastI (swI 65536 281470681808895 (swI 256 71777214294589695 (swI 16 1085102592571150095 (swI 4 3689348814741910323 (swI 2 6148914691236517205 x))))))) ∧ w' = w := by
  go_enter Try.func93, Try.ntmps93
  go_wp2_with fail
  refine (revb_int _ w).mono ?_
  rintro e w1 ⟨rfl, rfl⟩
  go_wp2
  go_ret
  exact ⟨rfl, rfl⟩
theorem rev_any (n : Nat) (w : World) (h : n < 2 ^ 64) :
    Calls Try.prog 93 #[.int .u64 n] w fun e w' => e = .returned (.int .u64 (turnN n 64 : Nat)) ∧ w' = w := by
  refine (rev_int n w).mono ?_
  rintro e w1 ⟨rfl, rfl⟩
  refine ⟨?_, rfl⟩
  have e1 := swI_eq 1 6148914691236517205 n h (by decide)
  have e2 := swI_eq 2 3689348814741910323 _ (sw_lt 1 6148914691236517205 n (by decide)) (by decide)
  have e3 := swI_eq 4 1085102592571150095 _ (sw_lt 2 3689348814741910323 (sw 1 6148914691236517205 n) (by decide)) (by decide)
  have e4 := swI_eq 8 71777214294589695 _ (sw_lt 4 1085102592571150095 (sw 2 3689348814741910323 (sw 1 6148914691236517205 n)) (by decide)) (by decide)
  have e5 := swI_eq 16 281470681808895 _ (sw_lt 8 71777214294589695 (sw 4 1085102592571150095 (sw 2 3689348814741910323 (sw 1 6148914691236517205 n))) (by decide)) (by decide)
  have e6 := lastI_eq _ (sw_lt 16 281470681808895 (sw 8 71777214294589695 (sw 4 1085102592571150095 (sw 2 3689348814741910323 (sw 1 6148914691236517205 n)))) (by decide))
  have h1 : swI 2 6148914691236517205 n = ((sw 1 6148914691236517205 n : Nat) : Int) := e1
  rw [h1]
  have h2 : swI 4 3689348814741910323 ((sw 1 6148914691236517205 n : Nat) : Int) = _ := e2
  rw [h2]
  have h3 : swI 16 1085102592571150095 ((sw 2 3689348814741910323 (sw 1 6148914691236517205 n) : Nat) : Int) = _ := e3
  rw [h3]
  have h4 : swI 256 71777214294589695 ((sw 4 1085102592571150095 (sw 2 3689348814741910323 (sw 1 6148914691236517205 n)) : Nat) : Int) = _ := e4
  rw [h4]
  have h5 : swI 65536 281470681808895 ((sw 8 71777214294589695 (sw 4 1085102592571150095 (sw 2 3689348814741910323 (sw 1 6148914691236517205 n))) : Nat) : Int) = _ := e5
  rw [h5, e6, ← revN_eq]
  rfl
end Go.Proofs.Ytciejmlhdmjajaa
namespace Go.Proofs.Ytciejmlhdmjajaa
open Go.RowKit
set_option linter.unusedVariables false
set_option linter.unusedSimpArgs false

/-- How many codes there are of length n. -/
def cnt : List Nat → Nat → Nat
  | [], _ => 0
  | x :: l, n => (if x = n then 1 else 0) + cnt l n
theorem cnt_append (a b : List Nat) (n : Nat) : cnt (a ++ b) n = cnt a n + cnt b n := by
  induction a with
  | nil => simp [cnt]
  | cons x a ih => simp only [List.cons_append, cnt, ih]; omega
theorem cnt_le (l : List Nat) (n : Nat) : cnt l n ≤ l.length := by
  induction l with
  | nil => simp [cnt]
  | cons x l ih => simp only [cnt, List.length_cons]; split <;> omega
theorem cnt_take (l : List Nat) (i n x : Nat) (h : l[i]? = some x) : cnt (l.take (i + 1)) n = cnt (l.take i) n + (if x = n then 1 else 0) := by
  obtain ⟨hi, he⟩ := List.getElem?_eq_some_iff.1 h
  rw [List.take_succ_eq_append_getElem hi, cnt_append, he]
  simp [cnt]
theorem cnt_take_le (l : List Nat) (i j n : Nat) (h : i ≤ j) : cnt (l.take i) n ≤ cnt (l.take j) n := by
  have := cnt_append (l.take i) ((l.drop i).take (j - i)) n
  rw [← List.take_add, show i + (j - i) = j by omega] at this
  omega
theorem cnt_all (l : List Nat) (i n : Nat) : cnt (l.take i) n ≤ cnt l n := by
  have := cnt_append (l.take i) (l.drop i) n
  rw [List.take_append_drop] at this
  omega
/-- The q-th code of length n. -/
theorem cnt_find (l : List Nat) (n q : Nat) (h : q < cnt l n) : ∃ s, l[s]? = some n ∧ cnt (l.take s) n = q := by
  induction l generalizing q with
  | nil => simp [cnt] at h
  | cons x l ih =>
    simp only [cnt] at h
    by_cases hx : x = n
    · subst hx
      cases q with
      | zero => exact ⟨0, rfl, rfl⟩
      | succ q =>
        obtain ⟨s, h1, h2⟩ := ih q (by simp at h; omega)
        exact ⟨s + 1, by simpa using h1, by simp only [List.take_succ_cons, cnt, if_true, h2]; omega⟩
    · obtain ⟨s, h1, h2⟩ := ih q (by simp [hx] at h; omega)
      exact ⟨s + 1, by simpa using h1, by simp only [List.take_succ_cons, cnt, if_neg hx, h2]; omega⟩

/-- What the codes of lengths up to k weigh. -/
def wt (l : List Nat) : Nat → Nat
  | 0 => 0
  | k + 1 => wt l k + cnt l (k + 1) * 2 ^ (15 - (k + 1))
/-- How many codes of lengths up to k there are. -/
def allN (l : List Nat) : Nat → Nat
  | 0 => 0
  | k + 1 => allN l k + cnt l (k + 1)
theorem wt_le (l : List Nat) {j k : Nat} (h : j ≤ k) : wt l j ≤ wt l k := by
  induction k with
  | zero => rw [show j = 0 by omega]; exact Nat.le_refl _
  | succ k ih =>
    by_cases hj : j = k + 1
    · subst hj; exact Nat.le_refl _
    · exact Nat.le_trans (ih (by omega)) (by simp only [wt]; omega)
/-- The first code of length n. -/
def base (l : List Nat) : Nat → Nat
  | 0 => 0
  | 1 => 0
  | n + 2 => (base l (n + 1) + cnt l (n + 1)) * 2
theorem base_wt (l : List Nat) (n : Nat) (h : n < 15) : base l (n + 1) * 2 ^ (15 - (n + 1)) = wt l n := by
  induction n with
  | zero => simp [base, wt]
  | succ n ih =>
    have := ih (by omega)
    simp only [base, wt]
    rw [← this, Nat.mul_assoc, ← Nat.pow_succ', show (15 - (n + 1 + 1)).succ = 15 - (n + 1) by omega, Nat.add_mul]
/-- The code of a symbol, its first bit the greatest. -/
def codeN (l : List Nat) (s : Nat) : Nat := base l (l.getD s 0) + cnt (l.take s) (l.getD s 0)
def lo (l : List Nat) (s : Nat) : Nat := codeN l s * 2 ^ (15 - l.getD s 0)
theorem getD_of {l : List Nat} {s n : Nat} (h : l[s]? = some n) : l.getD s 0 = n := by simp [List.getD, h]
theorem lo_eq {l : List Nat} {s n : Nat} (h : l[s]? = some n) (h1 : 0 < n) (h15 : n ≤ 15) : lo l s = wt l (n - 1) + cnt (l.take s) n * 2 ^ (15 - n) := by
  have := base_wt l (n - 1) (by omega)
  rw [show n - 1 + 1 = n by omega] at this
  unfold lo codeN
  rw [getD_of h, Nat.add_mul, this]
theorem cnt_lt {l : List Nat} {s n : Nat} (h : l[s]? = some n) : cnt (l.take s) n + 1 ≤ cnt l n := by
  have h1 := cnt_take l s n n h
  rw [if_pos rfl] at h1
  have := cnt_all l (s + 1) n
  omega
theorem hi_le {l : List Nat} {s n : Nat} (h : l[s]? = some n) (h1 : 0 < n) (h15 : n ≤ 15) : lo l s + 2 ^ (15 - n) ≤ wt l n := by
  rw [lo_eq h h1 h15]
  obtain ⟨k, rfl⟩ : ∃ k, n = k + 1 := ⟨n - 1, by omega⟩
  have := Nat.mul_le_mul_right (2 ^ (15 - (k + 1))) (cnt_lt h)
  rw [Nat.add_mul, Nat.one_mul] at this
  simp only [wt, Nat.add_sub_cancel]
  omega
theorem apart_codes {l : List Nat} {s t n m : Nat} (hs : l[s]? = some n) (ht : l[t]? = some m) (hn : 0 < n) (hm : 0 < m) (hn15 : n ≤ 15) (hm15 : m ≤ 15) (hst : s ≠ t) : lo l s + 2 ^ (15 - n) ≤ lo l t ∨ lo l t + 2 ^ (15 - m) ≤ lo l s := by
  rcases Nat.lt_trichotomy n m with h | h | h
  · left
    have h1 := hi_le hs hn hn15
    have h2 := wt_le l (show n ≤ m - 1 by omega)
    have h3 := lo_eq ht hm hm15
    omega
  · subst h
    rcases Nat.lt_or_gt_of_ne hst with h | h
    · left
      have h1 := cnt_take l s n n hs
      rw [if_pos rfl] at h1
      have h2 := cnt_take_le l (s + 1) t n h
      rw [lo_eq hs hn hn15, lo_eq ht hm hm15]
      have := Nat.mul_le_mul_right (2 ^ (15 - n)) (show cnt (l.take s) n + 1 ≤ cnt (l.take t) n by omega)
      rw [Nat.add_mul, Nat.one_mul] at this
      omega
    · right
      have h1 := cnt_take l t n n ht
      rw [if_pos rfl] at h1
      have h2 := cnt_take_le l (t + 1) s n h
      rw [lo_eq hs hn hn15, lo_eq ht hm hm15]
      have := Nat.mul_le_mul_right (2 ^ (15 - n)) (show cnt (l.take t) n + 1 ≤ cnt (l.take s) n by omega)
      rw [Nat.add_mul, Nat.one_mul] at this
      omega
  · right
    have h1 := hi_le ht hm hm15
    have h2 := wt_le l (show m ≤ n - 1 by omega)
    have h3 := lo_eq hs hn hn15
    omega
/-- Each row below what all of them weigh begins with a code. -/
theorem covered (l : List Nat) (k R : Nat) (hk : k ≤ 15) (h : R < wt l k) : ∃ s n, l[s]? = some n ∧ 0 < n ∧ n ≤ k ∧ lo l s ≤ R ∧ R < lo l s + 2 ^ (15 - n) := by
  induction k with
  | zero => simp [wt] at h
  | succ k ih =>
    by_cases hR : R < wt l k
    · obtain ⟨s, n, h1, h2, h3, h4⟩ := ih (by omega) hR
      exact ⟨s, n, h1, h2, by omega, h4⟩
    · simp only [wt] at h
      have hp : 0 < 2 ^ (15 - (k + 1)) := Nat.pow_pos (by decide)
      have hq : (R - wt l k) / 2 ^ (15 - (k + 1)) < cnt l (k + 1) := (Nat.div_lt_iff_lt_mul hp).2 (by omega)
      obtain ⟨s, h1, h2⟩ := cnt_find l (k + 1) _ hq
      refine ⟨s, k + 1, h1, by omega, by omega, ?_⟩
      rw [lo_eq h1 (by omega) hk, h2, Nat.add_sub_cancel]
      have := Nat.div_mul_le_self (R - wt l k) (2 ^ (15 - (k + 1)))
      have h5 := Nat.div_add_mod (R - wt l k) (2 ^ (15 - (k + 1)))
      have h6 := Nat.mod_lt (R - wt l k) hp
      rw [Nat.mul_comm] at h5
      omega

/-! ### weights by symbols -/
def wsum : List Nat → Nat
  | [] => 0
  | x :: l => (if x = 0 then 0 else 2 ^ (15 - x)) + wsum l
theorem wt_cons (x : Nat) (l : List Nat) (k : Nat) : wt (x :: l) k = wt l k + (if 0 < x ∧ x ≤ k then 2 ^ (15 - x) else 0) := by
  induction k with
  | zero => simp [wt]; omega
  | succ k ih =>
    simp only [wt, ih, cnt]
    by_cases h : x = k + 1
    · subst h
      rw [if_pos rfl, if_neg (by omega), if_pos (by omega), Nat.add_mul, Nat.one_mul]; omega
    · rw [if_neg h, Nat.zero_add]
      by_cases h2 : 0 < x ∧ x ≤ k
      · rw [if_pos h2, if_pos (by omega)]; omega
      · rw [if_neg h2, if_neg (by omega)]; rfl
theorem wsum_eq (l : List Nat) (h : ∀ x ∈ l, x ≤ 15) : wsum l = wt l 15 := by
  induction l with
  | nil => rfl
  | cons x l ih =>
    rw [wt_cons, wsum, ih (fun y hy => h y (by simp [hy]))]
    have := h x (by simp)
    by_cases hx : x = 0
    · rw [if_pos hx, if_neg (by omega)]; omega
    · rw [if_neg hx, if_pos (by omega)]; omega
theorem allN_cons (x : Nat) (l : List Nat) (k : Nat) : allN (x :: l) k = allN l k + (if 0 < x ∧ x ≤ k then 1 else 0) := by
  induction k with
  | zero => simp [allN]; omega
  | succ k ih =>
    simp only [allN, ih, cnt]
    by_cases h : x = k + 1
    · subst h
      rw [if_pos rfl, if_neg (by omega), if_pos (by omega)]; omega
    · rw [if_neg h, Nat.zero_add]
      by_cases h2 : 0 < x ∧ x ≤ k
      · rw [if_pos h2, if_pos (by omega)]; omega
      · rw [if_neg h2, if_neg (by omega)]; rfl
/-- What lengths are: P5.1's kinds. -/
def badL (l : List Nat) : Bool := decide (320 < l.length) || l.any fun x => decide (15 < x)
def kindN (l : List Nat) : Nat :=
  if badL l then 5 else if allN l 15 = 0 then 0 else if 32768 < wt l 15 then 4 else if wt l 15 = 32768 then 2 else if allN l 15 = 1 ∧ cnt l 1 = 1 then 1 else 3
theorem kind_ok {l : List Nat} (h : badL l = false) : l.length ≤ 320 ∧ ∀ x ∈ l, x ≤ 15 := by
  unfold badL at h
  rw [Bool.or_eq_false_iff, decide_eq_false_iff_not] at h
  refine ⟨by omega, fun x hx => ?_⟩
  have := List.any_eq_false.1 h.2 x hx
  simp at this
  omega
end Go.Proofs.Ytciejmlhdmjajaa

