/- Plain numbers and bytes: a text's bytes as one number, the lowest byte first, and back. Nothing of the program stands here. -/
import Derived.Laws.BitsAllLaws
import Derived.IntWalk
namespace Go.Proofs.Ytmajacfcfdljeaa

/-- The number that bytes are, the lowest one first. -/
def numL : List UInt8 → Nat
  | [] => 0
  | b :: l => b.toNat + 256 * numL l
/-- The lowest k bytes of a number. -/
def lebL (n : Nat) : Nat → List UInt8
  | 0 => []
  | k + 1 => UInt8.ofNat n :: lebL (n / 256) k
def num (s : ByteArray) : Nat := numL s.data.toList
def leb (n k : Nat) : ByteArray := ⟨(lebL n k).toArray⟩

theorem numL_append (a b : List UInt8) : numL (a ++ b) = numL a + 256 ^ a.length * numL b := by
  induction a with
  | nil => simp [numL]
  | cons x a ih => simp only [List.cons_append, numL, ih, List.length_cons, Nat.pow_succ, Nat.mul_add]; rw [Nat.add_assoc, Nat.mul_comm (256 ^ a.length) 256, Nat.mul_assoc]
theorem numL_lt (a : List UInt8) : numL a < 256 ^ a.length := by
  induction a with
  | nil => simp [numL]
  | cons x a ih => simp only [numL, List.length_cons, Nat.pow_succ]; have := x.toNat_lt; omega
theorem length_lebL (n k : Nat) : (lebL n k).length = k := by
  induction k generalizing n with
  | zero => rfl
  | succ k ih => simp [lebL, ih]
theorem numL_lebL (n k : Nat) : numL (lebL n k) = n % 256 ^ k := by
  induction k generalizing n with
  | zero => simp [lebL, numL, Nat.mod_one]
  | succ k ih =>
    simp only [lebL, numL, ih, Nat.pow_succ]
    have e : (UInt8.ofNat n).toNat = n % 256 := by simp
    rw [e, Nat.mul_comm (256 ^ k) 256, Nat.mod_mul]
theorem numL_inj {a b : List UInt8} (hl : a.length = b.length) (h : numL a = numL b) : a = b := by
  induction a generalizing b with
  | nil => cases b with
    | nil => rfl
    | cons => simp at hl
  | cons x a ih => cases b with
    | nil => simp at hl
    | cons y b =>
      simp only [numL] at h
      have hx := x.toNat_lt; have hy := y.toNat_lt
      have h1 : x = y := UInt8.toNat.inj (by omega)
      rw [h1, ih (by simpa using hl) (by omega)]
theorem lebL_numL (a : List UInt8) : lebL (numL a) a.length = a := by
  apply numL_inj (length_lebL _ _)
  rw [numL_lebL, Nat.mod_eq_of_lt (numL_lt a)]
theorem numL_take (a : List UInt8) (k : Nat) : numL (a.take k) = numL a % 256 ^ k := by
  by_cases h : k ≤ a.length
  · have e := numL_append (a.take k) (a.drop k)
    rw [List.take_append_drop] at e
    have hl : (a.take k).length = k := by simp; omega
    have := numL_lt (a.take k)
    rw [hl] at e this
    rw [e, Nat.add_mul_mod_self_left, Nat.mod_eq_of_lt this]
  · rw [List.take_of_length_le (by omega), Nat.mod_eq_of_lt]
    exact Nat.lt_of_lt_of_le (numL_lt a) (Nat.pow_le_pow_right (by decide) (by omega))
theorem numL_drop (a : List UInt8) (k : Nat) : numL (a.drop k) = numL a / 256 ^ k := by
  by_cases h : k ≤ a.length
  · have e := numL_append (a.take k) (a.drop k)
    rw [List.take_append_drop] at e
    have hl : (a.take k).length = k := by simp; omega
    have := numL_lt (a.take k)
    rw [hl] at e this
    rw [e, Nat.add_mul_div_left _ _ (Nat.pow_pos (by decide)), Nat.div_eq_of_lt this, Nat.zero_add]
  · rw [List.drop_of_length_le (by omega), Nat.div_eq_of_lt]
    · rfl
    · exact Nat.lt_of_lt_of_le (numL_lt a) (Nat.pow_le_pow_right (by decide) (by omega))
theorem numL_zeros (k : Nat) : numL (List.replicate k 0) = 0 := by
  induction k with
  | zero => rfl
  | succ k ih => simp [List.replicate_succ, numL, ih]
theorem pow256 (k : Nat) : 256 ^ k = 2 ^ (8 * k) := by rw [Nat.pow_mul]
theorem numL_get (a : List UInt8) (k : Nat) (h : k < a.length) : (a[k]).toNat = numL a / 2 ^ (8 * k) % 256 := by
  have e := numL_drop a k
  rw [List.drop_eq_getElem_cons h, numL, pow256] at e
  have := (a[k]).toNat_lt
  omega
theorem lebL_add (n j k : Nat) : lebL n (j + k) = lebL n j ++ lebL (n / 256 ^ j) k := by
  apply numL_inj (by simp [length_lebL])
  rw [numL_append, numL_lebL, numL_lebL, numL_lebL, length_lebL, Nat.pow_add, Nat.mod_mul]
theorem lebL_mod (n k : Nat) : lebL (n % 256 ^ k) k = lebL n k := by
  apply numL_inj (by simp [length_lebL])
  rw [numL_lebL, numL_lebL, Nat.mod_mod]
theorem size_leb (n k : Nat) : (leb n k).size = k := by show (lebL n k).toArray.size = k; rw [List.size_toArray, length_lebL]
theorem num_leb (n k : Nat) : num (leb n k) = n % 256 ^ k := by show numL ((lebL n k).toArray).toList = _; rw [numL_lebL]
theorem num_lt (s : ByteArray) : num s < 2 ^ (8 * s.size) := by have := numL_lt s.data.toList; rw [pow256] at this; exact this
theorem leb_num (s : ByteArray) : leb (num s) s.size = s := by
  show (⟨(lebL (numL s.data.toList) s.data.toList.length).toArray⟩ : ByteArray) = s
  rw [lebL_numL]
theorem num_inj {a b : ByteArray} (hl : a.size = b.size) (h : num a = num b) : a = b := by
  rw [← leb_num a, ← leb_num b, hl, h]

/-! ### Bits of numbers of 64 bits, as Go's operators have them -/
theorem or_low (x y i : Nat) (hx : x < 2 ^ i) (hy : y * 2 ^ i < 2 ^ 64) (hx64 : x < 2 ^ 64) : bits .or .u64 (x : Int) ((y * 2 ^ i : Nat) : Int) = ((x + y * 2 ^ i : Nat) : Int) := by
  rw [u64_or_nat _ _ (by simpa using hx64) (by simpa using hy)]
  congr 1
  rw [Nat.or_comm, nat_join i _ _ (Nat.mul_mod_left _ _) hx, Nat.add_comm]
theorem and_mask (x k : Nat) (hx : x < 2 ^ 64) (hk : k ≤ 64) : bits .and .u64 (x : Int) ((2 ^ k - 1 : Nat) : Int) = ((x % 2 ^ k : Nat) : Int) := by
  have h1 : 2 ^ k ≤ 2 ^ 64 := Nat.pow_le_pow_right (by decide) hk
  rw [u64_and_nat _ _ (by simpa using hx) (by omega)]
  rw [Nat.and_two_pow_sub_one_eq_mod]
theorem andNot_mask (x k : Nat) (hx : x < 2 ^ 64) (hk : k ≤ 64) : bits .andNot .u64 (x : Int) ((2 ^ k - 1 : Nat) : Int) = ((x / 2 ^ k * 2 ^ k : Nat) : Int) := by
  have h1 : 2 ^ k ≤ 2 ^ 64 := Nat.pow_le_pow_right (by decide) hk
  rw [u64_andNot_nat _ _ (by simpa using hx) (by omega)]
  congr 1
  apply Nat.eq_of_testBit_eq
  intro i
  rw [Nat.testBit_and, ← Nat.shiftRight_eq_div_pow, ← Nat.shiftLeft_eq, Nat.testBit_shiftLeft, Nat.testBit_shiftRight]
  have h2 : 18446744073709551615 - (2 ^ k - 1) = 2 ^ 64 - (2 ^ k - 1 + 1) := by omega
  rw [h2, Nat.testBit_two_pow_sub_succ (by omega), Nat.testBit_two_pow_sub_one]
  by_cases h : k ≤ i
  · by_cases h64 : i < 64
    · simp [h, h64, show k + (i - k) = i by omega]
    · have : x.testBit i = false := Nat.testBit_lt_two_pow (Nat.lt_of_lt_of_le hx (Nat.pow_le_pow_right (by decide) (by omega)))
      simp [h, h64, show k + (i - k) = i by omega, this]
  · simp [h]; omega

/-! ### the same of int -/
theorem ofInt_mod (x : Int) : (BitVec.ofInt 64 x).toNat = (x % 18446744073709551616).toNat := by
  rw [BitVec.toNat_ofInt]; rfl
/-- x & 7 of whatever int. -/
theorem i64_and_7 (x : Int) : bits .and .i64 x 7 = x % 8 := by
  show IntKind.i64.wrap ((BitVec.ofInt 64 x &&& BitVec.ofInt 64 7).toNat : Int) = _
  rw [BitVec.toNat_and, ofInt_mod]
  have e : (BitVec.ofInt 64 7).toNat = 2 ^ 3 - 1 := by decide
  rw [e, Nat.and_two_pow_sub_one_eq_mod, IntKind.wrap_i64]
  omega
/-- x &^ (2^k - 1) of an int that is not below 0. -/
theorem i64_andNot_low (x k : Nat) (hx : x < 2 ^ 63) (hk : k ≤ 62) : bits .andNot .i64 (x : Int) ((2 ^ k - 1 : Nat) : Int) = ((x / 2 ^ k * 2 ^ k : Nat) : Int) := by
  have h1 : 2 ^ k ≤ 2 ^ 62 := Nat.pow_le_pow_right (by decide) hk
  have hu := andNot_mask x k (by omega) (by omega)
  rw [u64_andNot_nat _ _ (by omega) (by omega)] at hu
  show IntKind.i64.wrap ((BitVec.ofInt 64 (x : Int) &&& ~~~BitVec.ofInt 64 ((2 ^ k - 1 : Nat) : Int)).toNat : Int) = _
  rw [BitVec.toNat_and, BitVec.toNat_not, ofInt_u64 _ (by omega), ofInt_u64 _ (by omega)]
  have e : 2 ^ 64 - 1 - (2 ^ k - 1) = 18446744073709551615 - (2 ^ k - 1) := by omega
  rw [e, hu, IntKind.wrap_i64]
  have := Nat.div_mul_le_self x (2 ^ k)
  omega
end Go.Proofs.Ytmajacfcfdljeaa

