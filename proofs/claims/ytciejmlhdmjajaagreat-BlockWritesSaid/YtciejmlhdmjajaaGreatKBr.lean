/- Plain numbers and bytes: a text's bytes as one number, the lowest byte first, and back. Nothing of the program stands here. What each call of a reader of bits (package bitr) does, and of a mask: each function of them once, whatever the text, wherever it stands. -/
import Derived.Test.YtciejmlhdmjajaaGreatKBa
import Derived.Laws.BitsAllLaws
import Derived.IntWalk
import Derived.Lib.IndexBytes
namespace Go.Proofs.YtciejmlhdmjajaaGreat

/-- The number that bytes are, the lowest one first. -/
def numL : List UInt8 → Nat
  | [] => 0
  | b :: l => b.toNat + 256 * numL l
/-- The lowest k bytes of a number. -/
def lebL (n : Nat) : Nat → List UInt8
  | 0 => []
  | k + 1 => UInt8.ofNat n :: lebL (n / 256) k
def num (s : ByteArray) : Nat := numL s.data.toList
def leb (n k : Nat) : ByteArray := ⟨(lebL n k).toArray⟩

theorem numL_append (a b : List UInt8) : numL (a ++ b) = numL a + 256 ^ a.length * numL b := by
  induction a with
  | nil => simp [numL]
  | cons x a ih => simp only [List.cons_append, numL, ih, List.length_cons, Nat.pow_succ, Nat.mul_add]; rw [Nat.add_assoc, Nat.mul_comm (256 ^ a.length) 256, Nat.mul_assoc]
theorem numL_lt (a : List UInt8) : numL a < 256 ^ a.length := by
  induction a with
  | nil => simp [numL]
  | cons x a ih => simp only [numL, List.length_cons, Nat.pow_succ]; have := x.toNat_lt; omega
theorem length_lebL (n k : Nat) : (lebL n k).length = k := by
  induction k generalizing n with
  | zero => rfl
  | succ k ih => simp [lebL, ih]
theorem numL_lebL (n k : Nat) : numL (lebL n k) = n % 256 ^ k := by
  induction k generalizing n with
  | zero => simp [lebL, numL, Nat.mod_one]
  | succ k ih =>
    simp only [lebL, numL, ih, Nat.pow_succ]
    have e : (UInt8.ofNat n).toNat = n % 256 := by simp
    rw [e, Nat.mul_comm (256 ^ k) 256, Nat.mod_mul]
theorem numL_inj {a b : List UInt8} (hl : a.length = b.length) (h : numL a = numL b) : a = b := by
  induction a generalizing b with
  | nil => cases b with
    | nil => rfl
    | cons => simp at hl
  | cons x a ih => cases b with
    | nil => simp at hl
    | cons y b =>
      simp only [numL] at h
      have hx := x.toNat_lt; have hy := y.toNat_lt
      have h1 : x = y := UInt8.toNat.inj (by omega)
      rw [h1, ih (by simpa using hl) (by omega)]
theorem lebL_numL (a : List UInt8) : lebL (numL a) a.length = a := by
  apply numL_inj (length_lebL _ _)
  rw [numL_lebL, Nat.mod_eq_of_lt (numL_lt a)]
theorem numL_take (a : List UInt8) (k : Nat) : numL (a.take k) = numL a % 256 ^ k := by
  by_cases h : k ≤ a.length
  · have e := numL_append (a.take k) (a.drop k)
    rw [List.take_append_drop] at e
    have hl : (a.take k).length = k := by simp; omega
    have := numL_lt (a.take k)
    rw [hl] at e this
    rw [e, Nat.add_mul_mod_self_left, Nat.mod_eq_of_lt this]
  · rw [List.take_of_length_le (by omega), Nat.mod_eq_of_lt]
    exact Nat.lt_of_lt_of_le (numL_lt a) (Nat.pow_le_pow_right (by decide) (by omega))
theorem numL_drop (a : List UInt8) (k : Nat) : numL (a.drop k) = numL a / 256 ^ k := by
  by_cases h : k ≤ a.length
  · have e := numL_append (a.take k) (a.drop k)
    rw [List.take_append_drop] at e
    have hl : (a.take k).length = k := by simp; omega
    have := numL_lt (a.take k)
    rw [hl] at e this
    rw [e, Nat.add_mul_div_left _ _ (Nat.pow_pos (by decide)), Nat.div_eq_of_lt this, Nat.zero_add]
  · rw [List.drop_of_length_le (by omega), Nat.div_eq_of_lt]
    · rfl
    · exact Nat.lt_of_lt_of_le (numL_lt a) (Nat.pow_le_pow_right (by decide) (by omega))
theorem numL_zeros (k : Nat) : numL (List.replicate k 0) = 0 := by
  induction k with
  | zero => rfl
  | succ k ih => simp [List.replicate_succ, numL, ih]
theorem pow256 (k : Nat) : 256 ^ k = 2 ^ (8 * k) := by rw [Nat.pow_mul]
theorem numL_get (a : List UInt8) (k : Nat) (h : k < a.length) : (a[k]).toNat = numL a / 2 ^ (8 * k) % 256 := by
  have e := numL_drop a k
  rw [List.drop_eq_getElem_cons h, numL, pow256] at e
  have := (a[k]).toNat_lt
  omega
theorem lebL_add (n j k : Nat) : lebL n (j + k) = lebL n j ++ lebL (n / 256 ^ j) k := by
  apply numL_inj (by simp [length_lebL])
  rw [numL_append, numL_lebL, numL_lebL, numL_lebL, length_lebL, Nat.pow_add, Nat.mod_mul]
theorem lebL_mod (n k : Nat) : lebL (n % 256 ^ k) k = lebL n k := by
  apply numL_inj (by simp [length_lebL])
  rw [numL_lebL, numL_lebL, Nat.mod_mod]
theorem size_leb (n k : Nat) : (leb n k).size = k := by show (lebL n k).toArray.size = k; rw [List.size_toArray, length_lebL]
theorem num_leb (n k : Nat) : num (leb n k) = n % 256 ^ k := by show numL ((lebL n k).toArray).toList = _; rw [numL_lebL]
theorem num_lt (s : ByteArray) : num s < 2 ^ (8 * s.size) := by have := numL_lt s.data.toList; rw [pow256] at this; exact this
theorem leb_num (s : ByteArray) : leb (num s) s.size = s := by
  show (⟨(lebL (numL s.data.toList) s.data.toList.length).toArray⟩ : ByteArray) = s
  rw [lebL_numL]
theorem num_inj {a b : ByteArray} (hl : a.size = b.size) (h : num a = num b) : a = b := by
  rw [← leb_num a, ← leb_num b, hl, h]

/-! ### Bits of numbers of 64 bits, as Go's operators have them -/
theorem or_low (x y i : Nat) (hx : x < 2 ^ i) (hy : y * 2 ^ i < 2 ^ 64) (hx64 : x < 2 ^ 64) : bits .or .u64 (x : Int) ((y * 2 ^ i : Nat) : Int) = ((x + y * 2 ^ i : Nat) : Int) := by
  rw [u64_or_nat _ _ (by simpa using hx64) (by simpa using hy)]
  congr 1
  rw [Nat.or_comm, nat_join i _ _ (Nat.mul_mod_left _ _) hx, Nat.add_comm]
theorem and_mask (x k : Nat) (hx : x < 2 ^ 64) (hk : k ≤ 64) : bits .and .u64 (x : Int) ((2 ^ k - 1 : Nat) : Int) = ((x % 2 ^ k : Nat) : Int) := by
  have h1 : 2 ^ k ≤ 2 ^ 64 := Nat.pow_le_pow_right (by decide) hk
  rw [u64_and_nat _ _ (by simpa using hx) (by omega)]
  rw [Nat.and_two_pow_sub_one_eq_mod]
theorem andNot_mask (x k : Nat) (hx : x < 2 ^ 64) (hk : k ≤ 64) : bits .andNot .u64 (x : Int) ((2 ^ k - 1 : Nat) : Int) = ((x / 2 ^ k * 2 ^ k : Nat) : Int) := by
  have h1 : 2 ^ k ≤ 2 ^ 64 := Nat.pow_le_pow_right (by decide) hk
  rw [u64_andNot_nat _ _ (by simpa using hx) (by omega)]
  congr 1
  apply Nat.eq_of_testBit_eq
  intro i
  rw [Nat.testBit_and, ← Nat.shiftRight_eq_div_pow, ← Nat.shiftLeft_eq, Nat.testBit_shiftLeft, Nat.testBit_shiftRight]
  have h2 : 18446744073709551615 - (2 ^ k - 1) = 2 ^ 64 - (2 ^ k - 1 + 1) := by omega
  rw [h2, Nat.testBit_two_pow_sub_succ (by omega), Nat.testBit_two_pow_sub_one]
  by_cases h : k ≤ i
  · by_cases h64 : i < 64
    · simp [h, h64, show k + (i - k) = i by omega]
    · have : x.testBit i = false := Nat.testBit_lt_two_pow (Nat.lt_of_lt_of_le hx (Nat.pow_le_pow_right (by decide) (by omega)))
      simp [h, h64, show k + (i - k) = i by omega, this]
  · simp [h]; omega

/-! ### the same of int -/
theorem ofInt_mod (x : Int) : (BitVec.ofInt 64 x).toNat = (x % 18446744073709551616).toNat := by
  rw [BitVec.toNat_ofInt]; rfl
/-- x & 7 of whatever int. -/
theorem i64_and_7 (x : Int) : bits .and .i64 x 7 = x % 8 := by
  show IntKind.i64.wrap ((BitVec.ofInt 64 x &&& BitVec.ofInt 64 7).toNat : Int) = _
  rw [BitVec.toNat_and, ofInt_mod]
  have e : (BitVec.ofInt 64 7).toNat = 2 ^ 3 - 1 := by decide
  rw [e, Nat.and_two_pow_sub_one_eq_mod, IntKind.wrap_i64]
  omega
/-- x &^ (2^k - 1) of an int that is not below 0. -/
theorem i64_andNot_low (x k : Nat) (hx : x < 2 ^ 63) (hk : k ≤ 62) : bits .andNot .i64 (x : Int) ((2 ^ k - 1 : Nat) : Int) = ((x / 2 ^ k * 2 ^ k : Nat) : Int) := by
  have h1 : 2 ^ k ≤ 2 ^ 62 := Nat.pow_le_pow_right (by decide) hk
  have hu := andNot_mask x k (by omega) (by omega)
  rw [u64_andNot_nat _ _ (by omega) (by omega)] at hu
  show IntKind.i64.wrap ((BitVec.ofInt 64 (x : Int) &&& ~~~BitVec.ofInt 64 ((2 ^ k - 1 : Nat) : Int)).toNat : Int) = _
  rw [BitVec.toNat_and, BitVec.toNat_not, ofInt_u64 _ (by omega), ofInt_u64 _ (by omega)]
  have e : 2 ^ 64 - 1 - (2 ^ k - 1) = 18446744073709551615 - (2 ^ k - 1) := by omega
  rw [e, hu, IntKind.wrap_i64]
  have := Nat.div_mul_le_self x (2 ^ k)
  omega
end Go.Proofs.YtciejmlhdmjajaaGreat
namespace Go.Proofs.YtciejmlhdmjajaaGreat
open Go.RowKit
set_option linter.unusedVariables false
set_option linter.unusedSimpArgs false

theorem ret_int {k : IntKind} {a b : Int} (h : a = b) : Ending.returned (.int k a) = .returned (.int k b) := by rw [h]

/-- As many bits as are asked for, or as are there; and their number. -/
def peekH (s : ByteArray) (a : Nat) (size : Nat) : Nat := min size (8 * s.size - a)
def peekN (s : ByteArray) (a : Nat) (size : Nat) : Nat := num s / 2 ^ a % 2 ^ peekH s a size
def maskN (a : Int) : Nat := 2 ^ min a.toNat 64 - 1

theorem maskN_lt (a : Int) : maskN a < 2 ^ 64 := by
  have : 2 ^ min a.toNat 64 ≤ 2 ^ 64 := Nat.pow_le_pow_right (by decide) (by omega)
  have : 0 < 2 ^ min a.toNat 64 := Nat.pow_pos (by decide)
  unfold maskN; omega

set_option maxHeartbeats 400000 in
theorem mask_any (a : Int) (w : World) : Calls Tryz.prog 18 #[.int .i64 a] w fun e w' => e = .returned (.int .u64 (maskN a : Int)) ∧ w' = w := by
  by_cases h0 : a ≤ 0
  · have e : (maskN a : Int) = 0 := by simp [maskN, show min a.toNat 64 = 0 by omega]
    rw [e]; clear e
    go_enter Tryz.func18, Tryz.ntmps18
    go_wp2
    go_ret
    exact ⟨rfl, rfl⟩
  · by_cases h1 : 64 ≤ a
    · have e : (maskN a : Int) = 18446744073709551615 := by simp [maskN, show min a.toNat 64 = 64 by omega]
      rw [e]; clear e
      have h0' : 0 < a := by omega
      clear h0
      go_enter Tryz.func18, Tryz.ntmps18
      go_wp2
      go_ret
      exact ⟨rfl, rfl⟩
    · have e : IntKind.u64.wrap (IntKind.u64.wrap (2 ^ a.toNat) - 1) = (maskN a : Int) := by
        have hp : (2:Nat) ^ a.toNat ≤ 2 ^ 63 := Nat.pow_le_pow_right (by decide) (by omega)
        have hq : 0 < (2:Nat) ^ a.toNat := Nat.pow_pos (by decide)
        have hc : ((2:Int) ^ a.toNat) = ((2 ^ a.toNat : Nat) : Int) := by simp
        rw [IntKind.wrap_u64, IntKind.wrap_u64, hc]
        simp only [maskN, show min a.toNat 64 = a.toNat by omega]
        omega
      have H := Lib.hid e
      clear e
      have h0' : 0 < a := by omega
      have h1' : a < 64 := by omega
      clear h0 h1
      go_enter Tryz.func18, Tryz.ntmps18
      go_wp2
      go_ret
      exact ⟨by rw [← H.out]; rfl, rfl⟩

/-- What a skip tells. -/
def skipE (s : ByteArray) (a : Nat) (size : Int) : Int := if size < 0 then 2 else if ((8 * s.size - a : Nat) : Int) < size then 6 else 0

/-- The eight bytes from a place on, noughts behind the end. -/
def eight (s : ByteArray) (k : Nat) : List UInt8 := (s.data.toList.drop k).take 8 ++ List.replicate (8 - min (s.size - k) 8) 0
theorem eight_length (s : ByteArray) (k : Nat) : (eight s k).length = 8 := by
  have : s.data.toList.length = s.size := by simp
  simp only [eight, List.length_append, List.length_take, List.length_drop, List.length_replicate, this]; omega
theorem eight_num (s : ByteArray) (k : Nat) : numL (eight s k) = num s / 2 ^ (8 * k) % 2 ^ 64 := by
  rw [eight, numL_append, numL_zeros, numL_take, numL_drop, Nat.mul_zero, Nat.add_zero, pow256]; rfl
theorem eight_cells (s : ByteArray) (k : Nat) : ((Lib.byteCells (s.extract k s.size).data.toList).take (min (s.extract k s.size).size 8) ++ (#[.int .u8 0, .int .u8 0, .int .u8 0, .int .u8 0, .int .u8 0, .int .u8 0, .int .u8 0, .int .u8 0] : Array Value).toList.drop (min (s.extract k s.size).size 8)).toArray = (Lib.byteCells (eight s k)).toArray := by
  have hsz : (s.extract k s.size).size = s.size - k := by simp
  have hl : s.data.toList.length = s.size := by simp
  rw [Lib.extract_to_end, hsz]
  congr 1
  have e : (#[.int .u8 0, .int .u8 0, .int .u8 0, .int .u8 0, .int .u8 0, .int .u8 0, .int .u8 0, .int .u8 0] : Array Value).toList = List.replicate 8 (.int .u8 0) := rfl
  rw [e, List.drop_replicate]
  simp only [Lib.byteCells, eight, List.map_append, List.map_replicate, List.map_take]
  congr 1
  by_cases h : s.size - k ≤ 8
  · rw [show min (s.size - k) 8 = s.size - k by omega, List.take_of_length_le (by simp), List.take_of_length_le (by simp; omega)]
  · rw [show min (s.size - k) 8 = 8 by omega]

theorem or_step (bs : List UInt8) (k : Nat) (hl : bs.length = 8) (hk : k < 8) :
    bits .or .u64 (numL (bs.take k) : Int) (IntKind.u64.wrap (IntKind.u64.wrap ((bs[k]?.getD 0).toNat : Int) * 2 ^ (8 * k))) = (numL (bs.take (k + 1)) : Int) := by
  have e1 : bs[k]?.getD 0 = bs[k] := by rw [List.getElem?_eq_getElem (by omega)]; rfl
  have hb := (bs[k]).toNat_lt
  have hn := numL_lt (bs.take k)
  rw [pow256, List.length_take, hl, show min k 8 = k by omega] at hn
  have hp : (bs[k]).toNat * 2 ^ (8 * k) < 2 ^ 64 := by
    have : (2:Nat) ^ (8 * k) ≤ 2 ^ 56 := Nat.pow_le_pow_right (by decide) (by omega)
    calc (bs[k]).toNat * 2 ^ (8 * k) < 256 * 2 ^ (8 * k) := Nat.mul_lt_mul_of_pos_right hb (Nat.pow_pos (by decide))
      _ ≤ 256 * 2 ^ 56 := Nat.mul_le_mul_left _ this
      _ = 2 ^ 64 := by decide
  have e2 : IntKind.u64.wrap (IntKind.u64.wrap ((bs[k]).toNat : Int) * 2 ^ (8 * k)) = (((bs[k]).toNat * 2 ^ (8 * k) : Nat) : Int) := by
    have hc : ((2:Int) ^ (8 * k)) = ((2 ^ (8 * k) : Nat) : Int) := by simp
    rw [hc, IntKind.wrap_u64, IntKind.wrap_u64, Int.emod_eq_of_lt (a := ((bs[k]).toNat : Int)) (by omega) (by omega), ← Int.natCast_mul, Int.emod_eq_of_lt (by omega) (by omega)]
  rw [e1, e2, or_low _ _ _ hn hp (Nat.lt_of_lt_of_le hn (Nat.pow_le_pow_right (by decide) (by omega)))]
  congr 1
  rw [List.take_succ_eq_append_getElem (by omega), numL_append, List.length_take, show min k bs.length = k by omega, pow256]
  simp [numL, Nat.mul_comm]

theorem ret_two {k l : IntKind} {a b c d : Int} (h : a = b) (g : c = d) : Ending.returned (.tuple #[.int k a, .int l c]) = .returned (.tuple #[.int k b, .int l d]) := by rw [h, g]
theorem peek_fin (s : ByteArray) (a size : Nat) (bs : List UInt8) (ha : a ≤ 8 * s.size) (hz : size ≤ 56) (h : numL bs = num s / 2 ^ (8 * (a / 8)) % 2 ^ 64) :
    bits .and .u64 ((numL bs : Int) / 2 ^ (a % 8)) (maskN (peekH s a size : Int) : Int) = (peekN s a size : Int) := by
  have hc : ((2:Int) ^ (a % 8)) = ((2 ^ (a % 8) : Nat) : Int) := by simp
  have hp : peekH s a size ≤ 56 := by unfold peekH; omega
  have hm : maskN (peekH s a size : Int) = 2 ^ peekH s a size - 1 := by unfold maskN; rw [show min (peekH s a size : Int).toNat 64 = peekH s a size by omega]
  have hlt : numL bs < 2 ^ 64 := by rw [h]; exact Nat.mod_lt _ (by decide)
  rw [hc, ← Int.natCast_ediv, hm, and_mask _ _ (Nat.lt_of_le_of_lt (Nat.div_le_self _ _) hlt) (by omega), h]
  congr 1
  unfold peekN
  generalize peekH s a size = p at *
  have e1 : (2:Nat) ^ 64 = 2 ^ (a % 8) * 2 ^ (64 - a % 8) := by rw [← Nat.pow_add]; congr 1; omega
  have e2 : (2:Nat) ^ (64 - a % 8) = 2 ^ p * 2 ^ (64 - a % 8 - p) := by rw [← Nat.pow_add]; congr 1; omega
  have e3 : (2:Nat) ^ a = 2 ^ (8 * (a / 8)) * 2 ^ (a % 8) := by rw [← Nat.pow_add]; congr 1; omega
  rw [e1, Nat.mod_mul_right_div_self, e2, Nat.mod_mul_right_mod, Nat.div_div_eq_div_mul, ← e3]

/-- What a reading of bits tells, and the number that is read. -/
def bitsE (s : ByteArray) (a : Nat) (size : Int) : Int := if size < 0 ∨ 56 < size then 2 else if ((8 * s.size - a : Nat) : Int) < size then 6 else 0
def bitsN (s : ByteArray) (a : Nat) (size : Int) : Nat := if bitsE s a size = 0 then peekN s a size.toNat else 0

/-- Where a reader stands behind an aligning. -/
def alignA (a : Nat) : Nat := (a + 7) / 8 * 8

theorem i64_align (a : Nat) (h : a < 2 ^ 40) : bits .andNot .i64 ((a : Int) + 7) 7 = (alignA a : Int) := by
  have := i64_andNot_low (a + 7) 3 (by omega) (by decide)
  simpa [alignA] using this

/-- What a reading of whole bytes tells, and which they are. -/
def bytesE (s : ByteArray) (a : Nat) (n : Int) : Int := if n < 0 then 2 else if (((8 * s.size - a) / 8 : Nat) : Int) < n then 6 else 0
def bytesS (s : ByteArray) (a : Nat) (n : Int) : ByteArray := if bytesE s a n = 0 then s.extract (alignA a / 8) (alignA a / 8 + n.toNat) else ByteArray.empty

/-! ### none at all -/
end Go.Proofs.YtciejmlhdmjajaaGreat

